/-
  THE ABSTRACT TEXTS OF FUNCTIONS (WithinA), printed by irgen.py, and that they are the functions' own. Conditions: none.
-/
import Derived.Test.YtfdkgbejhdmpbaaProg
import Derived.Test.YtfdkgbejhdmpbaaAvDraw
set_option linter.unusedVariables false
set_option maxRecDepth 100000
namespace Go.Proofs.Ytfdkgbejhdmpbaa
open Go.Proofs.Ytfdkgbejhdmpbaa.Av

theorem follows_WithinA : Try.prog.follows .mixedOrders = true := by kernel_rfl

def ir_impl_within : ICode := (.seq (.region [⟨some 6, none, .mov (.c (.bool false))⟩]) (.seq (.region [⟨some 7, none, .mov (.t 0)⟩, ⟨some 8, none, .mov (.t 1)⟩, ⟨some 9, none, .bin .geq .other (.t 7) (.t 8)⟩, ⟨some 10, none, .mov (.t 9)⟩, ⟨some 11, some (10, true), .mov (.t 0)⟩, ⟨some 12, some (10, true), .mov (.t 2)⟩, ⟨some 13, some (10, true), .bin .leq .other (.t 11) (.t 12)⟩, ⟨some 14, none, .pick (.t 10) (.t 13) (.c (.bool false))⟩, ⟨some 6, none, .mov (.t 14)⟩]) .ret))
def rs_impl_within : List IRes := [(.t 6)]
theorem low_impl_within : lowF Try.prog [] [] 3 Try.f54 = some (ir_impl_within, rs_impl_within) := by kernel_rfl
theorem fun_impl_within {args : List AV} {res : AV} (hn : args.length = 3) (h1 : ∀ x ∈ args, AvPure x) (h2 : AvPure res) (h : awp Try.prog ir_impl_within (Ret rs_impl_within res) ⟨entry 0 args, []⟩) : CallsF Try.prog 54 args res :=
  callsF follows_WithinA Try.func54 (by kernel_rfl) (by rw [hn]; exact low_impl_within) h1 h2 h

def ir_spec_Wrap : ICode := (.seq (.region [⟨some 2, none, .mov (.c (.int .i64 0))⟩]) (.seq (.region [⟨some 3, none, .mov (.t 0)⟩, ⟨some 4, none, .binw .shl (.t 3) (.c (.int .u64 1))⟩, ⟨some 5, none, .binw .shr (.t 4) (.c (.int .u64 1))⟩, ⟨some 2, none, .mov (.t 5)⟩]) .ret))
def rs_spec_Wrap : List IRes := [(.t 2)]
theorem low_spec_Wrap : lowF Try.prog [] [] 1 Try.f49 = some (ir_spec_Wrap, rs_spec_Wrap) := by kernel_rfl
theorem fun_spec_Wrap {args : List AV} {res : AV} (hn : args.length = 1) (h1 : ∀ x ∈ args, AvPure x) (h2 : AvPure res) (h : awp Try.prog ir_spec_Wrap (Ret rs_spec_Wrap res) ⟨entry 0 args, []⟩) : CallsF Try.prog 49 args res :=
  callsF follows_WithinA Try.func49 (by kernel_rfl) (by rw [hn]; exact low_spec_Wrap) h1 h2 h

end Go.Proofs.Ytfdkgbejhdmpbaa
