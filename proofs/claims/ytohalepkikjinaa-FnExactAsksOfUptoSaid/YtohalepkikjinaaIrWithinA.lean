/-
  THE ABSTRACT TEXTS OF FUNCTIONS (WithinA), printed by irgen.py, and that they are the functions' own. Conditions: none.
-/
import Derived.Test.YtohalepkikjinaaProg
import Derived.Test.YtohalepkikjinaaAvDraw
set_option linter.unusedVariables false
set_option maxRecDepth 100000
namespace Go.Proofs.Ytohalepkikjinaa
open Go.Proofs.Ytohalepkikjinaa.Av

theorem follows_WithinA : Try.prog.follows .mixedOrders = true := by kernel_rfl

def ir_impl_within : ICode := (.seq (.region [⟨some 6, none, .mov (.c (.bool false))⟩]) (.seq (.region [⟨some 7, none, .mov (.t 0)⟩, ⟨some 8, none, .mov (.t 1)⟩, ⟨some 9, none, .bin .geq .other (.t 7) (.t 8)⟩, ⟨some 10, none, .mov (.t 9)⟩, ⟨some 11, some (10, true), .mov (.t 0)⟩, ⟨some 12, some (10, true), .mov (.t 2)⟩, ⟨some 13, some (10, true), .bin .leq .other (.t 11) (.t 12)⟩, ⟨some 14, none, .pick (.t 10) (.t 13) (.c (.bool false))⟩, ⟨some 6, none, .mov (.t 14)⟩]) .ret))
def rs_impl_within : List IRes := [(.t 6)]
theorem low_impl_within : lowF Try.prog [] [] 3 Try.f36 = some (ir_impl_within, rs_impl_within) := by kernel_rfl
theorem fun_impl_within {args : List AV} {res : AV} (hn : args.length = 3) (h1 : ∀ x ∈ args, AvPure x) (h2 : AvPure res) (h : awp Try.prog ir_impl_within (Ret rs_impl_within res) ⟨entry 0 args, []⟩) : CallsF Try.prog 36 args res :=
  callsF follows_WithinA Try.func36 (by kernel_rfl) (by rw [hn]; exact low_impl_within) h1 h2 h

end Go.Proofs.Ytohalepkikjinaa
