/-
  THE ABSTRACT TEXTS OF FUNCTIONS (SVal), printed by irgen.py, and that they are the functions' own. Conditions: none.
-/
import Derived.Test.YtpignflebknagaaProg
import Derived.Test.YtpignflebknagaaAvDraw
set_option linter.unusedVariables false
set_option maxRecDepth 100000
namespace Go.Proofs.Ytpignflebknagaa
open Go.Proofs.Ytpignflebknagaa.Av

theorem follows_SVal : Try.prog.follows .mixedOrders = true := by kernel_rfl

def ir_slices_IndexFunc_impl_Val_impl_Val : ICode := (.seq (.region [⟨some 4, none, .mov (.c (.int .i64 0))⟩]) (.seq (.seq (.region [⟨some 6, none, .mov (.t 0)⟩, ⟨some 7, none, .len false (.t 6)⟩, ⟨some 8, none, .mov (.c (.int .i64 0))⟩]) (.block 0 (.loop (.seq (.region [⟨some 9, none, .bin .lss .other (.t 8) (.t 7)⟩]) (.seq (.cond (.t 9) .skip (.exit 0)) (.seq (.block 1 (.seq (.region [⟨some 10, none, .mov (.t 8)⟩, ⟨some 5, none, .mov (.t 10)⟩]) (.seq (.region [⟨some 11, none, .mov (.t 1)⟩, ⟨some 12, none, .mov (.t 0)⟩, ⟨some 13, none, .mov (.t 5)⟩, ⟨some 14, none, .iaddr 3 (.t 12) (.t 13)⟩, ⟨some 15, none, .load true 3 (.t 14)⟩, ⟨some 16, none, .callv (.t 11) [(.t 15)]⟩]) (.cond (.t 16) (.seq (.region [⟨some 17, none, .mov (.t 5)⟩, ⟨some 4, none, .mov (.t 17)⟩]) .ret) .skip)))) (.region [⟨some 18, none, .bin .add .other (.t 8) (.c (.int .i64 1))⟩, ⟨some 8, none, .mov (.t 18)⟩]))))))) (.seq (.region [⟨some 4, none, .mov (.c (.int .i64 (-1)))⟩]) .ret)))
def rs_slices_IndexFunc_impl_Val_impl_Val : List IRes := [(.t 4)]
theorem low_slices_IndexFunc_impl_Val_impl_Val : lowF Try.prog [] [] 2 Try.f36 = some (ir_slices_IndexFunc_impl_Val_impl_Val, rs_slices_IndexFunc_impl_Val_impl_Val) := by kernel_rfl
theorem fun_slices_IndexFunc_impl_Val_impl_Val {args : List AV} {res : AV} (hn : args.length = 2) (h1 : ∀ x ∈ args, AvPure x) (h2 : AvPure res) (h : awp Try.prog ir_slices_IndexFunc_impl_Val_impl_Val (Ret rs_slices_IndexFunc_impl_Val_impl_Val res) ⟨entry 0 args, []⟩) : CallsF Try.prog 36 args res :=
  callsF follows_SVal Try.func36 (by kernel_rfl) (by rw [hn]; exact low_slices_IndexFunc_impl_Val_impl_Val) h1 h2 h

def ir_slices_ContainsFunc_impl_Val_impl_Val : ICode := (.seq (.region [⟨some 4, none, .mov (.c (.bool false))⟩]) (.seq (.region [⟨some 5, none, .mov (.t 0)⟩, ⟨some 6, none, .mov (.t 1)⟩, ⟨some 7, none, .call 36 [(.t 5), (.t 6)]⟩, ⟨some 8, none, .bin .geq .other (.t 7) (.c (.int .i64 0))⟩, ⟨some 4, none, .mov (.t 8)⟩]) .ret))
def rs_slices_ContainsFunc_impl_Val_impl_Val : List IRes := [(.t 4)]
theorem low_slices_ContainsFunc_impl_Val_impl_Val : lowF Try.prog [] [] 2 Try.f22 = some (ir_slices_ContainsFunc_impl_Val_impl_Val, rs_slices_ContainsFunc_impl_Val_impl_Val) := by kernel_rfl
theorem fun_slices_ContainsFunc_impl_Val_impl_Val {args : List AV} {res : AV} (hn : args.length = 2) (h1 : ∀ x ∈ args, AvPure x) (h2 : AvPure res) (h : awp Try.prog ir_slices_ContainsFunc_impl_Val_impl_Val (Ret rs_slices_ContainsFunc_impl_Val_impl_Val res) ⟨entry 0 args, []⟩) : CallsF Try.prog 22 args res :=
  callsF follows_SVal Try.func22 (by kernel_rfl) (by rw [hn]; exact low_slices_ContainsFunc_impl_Val_impl_Val) h1 h2 h

end Go.Proofs.Ytpignflebknagaa
