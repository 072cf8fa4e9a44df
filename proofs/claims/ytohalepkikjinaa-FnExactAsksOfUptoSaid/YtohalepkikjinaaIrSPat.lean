/-
  THE ABSTRACT TEXTS OF FUNCTIONS (SPat), printed by irgen.py, and that they are the functions' own. Conditions: none.
-/
import Derived.Test.YtohalepkikjinaaProg
import Derived.Test.YtohalepkikjinaaAvDraw
set_option linter.unusedVariables false
set_option maxRecDepth 100000
namespace Go.Proofs.Ytohalepkikjinaa
open Go.Proofs.Ytohalepkikjinaa.Av

theorem follows_SPat : Try.prog.follows .mixedOrders = true := by kernel_rfl

def ir_slices_IndexFunc_impl_Pat_impl_Pat : ICode := (.seq (.region [⟨some 4, none, .mov (.c (.int .i64 0))⟩]) (.seq (.seq (.region [⟨some 6, none, .mov (.t 0)⟩, ⟨some 7, none, .len false (.t 6)⟩, ⟨some 8, none, .mov (.c (.int .i64 0))⟩]) (.block 0 (.loop (.seq (.region [⟨some 9, none, .bin .lss .other (.t 8) (.t 7)⟩]) (.seq (.cond (.t 9) .skip (.exit 0)) (.seq (.block 1 (.seq (.region [⟨some 10, none, .mov (.t 8)⟩, ⟨some 5, none, .mov (.t 10)⟩]) (.seq (.region [⟨some 11, none, .mov (.t 1)⟩, ⟨some 12, none, .mov (.t 0)⟩, ⟨some 13, none, .mov (.t 5)⟩, ⟨some 14, none, .iaddr 1 (.t 12) (.t 13)⟩, ⟨some 15, none, .load true 1 (.t 14)⟩, ⟨some 16, none, .callv (.t 11) [(.t 15)]⟩]) (.cond (.t 16) (.seq (.region [⟨some 17, none, .mov (.t 5)⟩, ⟨some 4, none, .mov (.t 17)⟩]) .ret) .skip)))) (.region [⟨some 18, none, .bin .add .other (.t 8) (.c (.int .i64 1))⟩, ⟨some 8, none, .mov (.t 18)⟩]))))))) (.seq (.region [⟨some 4, none, .mov (.c (.int .i64 (-1)))⟩]) .ret)))
def rs_slices_IndexFunc_impl_Pat_impl_Pat : List IRes := [(.t 4)]
theorem low_slices_IndexFunc_impl_Pat_impl_Pat : lowF Try.prog [] [] 2 Try.f35 = some (ir_slices_IndexFunc_impl_Pat_impl_Pat, rs_slices_IndexFunc_impl_Pat_impl_Pat) := by kernel_rfl
theorem fun_slices_IndexFunc_impl_Pat_impl_Pat {args : List AV} {res : AV} (hn : args.length = 2) (h1 : ∀ x ∈ args, AvPure x) (h2 : AvPure res) (h : awp Try.prog ir_slices_IndexFunc_impl_Pat_impl_Pat (Ret rs_slices_IndexFunc_impl_Pat_impl_Pat res) ⟨entry 0 args, []⟩) : CallsF Try.prog 35 args res :=
  callsF follows_SPat Try.func35 (by kernel_rfl) (by rw [hn]; exact low_slices_IndexFunc_impl_Pat_impl_Pat) h1 h2 h

def ir_slices_ContainsFunc_impl_Pat_impl_Pat : ICode := (.seq (.region [⟨some 4, none, .mov (.c (.bool false))⟩]) (.seq (.region [⟨some 5, none, .mov (.t 0)⟩, ⟨some 6, none, .mov (.t 1)⟩, ⟨some 7, none, .call 35 [(.t 5), (.t 6)]⟩, ⟨some 8, none, .bin .geq .other (.t 7) (.c (.int .i64 0))⟩, ⟨some 4, none, .mov (.t 8)⟩]) .ret))
def rs_slices_ContainsFunc_impl_Pat_impl_Pat : List IRes := [(.t 4)]
theorem low_slices_ContainsFunc_impl_Pat_impl_Pat : lowF Try.prog [] [] 2 Try.f18 = some (ir_slices_ContainsFunc_impl_Pat_impl_Pat, rs_slices_ContainsFunc_impl_Pat_impl_Pat) := by kernel_rfl
theorem fun_slices_ContainsFunc_impl_Pat_impl_Pat {args : List AV} {res : AV} (hn : args.length = 2) (h1 : ∀ x ∈ args, AvPure x) (h2 : AvPure res) (h : awp Try.prog ir_slices_ContainsFunc_impl_Pat_impl_Pat (Ret rs_slices_ContainsFunc_impl_Pat_impl_Pat res) ⟨entry 0 args, []⟩) : CallsF Try.prog 18 args res :=
  callsF follows_SPat Try.func18 (by kernel_rfl) (by rw [hn]; exact low_slices_ContainsFunc_impl_Pat_impl_Pat) h1 h2 h

end Go.Proofs.Ytohalepkikjinaa
