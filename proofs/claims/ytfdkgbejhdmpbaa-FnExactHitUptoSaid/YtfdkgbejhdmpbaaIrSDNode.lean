/-
  THE ABSTRACT TEXTS OF FUNCTIONS (SDNode), printed by irgen.py, and that they are the functions' own. Conditions: none.
-/
import Derived.Test.YtfdkgbejhdmpbaaProg
import Derived.Test.YtfdkgbejhdmpbaaAvDraw
set_option linter.unusedVariables false
set_option maxRecDepth 100000
namespace Go.Proofs.Ytfdkgbejhdmpbaa
open Go.Proofs.Ytfdkgbejhdmpbaa.Av

theorem follows_SDNode : Try.prog.follows .mixedOrders = true := by kernel_rfl

def ir_slices_IndexFunc_impl_DNode_impl_DNode : ICode := (.seq (.region [⟨some 4, none, .mov (.c (.int .i64 0))⟩]) (.seq (.seq (.region [⟨some 6, none, .mov (.t 0)⟩, ⟨some 7, none, .len false (.t 6)⟩, ⟨some 8, none, .mov (.c (.int .i64 0))⟩]) (.block 0 (.loop (.seq (.region [⟨some 9, none, .bin .lss .other (.t 8) (.t 7)⟩]) (.seq (.cond (.t 9) .skip (.exit 0)) (.seq (.block 1 (.seq (.region [⟨some 10, none, .mov (.t 8)⟩, ⟨some 5, none, .mov (.t 10)⟩]) (.seq (.region [⟨some 11, none, .mov (.t 1)⟩, ⟨some 12, none, .mov (.t 0)⟩, ⟨some 13, none, .mov (.t 5)⟩, ⟨some 14, none, .iaddr 4 (.t 12) (.t 13)⟩, ⟨some 15, none, .load true 4 (.t 14)⟩, ⟨some 16, none, .callv (.t 11) [(.t 15)]⟩]) (.cond (.t 16) (.seq (.region [⟨some 17, none, .mov (.t 5)⟩, ⟨some 4, none, .mov (.t 17)⟩]) .ret) .skip)))) (.region [⟨some 18, none, .bin .add .other (.t 8) (.c (.int .i64 1))⟩, ⟨some 8, none, .mov (.t 18)⟩]))))))) (.seq (.region [⟨some 4, none, .mov (.c (.int .i64 (-1)))⟩]) .ret)))
def rs_slices_IndexFunc_impl_DNode_impl_DNode : List IRes := [(.t 4)]
theorem low_slices_IndexFunc_impl_DNode_impl_DNode : lowF Try.prog [] [] 2 Try.f77 = some (ir_slices_IndexFunc_impl_DNode_impl_DNode, rs_slices_IndexFunc_impl_DNode_impl_DNode) := by kernel_rfl
theorem fun_slices_IndexFunc_impl_DNode_impl_DNode {args : List AV} {res : AV} (hn : args.length = 2) (h1 : ∀ x ∈ args, AvPure x) (h2 : AvPure res) (h : awp Try.prog ir_slices_IndexFunc_impl_DNode_impl_DNode (Ret rs_slices_IndexFunc_impl_DNode_impl_DNode res) ⟨entry 0 args, []⟩) : CallsF Try.prog 77 args res :=
  callsF follows_SDNode Try.func77 (by kernel_rfl) (by rw [hn]; exact low_slices_IndexFunc_impl_DNode_impl_DNode) h1 h2 h

def ir_slices_ContainsFunc_impl_DNode_impl_DNode : ICode := (.seq (.region [⟨some 4, none, .mov (.c (.bool false))⟩]) (.seq (.region [⟨some 5, none, .mov (.t 0)⟩, ⟨some 6, none, .mov (.t 1)⟩, ⟨some 7, none, .call 77 [(.t 5), (.t 6)]⟩, ⟨some 8, none, .bin .geq .other (.t 7) (.c (.int .i64 0))⟩, ⟨some 4, none, .mov (.t 8)⟩]) .ret))
def rs_slices_ContainsFunc_impl_DNode_impl_DNode : List IRes := [(.t 4)]
theorem low_slices_ContainsFunc_impl_DNode_impl_DNode : lowF Try.prog [] [] 2 Try.f60 = some (ir_slices_ContainsFunc_impl_DNode_impl_DNode, rs_slices_ContainsFunc_impl_DNode_impl_DNode) := by kernel_rfl
theorem fun_slices_ContainsFunc_impl_DNode_impl_DNode {args : List AV} {res : AV} (hn : args.length = 2) (h1 : ∀ x ∈ args, AvPure x) (h2 : AvPure res) (h : awp Try.prog ir_slices_ContainsFunc_impl_DNode_impl_DNode (Ret rs_slices_ContainsFunc_impl_DNode_impl_DNode res) ⟨entry 0 args, []⟩) : CallsF Try.prog 60 args res :=
  callsF follows_SDNode Try.func60 (by kernel_rfl) (by rw [hn]; exact low_slices_ContainsFunc_impl_DNode_impl_DNode) h1 h2 h

end Go.Proofs.Ytfdkgbejhdmpbaa
