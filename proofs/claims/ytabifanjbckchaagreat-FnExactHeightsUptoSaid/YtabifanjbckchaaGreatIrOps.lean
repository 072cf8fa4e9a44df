/-
  THE ABSTRACT TEXTS OF FUNCTIONS (Ops), printed by irgen.py, and that they are the functions' own. Conditions: none.
-/
import Derived.Test.YtabifanjbckchaaGreatProg
import Derived.Test.YtabifanjbckchaaGreatAvDraw
set_option linter.unusedVariables false
set_option maxRecDepth 100000
namespace Go.Proofs.YtabifanjbckchaaGreat
open Go.Proofs.YtabifanjbckchaaGreat.Av

theorem follows_Ops : Tryz.prog.follows .mixedOrders = true := by kernel_rfl

def ir_impl_primOps : ICode := (.seq (.region [⟨some 0, none, .mov (.c .nils)⟩]) (.seq (.region [⟨some 1, none, .slP 10 (.str (bs [])) [(0, (.c (.str (bs [43])))), (1, (.c (.str (bs [45])))), (2, (.c (.str (bs [42])))), (3, (.c (.str (bs [47])))), (4, (.c (.str (bs [37])))), (5, (.c (.str (bs [94])))), (6, (.c (.str (bs [61])))), (7, (.c (.str (bs [60, 62])))), (8, (.c (.str (bs [60])))), (9, (.c (.str (bs [60, 61]))))]⟩, ⟨some 0, none, .mov (.t 1)⟩]) .ret))
def rs_impl_primOps : List IRes := [(.t 0)]
theorem low_impl_primOps : lowF Tryz.prog [] [] 0 Tryz.f84 = some (ir_impl_primOps, rs_impl_primOps) := by kernel_rfl
theorem fun_impl_primOps {args : List AV} {res : AV} (hn : args.length = 0) (h1 : ∀ x ∈ args, AvPure x) (h2 : AvPure res) (h : awp Tryz.prog ir_impl_primOps (Ret rs_impl_primOps res) ⟨entry 0 args, []⟩) : CallsF Tryz.prog 84 args res :=
  callsF follows_Ops Tryz.func84 (by kernel_rfl) (by rw [hn]; exact low_impl_primOps) h1 h2 h

def ir_spec_l04Prim : ICode := (.seq (.region [⟨some 2, none, .mov (.c (.bool false))⟩]) (.seq (.seq (.region [⟨some 5, none, .slP 10 (.str (bs [])) [(0, (.c (.str (bs [43])))), (1, (.c (.str (bs [45])))), (2, (.c (.str (bs [42])))), (3, (.c (.str (bs [47])))), (4, (.c (.str (bs [37])))), (5, (.c (.str (bs [94])))), (6, (.c (.str (bs [61])))), (7, (.c (.str (bs [60, 62])))), (8, (.c (.str (bs [60])))), (9, (.c (.str (bs [60, 61]))))]⟩, ⟨some 6, none, .len false (.t 5)⟩, ⟨some 7, none, .mov (.c (.int .i64 0))⟩]) (.block 0 (.loop (.seq (.region [⟨some 8, none, .bin .lss .other (.t 7) (.t 6)⟩]) (.seq (.cond (.t 8) .skip (.exit 0)) (.seq (.block 1 (.seq (.region [⟨some 9, none, .iaddr 1 (.t 5) (.t 7)⟩, ⟨some 10, none, .load false 1 (.t 9)⟩, ⟨some 4, none, .mov (.t 10)⟩]) (.seq (.region [⟨some 11, none, .mov (.t 0)⟩, ⟨some 12, none, .mov (.t 4)⟩, ⟨some 13, none, .bin .eql .other (.t 11) (.t 12)⟩]) (.cond (.t 13) (.seq (.region [⟨some 2, none, .mov (.c (.bool true))⟩]) .ret) .skip)))) (.region [⟨some 14, none, .bin .add .other (.t 7) (.c (.int .i64 1))⟩, ⟨some 7, none, .mov (.t 14)⟩]))))))) (.seq (.region [⟨some 2, none, .mov (.c (.bool false))⟩]) .ret)))
def rs_spec_l04Prim : List IRes := [(.t 2)]
theorem low_spec_l04Prim : lowF Tryz.prog [] [] 1 Tryz.f74 = some (ir_spec_l04Prim, rs_spec_l04Prim) := by kernel_rfl
theorem fun_spec_l04Prim {args : List AV} {res : AV} (hn : args.length = 1) (h1 : ∀ x ∈ args, AvPure x) (h2 : AvPure res) (h : awp Tryz.prog ir_spec_l04Prim (Ret rs_spec_l04Prim res) ⟨entry 0 args, []⟩) : CallsF Tryz.prog 74 args res :=
  callsF follows_Ops Tryz.func74 (by kernel_rfl) (by rw [hn]; exact low_spec_l04Prim) h1 h2 h

end Go.Proofs.YtabifanjbckchaaGreat
