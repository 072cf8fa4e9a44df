/-
  THE ABSTRACT TEXTS OF FUNCTIONS (Ops), printed by irgen.py, and that they are the functions' own. Conditions: none.
-/
import Derived.Test.YtmlckdffkbbbhaaGreatProg
import Derived.Test.YtmlckdffkbbbhaaGreatAvDraw
set_option linter.unusedVariables false
set_option maxRecDepth 100000
namespace Go.Proofs.YtmlckdffkbbbhaaGreat
open Go.Proofs.YtmlckdffkbbbhaaGreat.Av

theorem follows_Ops : Tryz.prog.follows .mixedOrders = true := by kernel_rfl

def ir_impl_primOps : ICode := (.seq (.region [O 0 (.mov (.c .nils))]) (.seq (.region [O 1 (.slP 10 (.str (bs [])) [(0, (.c (.str (bs [43])))), (1, (.c (.str (bs [45])))), (2, (.c (.str (bs [42])))), (3, (.c (.str (bs [47])))), (4, (.c (.str (bs [37])))), (5, (.c (.str (bs [94])))), (6, (.c (.str (bs [61])))), (7, (.c (.str (bs [60, 62])))), (8, (.c (.str (bs [60])))), (9, (.c (.str (bs [60, 61]))))]), O 0 (.mov (.t 1))]) .ret))
def rs_impl_primOps : List IRes := [(.t 0)]
theorem fun_impl_primOps : FunF Tryz.prog 0 136 ir_impl_primOps rs_impl_primOps := mkF [] [] follows_Ops Tryz.func136 (by kernel_rfl) (by kernel_rfl)
def ir_spec_l04Prim : ICode := (.seq (.region [O 2 (.mov (.c (.bool false)))]) (.seq (.seq (.region [O 5 (.slP 10 (.str (bs [])) [(0, (.c (.str (bs [43])))), (1, (.c (.str (bs [45])))), (2, (.c (.str (bs [42])))), (3, (.c (.str (bs [47])))), (4, (.c (.str (bs [37])))), (5, (.c (.str (bs [94])))), (6, (.c (.str (bs [61])))), (7, (.c (.str (bs [60, 62])))), (8, (.c (.str (bs [60])))), (9, (.c (.str (bs [60, 61]))))]), O 6 (.len false (.t 5)), O 7 (.mov (I 0))]) (.block 0 (.loop (.seq (.region [O 8 (.bin .lss .other (.t 7) (.t 6))]) (.seq (.cond (.t 8) .skip (.exit 0)) (.seq (.block 1 (.seq (.region [O 9 (.iaddr 1 (.t 5) (.t 7)), O 10 (.load false 1 (.t 9)), O 4 (.mov (.t 10))]) (.seq (.region [O 11 (.mov (.t 0)), O 12 (.mov (.t 4)), O 13 (.bin .eql .other (.t 11) (.t 12))]) (.cond (.t 13) (.seq (.region [O 2 (.mov (.c (.bool true)))]) .ret) .skip)))) (.region [O 14 (.bin .add .other (.t 7) (I 1)), O 7 (.mov (.t 14))]))))))) (.seq (.region [O 2 (.mov (.c (.bool false)))]) .ret)))
def rs_spec_l04Prim : List IRes := [(.t 2)]
theorem fun_spec_l04Prim : FunF Tryz.prog 1 85 ir_spec_l04Prim rs_spec_l04Prim := mkF [] [] follows_Ops Tryz.func85 (by kernel_rfl) (by kernel_rfl)
end Go.Proofs.YtmlckdffkbbbhaaGreat
