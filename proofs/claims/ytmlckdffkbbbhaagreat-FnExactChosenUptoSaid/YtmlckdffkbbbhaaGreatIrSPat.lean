/-
  THE ABSTRACT TEXTS OF FUNCTIONS (SPat), printed by irgen.py, and that they are the functions' own. Conditions: none.
-/
import Derived.Test.YtmlckdffkbbbhaaGreatProg
import Derived.Test.YtmlckdffkbbbhaaGreatAvDraw
set_option linter.unusedVariables false
set_option maxRecDepth 100000
namespace Go.Proofs.YtmlckdffkbbbhaaGreat
open Go.Proofs.YtmlckdffkbbbhaaGreat.Av

theorem follows_SPat : Tryz.prog.follows .mixedOrders = true := by kernel_rfl

def ir_slices_IndexFunc_impl_Pat_impl_Pat : ICode := (.seq (.region [O 4 (.mov (I 0))]) (.seq (.seq (.region [O 6 (.mov (.t 0)), O 7 (.len false (.t 6)), O 8 (.mov (I 0))]) (.block 0 (.loop (.seq (.region [O 9 (.bin .lss .other (.t 8) (.t 7))]) (.seq (.cond (.t 9) .skip (.exit 0)) (.seq (.block 1 (.seq (.region [O 10 (.mov (.t 8)), O 5 (.mov (.t 10))]) (.seq (.region [O 11 (.mov (.t 1)), O 12 (.mov (.t 0)), O 13 (.mov (.t 5)), O 14 (.iaddr 1 (.t 12) (.t 13)), O 15 (.load true 1 (.t 14)), O 16 (.callv (.t 11) [(.t 15)])]) (.cond (.t 16) (.seq (.region [O 17 (.mov (.t 5)), O 4 (.mov (.t 17))]) .ret) .skip)))) (.region [O 18 (.bin .add .other (.t 8) (I 1)), O 8 (.mov (.t 18))]))))))) (.seq (.region [O 4 (.mov (I (-1)))]) .ret)))
def rs_slices_IndexFunc_impl_Pat_impl_Pat : List IRes := [(.t 4)]
theorem fun_slices_IndexFunc_impl_Pat_impl_Pat : FunF Tryz.prog 2 104 ir_slices_IndexFunc_impl_Pat_impl_Pat rs_slices_IndexFunc_impl_Pat_impl_Pat := mkF [] [] follows_SPat Tryz.func104 (by kernel_rfl) (by kernel_rfl)
def ir_slices_ContainsFunc_impl_Pat_impl_Pat : ICode := (.seq (.region [O 4 (.mov (.c (.bool false)))]) (.seq (.region [O 5 (.mov (.t 0)), O 6 (.mov (.t 1)), O 7 (.call 104 [(.t 5), (.t 6)]), O 8 (.bin .geq .other (.t 7) (I 0)), O 4 (.mov (.t 8))]) .ret))
def rs_slices_ContainsFunc_impl_Pat_impl_Pat : List IRes := [(.t 4)]
theorem fun_slices_ContainsFunc_impl_Pat_impl_Pat : FunF Tryz.prog 2 56 ir_slices_ContainsFunc_impl_Pat_impl_Pat rs_slices_ContainsFunc_impl_Pat_impl_Pat := mkF [] [] follows_SPat Tryz.func56 (by kernel_rfl) (by kernel_rfl)
end Go.Proofs.YtmlckdffkbbbhaaGreat
