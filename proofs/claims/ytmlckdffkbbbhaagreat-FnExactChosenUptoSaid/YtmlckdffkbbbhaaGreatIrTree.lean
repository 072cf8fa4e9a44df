/-
  THE ABSTRACT TEXTS OF FUNCTIONS (Tree), printed by irgen.py, and that they are the functions' own. Conditions: none.
-/
import Derived.Test.YtmlckdffkbbbhaaGreatProg
import Derived.Test.YtmlckdffkbbbhaaGreatAvDraw
set_option linter.unusedVariables false
set_option maxRecDepth 100000
namespace Go.Proofs.YtmlckdffkbbbhaaGreat
open Go.Proofs.YtmlckdffkbbbhaaGreat.Av

theorem follows_Tree : Tryz.prog.follows .mixedOrders = true := by kernel_rfl

def ir_impl_inOrder : ICode := (.seq (.region [O 2 (.boxP (.t 0)), O 3 (.boxP (.t 1)), O 4 (.mov (.c (.bool false)))]) (.seq (.region [O 5 (.boxO 5 3 1 (I 0)), W (.store 1 (.t 5) (I 0))]) (.seq (.region [O 6 (.boxO 6 168 1 (.c .nilf))]) (.seq (.region [O 7 (.mkfn 134 [(.t 5), (.t 2), (.t 3), (.t 6)]), W (.store 1 (.t 6) (.t 7))]) (.seq (.region [O 8 (.load false 1 (.t 6)), O 9 (.callvH (.t 8) [(I 0)]), O 10 (.mov (.t 9)), X 11 10 true (.load false 1 (.t 5)), X 12 10 true (.load false 1 (.t 2)), X 13 10 true (.bin .eql .other (.t 11) (.t 12)), O 14 (.pick (.t 10) (.t 13) (.c (.bool false))), O 4 (.mov (.t 14))]) .ret)))))
def rs_impl_inOrder : List IRes := [(.t 4)]
theorem fun_impl_inOrder : FunF Tryz.prog 2 94 ir_impl_inOrder rs_impl_inOrder := mkF [(9,7777)] [] follows_Tree Tryz.func94 (by kernel_rfl) (by kernel_rfl)
def ir_impl_inOrder_1 : ICode := (.seq (.region [O 6 (.mov (.c (.bool false)))]) (.seq (.seq (.region [O 9 (.mov (.t 0)), O 10 (.load false 1 (.t 1)), O 11 (.bin .neq .other (.t 9) (.t 10)), O 12 (.mov (.t 11)), X 13 12 false (.mov (.t 0)), X 14 12 false (.load false 1 (.t 2)), X 15 12 false (.bin .geq .other (.t 13) (.t 14)), O 16 (.pick (.t 12) (.c (.bool true)) (.t 15))]) (.cond (.t 16) (.seq (.region [O 6 (.mov (.c (.bool false)))]) .retK) .skip)) (.seq (.region [O 17 (.load false 1 (.t 1)), O 18 (.bin .add .other (.t 17) (I 1)), W (.store 1 (.t 1) (.t 18))]) (.seq (.seq (.region [O 19 (.load false 1 (.t 3)), O 20 (.mov (.t 0)), O 21 (.callv (.t 19) [(.t 20)]), O 22 (.len false (.t 21)), O 23 (.mov (I 0))]) (.block 0 (.loop (.seq (.region [O 24 (.bin .lss .other (.t 23) (.t 22))]) (.seq (.cond (.t 24) .skip (.exit 0)) (.seq (.block 1 (.seq (.region [O 25 (.iaddr 1 (.t 21) (.t 23)), O 26 (.load false 1 (.t 25)), O 8 (.mov (.t 26))]) (.seq (.region [O 27 (.load false 1 (.t 4)), O 28 (.mov (.t 8)), O 29 (.callvH (.t 27) [(.t 28)]), O 30 (.un .not (.t 29))]) (.cond (.t 30) (.seq (.region [O 6 (.mov (.c (.bool false)))]) .retK) .skip)))) (.region [O 31 (.bin .add .other (.t 23) (I 1)), O 23 (.mov (.t 31))]))))))) (.seq (.region [O 6 (.mov (.c (.bool true)))]) .retK)))))
def rs_impl_inOrder_1 : List IRes := [(.t 6)]
theorem funH_impl_inOrder_1 : FunH Tryz.prog 5 134 ir_impl_inOrder_1 rs_impl_inOrder_1 := mkH [(29,7777)] [9999] follows_Tree Tryz.func134 (by kernel_rfl) (by kernel_rfl)
end Go.Proofs.YtmlckdffkbbbhaaGreat
