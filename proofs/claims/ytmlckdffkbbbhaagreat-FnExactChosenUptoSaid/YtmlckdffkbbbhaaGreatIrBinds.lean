/-
  THE ABSTRACT TEXTS OF FUNCTIONS (Binds), printed by irgen.py, and that they are the functions' own. Conditions: none.
-/
import Derived.Test.YtmlckdffkbbbhaaGreatProg
import Derived.Test.YtmlckdffkbbbhaaGreatAvDraw
set_option linter.unusedVariables false
set_option maxRecDepth 100000
namespace Go.Proofs.YtmlckdffkbbbhaaGreat
open Go.Proofs.YtmlckdffkbbbhaaGreat.Av

theorem follows_Binds : Tryz.prog.follows .mixedOrders = true := by kernel_rfl

def ir_impl_patNames : ICode := (.seq (.region [O 1 (.boxP (.t 0)), O 2 (.mov (.c .nils))]) (.seq (.region [O 6 (.slO 6 9 0 (.str (bs [])) []), O 3 (.mov (.t 6))]) (.seq (.seq (.region [O 7 (.faddr 0 (.t 1)), O 8 (.load false 1 (.t 7)), O 9 (.len false (.t 8)), O 10 (.mov (I 0))]) (.block 0 (.loop (.seq (.region [O 11 (.bin .lss .other (.t 10) (.t 9))]) (.seq (.cond (.t 11) .skip (.exit 0)) (.seq (.block 1 (.seq (.region [O 12 (.iaddr 4 (.t 8) (.t 10)), O 13 (.load true 4 (.t 12)), O 5 (.boxO 5 90 4 (.c (.agg [(.int .i64 0), (.int .i64 0), (.str (bs [])), .nils]))), W (.store 4 (.t 5) (.t 13))]) (.seq (.region [O 14 (.faddr 0 (.t 5)), O 15 (.load false 1 (.t 14)), O 16 (.bin .eql .other (.t 15) (I 2))]) (.cond (.t 16) (.region [O 17 (.mov (.t 3)), O 18 (.faddr 2 (.t 5)), O 19 (.load false 1 (.t 18)), O 20 (.slP 1 (.str (bs [])) [(0, (.t 19))]), O 21 (.append 21 9 1 16 (.t 17) (.t 20)), O 3 (.mov (.t 21))]) .skip)))) (.region [O 22 (.bin .add .other (.t 10) (I 1)), O 10 (.mov (.t 22))]))))))) (.seq (.region [O 23 (.mov (.t 3)), O 2 (.mov (.t 23))]) .ret))))
def rs_impl_patNames : List IRes := [(.t 2)]
theorem fun_impl_patNames : FunF Tryz.prog 1 145 ir_impl_patNames rs_impl_patNames := mkF [] [] follows_Binds Tryz.func145 (by kernel_rfl) (by kernel_rfl)
end Go.Proofs.YtmlckdffkbbbhaaGreat
