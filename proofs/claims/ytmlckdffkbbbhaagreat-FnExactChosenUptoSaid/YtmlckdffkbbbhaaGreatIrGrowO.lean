/-
  THE ABSTRACT TEXTS OF FUNCTIONS (GrowO), printed by irgen.py, and that they are the functions' own. Conditions: none.
-/
import Derived.Test.YtmlckdffkbbbhaaGreatProg
import Derived.Test.YtmlckdffkbbbhaaGreatAvDraw
set_option linter.unusedVariables false
set_option maxRecDepth 100000
namespace Go.Proofs.YtmlckdffkbbbhaaGreat
open Go.Proofs.YtmlckdffkbbbhaaGreat.Av

theorem follows_GrowO : Tryz.prog.follows .mixedOrders = true := by kernel_rfl

def ir_impl_grow_O : ICode := (.seq (.region [O 4 (.mov (.c .nilp))]) (.seq (.region [O 9 (.mov (.t 0)), O 10 (.mov (.t 1)), O 11 (.iaddr 6 (.t 9) (.t 10)), O 12 (.load true 6 (.t 11)), O 5 (.boxO 5 45 6 (.c (.agg [(.int .i64 0), (.int .i64 0), (.int .i64 0), (.str (bs [])), .nils, .nils]))), W (.store 6 (.t 5) (.t 12))]) (.seq (.ghost (.draw [O 13 (.faddr 0 (.t 5)), O 14 (.loadF false 1 (.t 13)), O 15 (.faddr 1 (.t 5)), O 16 (.loadF false 1 (.t 15)), O 17 (.faddr 2 (.t 5)), O 18 (.loadF false 1 (.t 17)), O 19 (.faddr 3 (.t 5)), O 20 (.loadF false 1 (.t 19)), O 21 (.faddr 5 (.t 5)), O 22 (.loadF false 1 (.t 21)), O 23 (.callH 61 [(.t 22)]), O 24 (.build [(.int .i64 0), (.int .i64 0), (.int .i64 0), (.str (bs [])), .nils, .nils] [(0, (1, (.t 14))), (1, (1, (.t 16))), (2, (1, (.t 18))), (3, (1, (.t 20))), (5, (1, (.t 23)))]), O 25 (.boxO 25 100 6 (.t 24)), O 6 (.mov (.t 25))])) (.seq (.seq (.region [O 26 (.faddr 4 (.t 5)), O 27 (.load false 1 (.t 26)), O 28 (.len false (.t 27)), O 29 (.mov (I 0))]) (.block 0 (.loop (.seq (.region [O 30 (.bin .lss .other (.t 29) (.t 28))]) (.seq (.cond (.t 30) .skip (.exit 0)) (.seq (.block 1 (.seq (.region [O 31 (.iaddr 1 (.t 27) (.t 29)), O 32 (.load false 1 (.t 31)), O 8 (.mov (.t 32))]) (.seq (.region [O 33 (.mov (.t 6)), O 34 (.mov (.t 6)), O 35 (.nilchk (.t 34)), O 36 (.faddr 4 (.t 35)), O 38 (.mov (.t 0)), O 39 (.mov (.t 8))]) (.both (.region [O 37 (.load false 1 (.t 36)), O 40 (.callH 28 [(.t 38), (.t 39)]), O 41 (.slP 1 .nilp [(0, (.t 40))]), O 42 (.append 42 54 1 8 (.t 37) (.t 41)), O 43 (.nilchk (.t 33)), O 44 (.faddr 4 (.t 43)), W (.store 1 (.t 44) (.t 42))]) (.region [O 40 (.callH 28 [(.t 38), (.t 39)]), O 37 (.load false 1 (.t 36)), O 41 (.slP 1 .nilp [(0, (.t 40))]), O 42 (.append 42 54 1 8 (.t 37) (.t 41)), O 43 (.nilchk (.t 33)), O 44 (.faddr 4 (.t 43)), W (.store 1 (.t 44) (.t 42))]))))) (.region [O 45 (.bin .add .other (.t 29) (I 1)), O 29 (.mov (.t 45))]))))))) (.seq (.region [O 46 (.mov (.t 6)), O 4 (.mov (.t 46))]) .retK)))))
def rs_impl_grow_O : List IRes := [(.t 4)]
theorem funH_impl_grow_O : FunH Tryz.prog 2 28 ir_impl_grow_O rs_impl_grow_O := mkH [(25,25),(14,7775),(16,7775),(18,7775),(20,7775),(22,7775), (23, 7777), (40, 7777)] [9999, 2] follows_GrowO Tryz.func28 (by kernel_rfl) (by kernel_rfl)
end Go.Proofs.YtmlckdffkbbbhaaGreat
