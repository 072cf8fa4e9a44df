/-
  THE ABSTRACT TEXTS OF FUNCTIONS (MText), printed by irgen.py, and that they are the functions' own. Conditions: none.
-/
import Derived.Test.YtmlckdffkbbbhaaGreatProg
import Derived.Test.YtmlckdffkbbbhaaGreatAvDraw
set_option linter.unusedVariables false
set_option maxRecDepth 100000
namespace Go.Proofs.YtmlckdffkbbbhaaGreat
open Go.Proofs.YtmlckdffkbbbhaaGreat.Av

theorem follows_MText : Tryz.prog.follows .mixedOrders = true := by kernel_rfl

def ir_laws_markText : ICode := (.seq (.region [O 2 (.mov (.c (.str (bs []))))]) (.seq (.seq (.region [O 4 (.mov (.t 0)), O 5 (.bin .leq .other (.t 4) (I 0))]) (.cond (.t 5) (.seq (.region [O 2 (.mov (.c (.str (bs [109, 48]))))]) .ret) .skip)) (.seq (.region [O 3 (.mov (.c (.str (bs []))))]) (.seq (.block 0 (.loop (.seq (.seq (.region [O 6 (.mov (.t 0)), O 7 (.bin .gtr .other (.t 6) (I 0))]) (.cond (.t 7) .skip (.exit 0))) (.block 1 (.seq (.region [O 8 (.mov (.t 0)), O 9 (.bin .rem .other (.t 8) (I 10)), O 10 (.bin .add .other (I 48) (.t 9)), O 11 (.conv .u8 (.t 10)), O 12 (.slP 1 (.int .u8 0) [(0, (.t 11))]), O 13 (.b2s (.t 12)), O 14 (.mov (.t 3)), O 15 (.bin .add .other (.t 13) (.t 14)), O 3 (.mov (.t 15))]) (.region [O 16 (.mov (.t 0)), O 17 (.bin .quo .other (.t 16) (I 10)), O 0 (.mov (.t 17))])))))) (.seq (.region [O 18 (.mov (.t 3)), O 19 (.bin .add .other (.c (.str (bs [109]))) (.t 18)), O 2 (.mov (.t 19))]) .ret)))))
def rs_laws_markText : List IRes := [(.t 2)]
theorem fun_laws_markText : FunF Tryz.prog 1 66 ir_laws_markText rs_laws_markText := mkF [] [] follows_MText Tryz.func66 (by kernel_rfl) (by kernel_rfl)
end Go.Proofs.YtmlckdffkbbbhaaGreat
