/-
  THE ABSTRACT TEXTS OF FUNCTIONS (CoreS), printed by irgen.py, and that they are the functions' own. Conditions: none.
-/
import Derived.Test.YtjifpdcflankpaaGreatProg
import Derived.Test.YtjifpdcflankpaaGreatAvDraw
set_option linter.unusedVariables false
set_option maxRecDepth 100000
namespace Go.Proofs.YtjifpdcflankpaaGreat
open Go.Proofs.YtjifpdcflankpaaGreat.Av

theorem follows_CoreS : Tryz.prog.follows .mixedOrders = true := by kernel_rfl

def ir_spec_l15Given : ICode := (.seq (.region [O 2 (.mov (.c (.bool false)))]) (.seq (.region [O 3 (.mov (.t 0)), O 4 (.bin .eql .other (.t 3) (.c (.str (bs [112, 114, 105, 110, 116])))), O 5 (.mov (.t 4)), X 6 5 false (.mov (.t 0)), X 7 5 false (.bin .eql .other (.t 6) (.c (.str (bs [115, 97, 121])))), O 8 (.pick (.t 5) (.c (.bool true)) (.t 7)), O 9 (.mov (.t 8)), X 10 9 false (.mov (.t 0)), X 11 9 false (.bin .eql .other (.t 10) (.c (.str (bs [114, 101, 97, 100])))), O 12 (.pick (.t 9) (.c (.bool true)) (.t 11)), O 13 (.mov (.t 12)), X 14 13 false (.mov (.t 0)), X 15 13 false (.bin .eql .other (.t 14) (.c (.str (bs [115, 105, 122, 101])))), O 16 (.pick (.t 13) (.c (.bool true)) (.t 15)), O 2 (.mov (.t 16))]) .ret))
def rs_spec_l15Given : List IRes := [(.t 2)]
theorem fun_spec_l15Given : FunF Tryz.prog 1 52 ir_spec_l15Given rs_spec_l15Given := mkF [] [] follows_CoreS Tryz.func52 (by kernel_rfl) (by kernel_rfl)
def ir_spec_l15Count : ICode := (.seq (.region [O 4 (.mov (I 0))]) (.seq (.seq (.region [O 6 (.mov (.t 0)), O 7 (.len false (.t 6)), O 8 (.bin .sub .other (.t 7) (I 1)), O 5 (.mov (.t 8))]) (.block 0 (.loop (.seq (.seq (.region [O 9 (.mov (.t 5)), O 10 (.bin .geq .other (.t 9) (I 0))]) (.cond (.t 10) .skip (.exit 0))) (.seq (.block 1 (.seq (.region [O 13 (.mov (.t 0)), O 14 (.mov (.t 5)), O 15 (.iaddr 1 (.t 13) (.t 14)), O 16 (.load false 1 (.t 15)), O 17 (.mov (.t 1)), O 18 (.bin .eql .other (.t 16) (.t 17))]) (.cond (.t 18) (.seq (.region [O 19 (.mov (.t 0)), O 20 (.len false (.t 19)), O 21 (.bin .sub .other (.t 20) (I 1)), O 22 (.mov (.t 5)), O 23 (.bin .sub .other (.t 21) (.t 22)), O 4 (.mov (.t 23))]) .ret) .skip))) (.region [O 11 (.mov (.t 5)), O 12 (.bin .sub .other (.t 11) (I 1)), O 5 (.mov (.t 12))])))))) (.seq (.region [O 4 (.mov (I (-1)))]) .ret)))
def rs_spec_l15Count : List IRes := [(.t 4)]
theorem fun_spec_l15Count : FunF Tryz.prog 2 51 ir_spec_l15Count rs_spec_l15Count := mkF [] [] follows_CoreS Tryz.func51 (by kernel_rfl) (by kernel_rfl)
end Go.Proofs.YtjifpdcflankpaaGreat
