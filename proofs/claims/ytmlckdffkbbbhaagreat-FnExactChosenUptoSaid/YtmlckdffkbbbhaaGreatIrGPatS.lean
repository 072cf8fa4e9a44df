/-
  THE ABSTRACT TEXTS OF FUNCTIONS (GPatS), printed by irgen.py, and that they are the functions' own. Conditions: none.
-/
import Derived.Test.YtmlckdffkbbbhaaGreatProg
import Derived.Test.YtmlckdffkbbbhaaGreatAvDraw
set_option linter.unusedVariables false
set_option maxRecDepth 100000
namespace Go.Proofs.YtmlckdffkbbbhaaGreat
open Go.Proofs.YtmlckdffkbbbhaaGreat.Av

theorem follows_GPatS : Tryz.prog.follows .mixedOrders = true := by kernel_rfl

def ir_laws_szPatS : ICode := (.seq (.region [O 4 (.mov (I 0))]) (.seq (.region [O 6 (.mov (.t 1)), O 7 (.mov (.t 0)), O 8 (.len false (.t 7)), O 9 (.bin .sub .other (.t 6) (.t 8)), O 1 (.mov (.t 9))]) (.seq (.seq (.region [O 10 (.mov (.t 1)), O 11 (.bin .lss .other (.t 10) (I 0))]) (.cond (.t 11) (.seq (.region [O 4 (.mov (I (-1)))]) .retK) .skip)) (.seq (.seq (.region [O 5 (.mov (I 0))]) (.block 0 (.loop (.seq (.seq (.region [O 12 (.mov (.t 5)), O 13 (.mov (.t 0)), O 14 (.len false (.t 13)), O 15 (.bin .lss .other (.t 12) (.t 14))]) (.cond (.t 15) .skip (.exit 0))) (.seq (.block 1 (.seq (.region [O 18 (.mov (.t 0)), O 19 (.mov (.t 5)), O 20 (.iaddr 1 (.t 18) (.t 19)), O 21 (.load true 1 (.t 20)), O 22 (.mov (.t 1)), O 23 (.callH 125 [(.t 21), (.t 22)]), O 1 (.mov (.t 23))]) (.seq (.region [O 24 (.mov (.t 1)), O 25 (.bin .lss .other (.t 24) (I 0))]) (.cond (.t 25) (.seq (.region [O 4 (.mov (I (-1)))]) .retK) .skip)))) (.region [O 16 (.mov (.t 5)), O 17 (.bin .add .other (.t 16) (I 1)), O 5 (.mov (.t 17))])))))) (.seq (.region [O 26 (.mov (.t 1)), O 4 (.mov (.t 26))]) .retK)))))
def rs_laws_szPatS : List IRes := [(.t 4)]
theorem funH_laws_szPatS : FunH Tryz.prog 2 80 ir_laws_szPatS rs_laws_szPatS := mkH [(23, 7777)] [9999] follows_GPatS Tryz.func80 (by kernel_rfl) (by kernel_rfl)
def ir_laws_toPatS : ICode := (.seq (.region [O 2 (.mov (.c .nils))]) (.seq (.region [O 5 (.mov (.t 0)), O 6 (.len false (.t 5)), O 7 (.mkSlice 7 88 24 (.agg [.nils]) (.t 6)), O 3 (.mov (.t 7))]) (.seq (.seq (.region [O 4 (.mov (I 0))]) (.block 0 (.loop (.seq (.seq (.region [O 8 (.mov (.t 4)), O 9 (.mov (.t 0)), O 10 (.len false (.t 9)), O 11 (.bin .lss .other (.t 8) (.t 10))]) (.cond (.t 11) .skip (.exit 0))) (.seq (.block 1 (.region [O 14 (.mov (.t 3)), O 15 (.mov (.t 4)), O 16 (.mov (.t 0)), O 17 (.mov (.t 4)), O 18 (.iaddr 1 (.t 16) (.t 17)), O 19 (.load true 1 (.t 18)), O 20 (.call 133 [(.t 19)]), O 21 (.iaddr 1 (.t 14) (.t 15)), W (.store 1 (.t 21) (.t 20))])) (.region [O 12 (.mov (.t 4)), O 13 (.bin .add .other (.t 12) (I 1)), O 4 (.mov (.t 13))])))))) (.seq (.region [O 22 (.mov (.t 3)), O 2 (.mov (.t 22))]) .ret))))
def rs_laws_toPatS : List IRes := [(.t 2)]
theorem fun_laws_toPatS : FunF Tryz.prog 1 92 ir_laws_toPatS rs_laws_toPatS := mkF [] [] follows_GPatS Tryz.func92 (by kernel_rfl) (by kernel_rfl)
def ir_laws_eqPatS : ICode := (.seq (.region [O 4 (.mov (.c (.bool false)))]) (.seq (.seq (.region [O 6 (.mov (.t 0)), O 7 (.len false (.t 6)), O 8 (.mov (.t 1)), O 9 (.len false (.t 8)), O 10 (.bin .neq .other (.t 7) (.t 9))]) (.cond (.t 10) (.seq (.region [O 4 (.mov (.c (.bool false)))]) .ret) .skip)) (.seq (.seq (.region [O 5 (.mov (I 0))]) (.block 0 (.loop (.seq (.seq (.region [O 11 (.mov (.t 5)), O 12 (.mov (.t 0)), O 13 (.len false (.t 12)), O 14 (.bin .lss .other (.t 11) (.t 13))]) (.cond (.t 14) .skip (.exit 0))) (.seq (.block 1 (.seq (.draw [O 17 (.mov (.t 0)), O 18 (.mov (.t 5)), O 19 (.iaddr 1 (.t 17) (.t 18)), O 20 (.load true 1 (.t 19)), O 21 (.mov (.t 1)), O 22 (.mov (.t 5)), O 23 (.iaddr 1 (.t 21) (.t 22)), O 24 (.load true 1 (.t 23)), O 25 (.call 147 [(.t 20), (.t 24)]), O 26 (.un .not (.t 25))]) (.cond (.t 26) (.seq (.region [O 4 (.mov (.c (.bool false)))]) .ret) .skip))) (.region [O 15 (.mov (.t 5)), O 16 (.bin .add .other (.t 15) (I 1)), O 5 (.mov (.t 16))])))))) (.seq (.region [O 4 (.mov (.c (.bool true)))]) .ret))))
def rs_laws_eqPatS : List IRes := [(.t 4)]
theorem fun_laws_eqPatS : FunF Tryz.prog 2 113 ir_laws_eqPatS rs_laws_eqPatS := mkF [] [] follows_GPatS Tryz.func113 (by kernel_rfl) (by kernel_rfl)
end Go.Proofs.YtmlckdffkbbbhaaGreat
