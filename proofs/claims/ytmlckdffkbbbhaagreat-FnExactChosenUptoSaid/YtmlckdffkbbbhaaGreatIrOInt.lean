/-
  THE ABSTRACT TEXTS OF FUNCTIONS (OInt), printed by irgen.py, and that they are the functions' own. Conditions: none.
-/
import Derived.Test.YtmlckdffkbbbhaaGreatProg
import Derived.Test.YtmlckdffkbbbhaaGreatAvDraw
set_option linter.unusedVariables false
set_option maxRecDepth 100000
namespace Go.Proofs.YtmlckdffkbbbhaaGreat
open Go.Proofs.YtmlckdffkbbbhaaGreat.Av

theorem follows_OInt : Tryz.prog.follows .mixedOrders = true := by kernel_rfl

def ir_laws_toIntS_H : ICode := (.seq (.region [O 2 (.mov (.c .nils))]) (.seq (.region [O 5 (.mov (.t 0)), O 6 (.len false (.t 5)), O 7 (.mkSlice 7 3 8 (.int .i64 0) (.t 6)), O 3 (.mov (.t 7))]) (.seq (.seq (.region [O 4 (.mov (I 0))]) (.block 0 (.loop (.seq (.seq (.region [O 8 (.mov (.t 4)), O 9 (.mov (.t 0)), O 10 (.len false (.t 9)), O 11 (.bin .lss .other (.t 8) (.t 10))]) (.cond (.t 11) .skip (.exit 0))) (.seq (.block 1 (.region [O 14 (.mov (.t 3)), O 15 (.mov (.t 4)), O 16 (.mov (.t 0)), O 17 (.mov (.t 4)), O 18 (.iaddr 1 (.t 16) (.t 17)), O 19 (.load false 1 (.t 18)), O 20 (.iaddr 1 (.t 14) (.t 15)), W (.store 1 (.t 20) (.t 19))])) (.region [O 12 (.mov (.t 4)), O 13 (.bin .add .other (.t 12) (I 1)), O 4 (.mov (.t 13))])))))) (.seq (.region [O 21 (.mov (.t 3)), O 2 (.mov (.t 21))]) .retK))))
def rs_laws_toIntS_H : List IRes := [(.t 2)]
theorem funH_laws_toIntS_H : FunH Tryz.prog 1 91 ir_laws_toIntS_H rs_laws_toIntS_H := mkH [] [9999] follows_OInt Tryz.func91 (by kernel_rfl) (by kernel_rfl)
def ir_laws_markIntS : ICode := (.seq (.region [O 4 (.mov (I 0))]) (.seq (.seq (.region [O 5 (.mov (I 0))]) (.block 0 (.loop (.seq (.seq (.region [O 6 (.mov (.t 5)), O 7 (.mov (.t 0)), O 8 (.len false (.t 7)), O 9 (.bin .lss .other (.t 6) (.t 8))]) (.cond (.t 9) .skip (.exit 0))) (.seq (.block 1 (.seq (.region [O 12 (.mov (.t 0)), O 13 (.mov (.t 5)), O 14 (.mov (.t 1)), O 15 (.iaddr 1 (.t 12) (.t 13)), W (.store 1 (.t 15) (.t 14))]) (.region [O 16 (.mov (.t 1)), O 17 (.bin .add .other (.t 16) (I 1)), O 1 (.mov (.t 17))]))) (.region [O 10 (.mov (.t 5)), O 11 (.bin .add .other (.t 10) (I 1)), O 5 (.mov (.t 11))])))))) (.seq (.region [O 18 (.mov (.t 1)), O 4 (.mov (.t 18))]) .retK)))
def rs_laws_markIntS : List IRes := [(.t 4)]
theorem funH_laws_markIntS : FunH Tryz.prog 2 68 ir_laws_markIntS rs_laws_markIntS := mkH [] [9999] follows_OInt Tryz.func68 (by kernel_rfl) (by kernel_rfl)
def ir_laws_heldIntS : ICode := (.seq (.region [O 4 (.mov (I 0))]) (.seq (.seq (.region [O 5 (.mov (I 0))]) (.block 0 (.loop (.seq (.seq (.region [O 6 (.mov (.t 5)), O 7 (.mov (.t 0)), O 8 (.len false (.t 7)), O 9 (.bin .lss .other (.t 6) (.t 8))]) (.cond (.t 9) .skip (.exit 0))) (.seq (.block 1 (.seq (.seq (.region [O 12 (.mov (.t 0)), O 13 (.mov (.t 5)), O 14 (.iaddr 1 (.t 12) (.t 13)), O 15 (.load false 1 (.t 14)), O 16 (.mov (.t 1)), O 17 (.bin .neq .other (.t 15) (.t 16))]) (.cond (.t 17) (.seq (.region [O 4 (.mov (I (-1)))]) .ret) .skip)) (.region [O 18 (.mov (.t 1)), O 19 (.bin .add .other (.t 18) (I 1)), O 1 (.mov (.t 19))]))) (.region [O 10 (.mov (.t 5)), O 11 (.bin .add .other (.t 10) (I 1)), O 5 (.mov (.t 11))])))))) (.seq (.region [O 20 (.mov (.t 1)), O 4 (.mov (.t 20))]) .ret)))
def rs_laws_heldIntS : List IRes := [(.t 4)]
theorem fun_laws_heldIntS : FunF Tryz.prog 2 71 ir_laws_heldIntS rs_laws_heldIntS := mkF [] [] follows_OInt Tryz.func71 (by kernel_rfl) (by kernel_rfl)
end Go.Proofs.YtmlckdffkbbbhaaGreat
