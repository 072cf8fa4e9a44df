/-
  THE ABSTRACT TEXTS OF FUNCTIONS (GStr), printed by irgen.py, and that they are the functions' own. Conditions: none.
-/
import Derived.Test.YtjnljjbmmmpdiaaDoorProg
import Derived.Test.YtjnljjbmmmpdiaaDoorAvDraw
set_option linter.unusedVariables false
set_option maxRecDepth 100000
namespace Go.Proofs.YtjnljjbmmmpdiaaDoor
open Go.Proofs.YtjnljjbmmmpdiaaDoor.Av

theorem follows_GStr : Tryd.prog.follows .mixedOrders = true := by kernel_rfl

def ir_laws_szStringS : ICode := (.seq (.region [O 4 (.mov (I 0))]) (.seq (.region [O 6 (.mov (.t 1)), O 7 (.mov (.t 0)), O 8 (.len false (.t 7)), O 9 (.bin .sub .other (.t 6) (.t 8)), O 1 (.mov (.t 9))]) (.seq (.seq (.region [O 10 (.mov (.t 1)), O 11 (.bin .lss .other (.t 10) (I 0))]) (.cond (.t 11) (.seq (.region [O 4 (.mov (I (-1)))]) .retK) .skip)) (.seq (.seq (.region [O 5 (.mov (I 0))]) (.block 0 (.loop (.seq (.seq (.region [O 12 (.mov (.t 5)), O 13 (.mov (.t 0)), O 14 (.len false (.t 13)), O 15 (.bin .lss .other (.t 12) (.t 14))]) (.cond (.t 15) .skip (.exit 0))) (.seq (.block 1 (.seq (.region [O 18 (.mov (.t 1)), O 19 (.mov (.t 0)), O 20 (.mov (.t 5)), O 21 (.iaddr 1 (.t 19) (.t 20)), O 22 (.load false 1 (.t 21)), O 23 (.len true (.t 22)), O 24 (.bin .sub .other (.t 18) (.t 23)), O 1 (.mov (.t 24))]) (.seq (.region [O 25 (.mov (.t 1)), O 26 (.bin .lss .other (.t 25) (I 0))]) (.cond (.t 26) (.seq (.region [O 4 (.mov (I (-1)))]) .retK) .skip)))) (.region [O 16 (.mov (.t 5)), O 17 (.bin .add .other (.t 16) (I 1)), O 5 (.mov (.t 17))])))))) (.seq (.region [O 27 (.mov (.t 1)), O 4 (.mov (.t 27))]) .retK)))))
def rs_laws_szStringS : List IRes := [(.t 4)]
theorem funH_laws_szStringS : FunH Tryd.prog 2 9 ir_laws_szStringS rs_laws_szStringS := mkH [] [9999] follows_GStr Tryd.func9 (by kernel_rfl) (by kernel_rfl)
def ir_laws_toStringS : ICode := (.seq (.region [O 2 (.mov (.c .nils))]) (.seq (.region [O 5 (.mov (.t 0)), O 6 (.len false (.t 5)), O 7 (.mkSlice 7 9 16 (.str (bs [])) (.t 6)), O 3 (.mov (.t 7))]) (.seq (.seq (.region [O 4 (.mov (I 0))]) (.block 0 (.loop (.seq (.seq (.region [O 8 (.mov (.t 4)), O 9 (.mov (.t 0)), O 10 (.len false (.t 9)), O 11 (.bin .lss .other (.t 8) (.t 10))]) (.cond (.t 11) .skip (.exit 0))) (.seq (.block 1 (.region [O 14 (.mov (.t 3)), O 15 (.mov (.t 4)), O 16 (.mov (.t 0)), O 17 (.mov (.t 4)), O 18 (.iaddr 1 (.t 16) (.t 17)), O 19 (.load false 1 (.t 18)), O 20 (.iaddr 1 (.t 14) (.t 15)), W (.store 1 (.t 20) (.t 19))])) (.region [O 12 (.mov (.t 4)), O 13 (.bin .add .other (.t 12) (I 1)), O 4 (.mov (.t 13))])))))) (.seq (.region [O 21 (.mov (.t 3)), O 2 (.mov (.t 21))]) .ret))))
def rs_laws_toStringS : List IRes := [(.t 2)]
theorem fun_laws_toStringS : FunF Tryd.prog 1 12 ir_laws_toStringS rs_laws_toStringS := mkF [] [] follows_GStr Tryd.func12 (by kernel_rfl) (by kernel_rfl)
def ir_laws_eqStringS : ICode := (.seq (.region [O 4 (.mov (.c (.bool false)))]) (.seq (.seq (.region [O 6 (.mov (.t 0)), O 7 (.len false (.t 6)), O 8 (.mov (.t 1)), O 9 (.len false (.t 8)), O 10 (.bin .neq .other (.t 7) (.t 9))]) (.cond (.t 10) (.seq (.region [O 4 (.mov (.c (.bool false)))]) .ret) .skip)) (.seq (.seq (.region [O 5 (.mov (I 0))]) (.block 0 (.loop (.seq (.seq (.region [O 11 (.mov (.t 5)), O 12 (.mov (.t 0)), O 13 (.len false (.t 12)), O 14 (.bin .lss .other (.t 11) (.t 13))]) (.cond (.t 14) .skip (.exit 0))) (.seq (.block 1 (.seq (.draw [O 17 (.mov (.t 0)), O 18 (.mov (.t 5)), O 19 (.iaddr 1 (.t 17) (.t 18)), O 20 (.load false 1 (.t 19)), O 21 (.mov (.t 1)), O 22 (.mov (.t 5)), O 23 (.iaddr 1 (.t 21) (.t 22)), O 24 (.load false 1 (.t 23)), O 25 (.bin .neq .other (.t 20) (.t 24))]) (.cond (.t 25) (.seq (.region [O 4 (.mov (.c (.bool false)))]) .ret) .skip))) (.region [O 15 (.mov (.t 5)), O 16 (.bin .add .other (.t 15) (I 1)), O 5 (.mov (.t 16))])))))) (.seq (.region [O 4 (.mov (.c (.bool true)))]) .ret))))
def rs_laws_eqStringS : List IRes := [(.t 4)]
theorem fun_laws_eqStringS : FunF Tryd.prog 2 18 ir_laws_eqStringS rs_laws_eqStringS := mkF [] [] follows_GStr Tryd.func18 (by kernel_rfl) (by kernel_rfl)
end Go.Proofs.YtjnljjbmmmpdiaaDoor
