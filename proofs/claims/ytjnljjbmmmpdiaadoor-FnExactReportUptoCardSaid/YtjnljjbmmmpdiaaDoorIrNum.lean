/-
  THE ABSTRACT TEXTS OF FUNCTIONS (Num), printed by irgen.py, and that they are the functions' own. Conditions: none.
-/
import Derived.Test.YtjnljjbmmmpdiaaDoorProg
import Derived.Test.YtjnljjbmmmpdiaaDoorAvDraw
set_option linter.unusedVariables false
set_option maxRecDepth 100000
namespace Go.Proofs.YtjnljjbmmmpdiaaDoor
open Go.Proofs.YtjnljjbmmmpdiaaDoor.Av

theorem follows_Num : Tryd.prog.follows .mixedOrders = true := by kernel_rfl

def ir_spec_l01Digits : ICode := (.seq (.region [O 2 (.mov (.c (.str (bs []))))]) (.seq (.seq (.region [O 3 (.mov (.t 0)), O 4 (.bin .gtr .other (.t 3) (I (-10)))]) (.cond (.t 4) (.seq (.region [O 5 (.mov (.t 0)), O 6 (.bin .sub .other (I 48) (.t 5)), O 7 (.conv .u8 (.t 6)), O 8 (.slP 1 (.int .u8 0) [(0, (.t 7))]), O 9 (.b2s (.t 8)), O 2 (.mov (.t 9))]) .ret) .skip)) (.seq (.draw [O 10 (.mov (.t 0)), O 11 (.bin .quo .other (.t 10) (I 10)), O 12 (.call 20 [(.t 11)]), O 13 (.mov (.t 0)), O 14 (.bin .rem .other (.t 13) (I 10)), O 15 (.bin .sub .other (I 48) (.t 14)), O 16 (.conv .u8 (.t 15)), O 17 (.slP 1 (.int .u8 0) [(0, (.t 16))]), O 18 (.b2s (.t 17)), O 19 (.bin .add .other (.t 12) (.t 18)), O 2 (.mov (.t 19))]) .ret)))
def rs_spec_l01Digits : List IRes := [(.t 2)]
theorem fun_spec_l01Digits : FunF Tryd.prog 1 20 ir_spec_l01Digits rs_spec_l01Digits := mkF [] [] follows_Num Tryd.func20 (by kernel_rfl) (by kernel_rfl)
def ir_spec_NumText : ICode := (.seq (.region [O 2 (.mov (.c (.str (bs []))))]) (.seq (.seq (.region [O 3 (.mov (.t 0)), O 4 (.call 19 [(.t 3)]), O 5 (.mov (.t 0)), O 6 (.bin .neq .other (.t 4) (.t 5))]) (.cond (.t 6) (.seq (.region [O 2 (.mov (.c (.str (bs []))))]) .ret) .skip)) (.seq (.seq (.region [O 7 (.mov (.t 0)), O 8 (.bin .lss .other (.t 7) (I 0))]) (.cond (.t 8) (.seq (.region [O 9 (.mov (.t 0)), O 10 (.call 20 [(.t 9)]), O 11 (.bin .add .other (.c (.str (bs [45]))) (.t 10)), O 2 (.mov (.t 11))]) .ret) .skip)) (.seq (.region [O 12 (.mov (.t 0)), O 13 (.un .neg (.t 12)), O 14 (.call 20 [(.t 13)]), O 2 (.mov (.t 14))]) .ret))))
def rs_spec_NumText : List IRes := [(.t 2)]
theorem fun_spec_NumText : FunF Tryd.prog 1 11 ir_spec_NumText rs_spec_NumText := mkF [] [] follows_Num Tryd.func11 (by kernel_rfl) (by kernel_rfl)
def ir_slices_Reverse_byte_byte : ICode := (.seq (.region [O 4 (.mov (.t 0)), O 5 (.len false (.t 4)), O 6 (.bin .sub .other (.t 5) (I 1)), O 2 (.mov (I 0)), O 3 (.mov (.t 6))]) (.block 0 (.loop (.seq (.seq (.region [O 7 (.mov (.t 2)), O 8 (.mov (.t 3)), O 9 (.bin .lss .other (.t 7) (.t 8))]) (.cond (.t 9) .skip (.exit 0))) (.seq (.block 1 (.draw [O 14 (.mov (.t 0)), O 15 (.mov (.t 2)), O 16 (.mov (.t 0)), O 17 (.mov (.t 3)), O 18 (.mov (.t 0)), O 19 (.mov (.t 3)), O 20 (.iaddr 1 (.t 18) (.t 19)), O 21 (.load false 1 (.t 20)), O 22 (.mov (.t 0)), O 23 (.mov (.t 2)), O 24 (.iaddr 1 (.t 22) (.t 23)), O 25 (.load false 1 (.t 24)), O 26 (.iaddr 1 (.t 14) (.t 15)), W (.store 1 (.t 26) (.t 21)), O 27 (.iaddr 1 (.t 16) (.t 17)), W (.store 1 (.t 27) (.t 25))])) (.region [O 10 (.mov (.t 2)), O 11 (.bin .add .other (.t 10) (I 1)), O 12 (.mov (.t 3)), O 13 (.bin .sub .other (.t 12) (I 1)), O 2 (.mov (.t 11)), O 3 (.mov (.t 13))]))))))
def rs_slices_Reverse_byte_byte : List IRes := []
theorem funH_slices_Reverse_byte_byte : FunH Tryd.prog 1 36 ir_slices_Reverse_byte_byte rs_slices_Reverse_byte_byte := mkH [] [9999] follows_Num Tryd.func36 (by kernel_rfl) (by kernel_rfl)
def ir_impl_digits : ICode := (.seq (.region [O 2 (.mov (.c (.str (bs []))))]) (.seq (.region [O 4 (.slO 4 5 0 (.int .u8 0) []), O 3 (.mov (.t 4))]) (.seq (.block 0 (.loop (.seq (.seq (.region [O 5 (.mov (.t 0)), O 6 (.bin .gtr .other (.t 5) (I 0)), O 7 (.mov (.t 6)), X 8 7 false (.mov (.t 3)), X 9 7 false (.len false (.t 8)), X 10 7 false (.bin .eql .other (.t 9) (I 0)), O 11 (.pick (.t 7) (.c (.bool true)) (.t 10))]) (.cond (.t 11) .skip (.exit 0))) (.block 1 (.seq (.region [O 12 (.mov (.t 3)), O 13 (.mov (.t 0)), O 14 (.bin .rem .other (.t 13) (I 10)), O 15 (.bin .add .other (I 48) (.t 14)), O 16 (.conv .u8 (.t 15)), O 17 (.slP 1 (.int .u8 0) [(0, (.t 16))]), O 18 (.append 18 5 1 1 (.t 12) (.t 17)), O 3 (.mov (.t 18))]) (.region [O 19 (.mov (.t 0)), O 20 (.bin .quo .other (.t 19) (I 10)), O 0 (.mov (.t 20))])))))) (.seq (.region [O 21 (.mov (.t 3)), O 22 (.callH 36 [(.t 21)])]) (.seq (.region [O 23 (.mov (.t 3)), O 24 (.b2s (.t 23)), O 2 (.mov (.t 24))]) .ret)))))
def rs_impl_digits : List IRes := [(.t 2)]
theorem fun_impl_digits : FunF Tryd.prog 1 30 ir_impl_digits rs_impl_digits := mkF [(22, 7777)] [] follows_Num Tryd.func30 (by kernel_rfl) (by kernel_rfl)
def ir_impl_NumText : ICode := (.seq (.region [O 2 (.mov (.c (.str (bs []))))]) (.seq (.block 0 (.seq (.region [O 4 (.mov (.t 0)), O 5 (.call 29 [(.t 4), (I (-4611686018427387904)), (I 4611686018427387903)]), O 6 (.un .not (.t 5)), O 3 (.mov (.t 6))]) (.cond (.t 3) (.seq (.region [O 2 (.mov (.c (.str (bs []))))]) .ret) (.seq (.region [O 8 (.mov (.t 0)), O 9 (.bin .lss .other (.t 8) (I 0)), O 7 (.mov (.t 9))]) (.cond (.t 7) (.seq (.region [O 10 (.mov (.t 0)), O 11 (.un .neg (.t 10)), O 12 (.call 30 [(.t 11)]), O 13 (.bin .add .other (.c (.str (bs [45]))) (.t 12)), O 2 (.mov (.t 13))]) .ret) .skip))))) (.seq (.region [O 14 (.mov (.t 0)), O 15 (.call 30 [(.t 14)]), O 2 (.mov (.t 15))]) .ret)))
def rs_impl_NumText : List IRes := [(.t 2)]
theorem fun_impl_NumText : FunF Tryd.prog 1 23 ir_impl_NumText rs_impl_NumText := mkF [] [] follows_Num Tryd.func23 (by kernel_rfl) (by kernel_rfl)
end Go.Proofs.YtjnljjbmmmpdiaaDoor
