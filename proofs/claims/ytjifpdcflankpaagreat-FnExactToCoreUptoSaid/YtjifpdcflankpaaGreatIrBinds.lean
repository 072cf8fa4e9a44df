/-
  THE ABSTRACT TEXTS OF FUNCTIONS (Binds), printed by irgen.py, and that they are the functions' own. Conditions: none.
-/
import Derived.Test.YtjifpdcflankpaaGreatProg
import Derived.Test.YtjifpdcflankpaaGreatAvDraw
set_option linter.unusedVariables false
set_option maxRecDepth 100000
namespace Go.Proofs.YtjifpdcflankpaaGreat
open Go.Proofs.YtjifpdcflankpaaGreat.Av

theorem follows_Binds : Tryz.prog.follows .mixedOrders = true := by kernel_rfl

def ir_impl_patNames : ICode := (.seq (.region [O 1 (.boxP (.t 0)), O 2 (.mov (.c .nils))]) (.seq (.region [O 6 (.slO 6 9 0 (.str (bs [])) []), O 3 (.mov (.t 6))]) (.seq (.seq (.region [O 7 (.faddr 0 (.t 1)), O 8 (.load false 1 (.t 7)), O 9 (.len false (.t 8)), O 10 (.mov (I 0))]) (.block 0 (.loop (.seq (.region [O 11 (.bin .lss .other (.t 10) (.t 9))]) (.seq (.cond (.t 11) .skip (.exit 0)) (.seq (.block 1 (.seq (.region [O 12 (.iaddr 4 (.t 8) (.t 10)), O 13 (.load true 4 (.t 12)), O 5 (.boxO 5 94 4 (.c (.agg [(.int .i64 0), (.int .i64 0), (.str (bs [])), .nils]))), W (.store 4 (.t 5) (.t 13))]) (.seq (.region [O 14 (.faddr 0 (.t 5)), O 15 (.load false 1 (.t 14)), O 16 (.bin .eql .other (.t 15) (I 2))]) (.cond (.t 16) (.region [O 17 (.mov (.t 3)), O 18 (.faddr 2 (.t 5)), O 19 (.load false 1 (.t 18)), O 20 (.slP 1 (.str (bs [])) [(0, (.t 19))]), O 21 (.append 21 9 1 16 (.t 17) (.t 20)), O 3 (.mov (.t 21))]) .skip)))) (.region [O 22 (.bin .add .other (.t 10) (I 1)), O 10 (.mov (.t 22))]))))))) (.seq (.region [O 23 (.mov (.t 3)), O 2 (.mov (.t 23))]) .ret))))
def rs_impl_patNames : List IRes := [(.t 2)]
theorem fun_impl_patNames : FunF Tryz.prog 1 66 ir_impl_patNames rs_impl_patNames := mkF [] [] follows_Binds Tryz.func66 (by kernel_rfl) (by kernel_rfl)
def ir_spec_l15Binds : ICode := (.seq (.region [O 2 (.mov (.c (.bool false)))]) (.seq (.region [O 3 (.mov (.t 0)), O 4 (.bin .eql .other (.t 3) (I 5)), O 5 (.mov (.t 4)), X 6 5 false (.mov (.t 0)), X 7 5 false (.bin .eql .other (.t 6) (I 7)), O 8 (.pick (.t 5) (.c (.bool true)) (.t 7)), O 9 (.mov (.t 8)), X 10 9 false (.mov (.t 0)), X 11 9 false (.bin .eql .other (.t 10) (I 8)), O 12 (.pick (.t 9) (.c (.bool true)) (.t 11)), O 13 (.mov (.t 12)), X 14 13 false (.mov (.t 0)), X 15 13 false (.bin .eql .other (.t 14) (I 15)), O 16 (.pick (.t 13) (.c (.bool true)) (.t 15)), O 2 (.mov (.t 16))]) .ret))
def rs_spec_l15Binds : List IRes := [(.t 2)]
theorem fun_spec_l15Binds : FunF Tryz.prog 1 50 ir_spec_l15Binds rs_spec_l15Binds := mkF [] [] follows_Binds Tryz.func50 (by kernel_rfl) (by kernel_rfl)
def ir_slices_Contains_int_int : ICode := (.seq (.region [O 4 (.mov (.c (.bool false)))]) (.seq (.region [O 5 (.mov (.t 0)), O 6 (.mov (.t 1)), O 7 (.call 128 [(.t 5), (.t 6)]), O 8 (.bin .geq .other (.t 7) (I 0)), O 4 (.mov (.t 8))]) .ret))
def rs_slices_Contains_int_int : List IRes := [(.t 4)]
theorem fun_slices_Contains_int_int : FunF Tryz.prog 2 64 ir_slices_Contains_int_int rs_slices_Contains_int_int := mkF [] [] follows_Binds Tryz.func64 (by kernel_rfl) (by kernel_rfl)
def ir_slices_Index_int_int : ICode := (.seq (.region [O 4 (.mov (I 0))]) (.seq (.seq (.region [O 6 (.mov (.t 0)), O 7 (.len false (.t 6)), O 8 (.mov (I 0))]) (.block 0 (.loop (.seq (.region [O 9 (.bin .lss .other (.t 8) (.t 7))]) (.seq (.cond (.t 9) .skip (.exit 0)) (.seq (.block 1 (.seq (.region [O 10 (.mov (.t 8)), O 5 (.mov (.t 10))]) (.seq (.region [O 11 (.mov (.t 1)), O 12 (.mov (.t 0)), O 13 (.mov (.t 5)), O 14 (.iaddr 1 (.t 12) (.t 13)), O 15 (.load false 1 (.t 14)), O 16 (.bin .eql .other (.t 11) (.t 15))]) (.cond (.t 16) (.seq (.region [O 17 (.mov (.t 5)), O 4 (.mov (.t 17))]) .ret) .skip)))) (.region [O 18 (.bin .add .other (.t 8) (I 1)), O 8 (.mov (.t 18))]))))))) (.seq (.region [O 4 (.mov (I (-1)))]) .ret)))
def rs_slices_Index_int_int : List IRes := [(.t 4)]
theorem fun_slices_Index_int_int : FunF Tryz.prog 2 128 ir_slices_Index_int_int rs_slices_Index_int_int := mkF [] [] follows_Binds Tryz.func128 (by kernel_rfl) (by kernel_rfl)
end Go.Proofs.YtjifpdcflankpaaGreat
