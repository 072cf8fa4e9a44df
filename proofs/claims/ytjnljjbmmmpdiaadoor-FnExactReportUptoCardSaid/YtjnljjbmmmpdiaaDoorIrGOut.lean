/-
  THE ABSTRACT TEXTS OF FUNCTIONS (GOut), printed by irgen.py, and that they are the functions' own. Conditions: none.
-/
import Derived.Test.YtjnljjbmmmpdiaaDoorProg
import Derived.Test.YtjnljjbmmmpdiaaDoorAvDraw
set_option linter.unusedVariables false
set_option maxRecDepth 100000
namespace Go.Proofs.YtjnljjbmmmpdiaaDoor
open Go.Proofs.YtjnljjbmmmpdiaaDoor.Av

theorem follows_GOut : Tryd.prog.follows .mixedOrders = true := by kernel_rfl

def ir_laws_szOutcome : ICode := (.seq (.region [O 2 (.boxP (.t 0)), O 4 (.mov (I 0))]) (.seq (.region [O 5 (.faddr 2 (.t 2)), O 6 (.load false 1 (.t 5)), O 7 (.mov (.t 1)), O 8 (.callH 9 [(.t 6), (.t 7)]), O 1 (.mov (.t 8))]) (.seq (.seq (.region [O 9 (.mov (.t 1)), O 10 (.bin .lss .other (.t 9) (I 0))]) (.cond (.t 10) (.seq (.region [O 4 (.mov (I (-1)))]) .retK) .skip)) (.seq (.region [O 11 (.mov (.t 1)), O 4 (.mov (.t 11))]) .retK))))
def rs_laws_szOutcome : List IRes := [(.t 4)]
theorem funH_laws_szOutcome : FunH Tryd.prog 2 4 ir_laws_szOutcome rs_laws_szOutcome := mkH [(8, 7777)] [9999] follows_GOut Tryd.func4 (by kernel_rfl) (by kernel_rfl)
def ir_laws_toOutcome : ICode := (.seq (.region [O 1 (.boxP (.t 0)), O 2 (.boxO 2 27 4 (.c (.agg [(.int .i64 0), (.int .i64 0), .nils, (.int .i64 0)])))]) (.seq (.region [O 3 (.boxO 3 27 4 (.c (.agg [(.int .i64 0), (.int .i64 0), .nils, (.int .i64 0)])))]) (.seq (.region [O 4 (.faddr 0 (.t 1)), O 5 (.load false 1 (.t 4)), O 6 (.faddr 0 (.t 3)), W (.store 1 (.t 6) (.t 5))]) (.seq (.region [O 7 (.faddr 1 (.t 1)), O 8 (.load false 1 (.t 7)), O 9 (.faddr 1 (.t 3)), W (.store 1 (.t 9) (.t 8))]) (.seq (.region [O 10 (.faddr 2 (.t 1)), O 11 (.load false 1 (.t 10)), O 12 (.call 12 [(.t 11)]), O 13 (.faddr 2 (.t 3)), W (.store 1 (.t 13) (.t 12))]) (.seq (.region [O 14 (.faddr 3 (.t 1)), O 15 (.load false 1 (.t 14)), O 16 (.faddr 3 (.t 3)), W (.store 1 (.t 16) (.t 15))]) (.seq (.region [O 17 (.load true 4 (.t 3)), W (.store 4 (.t 2) (.t 17))]) .ret)))))))
def rs_laws_toOutcome : List IRes := [(.c true 4 2)]
theorem fun_laws_toOutcome : FunF Tryd.prog 1 6 ir_laws_toOutcome rs_laws_toOutcome := mkF [] [] follows_GOut Tryd.func6 (by kernel_rfl) (by kernel_rfl)
def ir_laws_eqOutcome : ICode := (.seq (.region [O 2 (.boxP (.t 0)), O 3 (.boxP (.t 1)), O 4 (.mov (.c (.bool false)))]) (.seq (.seq (.region [O 5 (.faddr 0 (.t 2)), O 6 (.load false 1 (.t 5)), O 7 (.faddr 0 (.t 3)), O 8 (.load false 1 (.t 7)), O 9 (.bin .neq .other (.t 6) (.t 8))]) (.cond (.t 9) (.seq (.region [O 4 (.mov (.c (.bool false)))]) .ret) .skip)) (.seq (.seq (.region [O 10 (.faddr 1 (.t 2)), O 11 (.load false 1 (.t 10)), O 12 (.faddr 1 (.t 3)), O 13 (.load false 1 (.t 12)), O 14 (.bin .neq .other (.t 11) (.t 13))]) (.cond (.t 14) (.seq (.region [O 4 (.mov (.c (.bool false)))]) .ret) .skip)) (.seq (.seq (.region [O 15 (.faddr 2 (.t 2)), O 16 (.load false 1 (.t 15)), O 17 (.faddr 2 (.t 3)), O 18 (.load false 1 (.t 17)), O 19 (.call 18 [(.t 16), (.t 18)]), O 20 (.un .not (.t 19))]) (.cond (.t 20) (.seq (.region [O 4 (.mov (.c (.bool false)))]) .ret) .skip)) (.seq (.seq (.region [O 21 (.faddr 3 (.t 2)), O 22 (.load false 1 (.t 21)), O 23 (.faddr 3 (.t 3)), O 24 (.load false 1 (.t 23)), O 25 (.bin .neq .other (.t 22) (.t 24))]) (.cond (.t 25) (.seq (.region [O 4 (.mov (.c (.bool false)))]) .ret) .skip)) (.seq (.region [O 4 (.mov (.c (.bool true)))]) .ret))))))
def rs_laws_eqOutcome : List IRes := [(.t 4)]
theorem fun_laws_eqOutcome : FunF Tryd.prog 2 8 ir_laws_eqOutcome rs_laws_eqOutcome := mkF [] [] follows_GOut Tryd.func8 (by kernel_rfl) (by kernel_rfl)
end Go.Proofs.YtjnljjbmmmpdiaaDoor
