/-
  THE ABSTRACT TEXTS OF FUNCTIONS (WithinA), printed by irgen.py, and that they are the functions' own. Conditions: none.
-/
import Derived.Test.YtjnljjbmmmpdiaaDoorProg
import Derived.Test.YtjnljjbmmmpdiaaDoorAvDraw
set_option linter.unusedVariables false
set_option maxRecDepth 100000
namespace Go.Proofs.YtjnljjbmmmpdiaaDoor
open Go.Proofs.YtjnljjbmmmpdiaaDoor.Av

theorem follows_WithinA : Tryd.prog.follows .mixedOrders = true := by kernel_rfl

def ir_impl_within : ICode := (.seq (.region [O 6 (.mov (.c (.bool false)))]) (.seq (.region [O 7 (.mov (.t 0)), O 8 (.mov (.t 1)), O 9 (.bin .geq .other (.t 7) (.t 8)), O 10 (.mov (.t 9)), X 11 10 true (.mov (.t 0)), X 12 10 true (.mov (.t 2)), X 13 10 true (.bin .leq .other (.t 11) (.t 12)), O 14 (.pick (.t 10) (.t 13) (.c (.bool false))), O 6 (.mov (.t 14))]) .ret))
def rs_impl_within : List IRes := [(.t 6)]
theorem fun_impl_within : FunF Tryd.prog 3 29 ir_impl_within rs_impl_within := mkF [] [] follows_WithinA Tryd.func29 (by kernel_rfl) (by kernel_rfl)
def ir_spec_Wrap : ICode := (.seq (.region [O 2 (.mov (I 0))]) (.seq (.region [O 3 (.mov (.t 0)), O 4 (.binw .shl (.t 3) (.c (.int .u64 1))), O 5 (.binw .shr (.t 4) (.c (.int .u64 1))), O 2 (.mov (.t 5))]) .ret))
def rs_spec_Wrap : List IRes := [(.t 2)]
theorem fun_spec_Wrap : FunF Tryd.prog 1 19 ir_spec_Wrap rs_spec_Wrap := mkF [] [] follows_WithinA Tryd.func19 (by kernel_rfl) (by kernel_rfl)
end Go.Proofs.YtjnljjbmmmpdiaaDoor
