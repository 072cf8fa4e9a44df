/-
  THE ABSTRACT TEXTS OF FUNCTIONS (ToCoreI), printed by irgen.py, and that they are the functions' own. Conditions: none.
-/
import Derived.Test.YtjifpdcflankpaaGreatProg
import Derived.Test.YtjifpdcflankpaaGreatAvDraw
set_option linter.unusedVariables false
set_option maxRecDepth 100000
namespace Go.Proofs.YtjifpdcflankpaaGreat
open Go.Proofs.YtjifpdcflankpaaGreat.Av

theorem follows_ToCoreI : Tryz.prog.follows .mixedOrders = true := by kernel_rfl

def ir_impl_ToCore_H : ICode := (.seq (.region [O 1 (.boxP (.t 0)), O 2 (.boxO 2 30 2 (.c (.agg [.nils, .nils]))), O 3 (.mov (.c (.bool false)))]) (.seq (.seq (.region [O 6 (.load true 2 (.t 1)), O 7 (.call 29 [(.t 6)]), O 8 (.un .not (.t 7))]) (.cond (.t 8) (.seq (.region [O 9 (.build [.nils, .nils] []), W (.store 2 (.t 2) (.t 9)), O 3 (.mov (.c (.bool false)))]) .retK) .skip)) (.seq (.region [O 11 (.faddr 1 (.t 1)), O 12 (.load false 1 (.t 11)), O 13 (.call 31 [(.t 12), (I 0)]), O 14 (.call 30 [(.t 13), (.c .nils)]), O 10 (.mov (.t 14)), O 15 (.extract 0 (.t 10)), O 16 (.extract 1 (.t 10)), O 4 (.mov (.t 15)), O 5 (.mov (.t 16))]) (.seq (.seq (.region [O 17 (.mov (.t 5)), O 18 (.un .not (.t 17))]) (.cond (.t 18) (.seq (.region [O 19 (.build [.nils, .nils] []), W (.store 2 (.t 2) (.t 19)), O 3 (.mov (.c (.bool false)))]) .retK) .skip)) (.seq (.region [O 20 (.faddr 0 (.t 1)), O 21 (.load false 1 (.t 20)), O 22 (.mov (.t 4)), O 23 (.callH 32 [(.t 21), (.t 22)]), W (.store 2 (.t 2) (.t 23)), O 3 (.mov (.c (.bool true)))]) .retK)))))
def rs_impl_ToCore_H : List IRes := [(.c true 2 2), (.t 3)]
theorem funH_impl_ToCore_H : FunH Tryz.prog 1 10 ir_impl_ToCore_H rs_impl_ToCore_H := mkH [(23, 7777)] [9999] follows_ToCoreI Tryz.func10 (by kernel_rfl) (by kernel_rfl)
end Go.Proofs.YtjifpdcflankpaaGreat
