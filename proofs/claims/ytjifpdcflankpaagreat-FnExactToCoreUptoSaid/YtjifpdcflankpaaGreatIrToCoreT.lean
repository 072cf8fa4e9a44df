/-
  THE ABSTRACT TEXTS OF FUNCTIONS (ToCoreT), printed by irgen.py, and that they are the functions' own. Conditions: none.
-/
import Derived.Test.YtjifpdcflankpaaGreatProg
import Derived.Test.YtjifpdcflankpaaGreatAvDraw
set_option linter.unusedVariables false
set_option maxRecDepth 100000
namespace Go.Proofs.YtjifpdcflankpaaGreat
open Go.Proofs.YtjifpdcflankpaaGreat.Av

theorem follows_ToCoreT : Tryz.prog.follows .mixedOrders = true := by kernel_rfl

def ir_spec_ToCore : ICode := (.seq (.region [O 1 (.boxP (.t 0)), O 2 (.boxO 2 30 2 (.c (.agg [.nils, .nils]))), O 3 (.mov (.c (.bool false)))]) (.seq (.seq (.region [O 6 (.load true 2 (.t 1)), O 7 (.call 22 [(.t 6)]), O 8 (.un .not (.t 7))]) (.cond (.t 8) (.seq (.region [O 9 (.build [.nils, .nils] []), W (.store 2 (.t 2) (.t 9)), O 3 (.mov (.c (.bool false)))]) .ret) .skip)) (.seq (.region [O 11 (.load true 2 (.t 1)), O 12 (.call 24 [(.t 11), (I 0)]), O 13 (.call 23 [(.t 12), (.c .nils)]), O 10 (.mov (.t 13)), O 14 (.extract 0 (.t 10)), O 15 (.extract 1 (.t 10)), O 4 (.boxO 4 47 7 (.c (.agg [(.int .i64 0), (.int .i64 0), (.int .i64 0), (.str (bs [])), .nils, .nils, .nils]))), W (.store 7 (.t 4) (.t 14)), O 5 (.mov (.t 15))]) (.seq (.seq (.region [O 16 (.mov (.t 5)), O 17 (.un .not (.t 16))]) (.cond (.t 17) (.seq (.region [O 18 (.build [.nils, .nils] []), W (.store 2 (.t 2) (.t 18)), O 3 (.mov (.c (.bool false)))]) .ret) .skip)) (.seq (.draw [O 19 (.faddr 0 (.t 1)), O 20 (.load false 1 (.t 19)), O 21 (.call 25 [(.t 20)]), O 22 (.load true 7 (.t 4)), O 23 (.call 26 [(.c .nils), (.t 22)]), O 24 (.build [.nils, .nils] [(0, (1, (.t 21))), (1, (1, (.t 23)))]), W (.store 2 (.t 2) (.t 24)), O 3 (.mov (.c (.bool true)))]) .ret)))))
def rs_spec_ToCore : List IRes := [(.c true 2 2), (.t 3)]
theorem fun_spec_ToCore : FunF Tryz.prog 1 8 ir_spec_ToCore rs_spec_ToCore := mkF [] [] follows_ToCoreT Tryz.func8 (by kernel_rfl) (by kernel_rfl)
end Go.Proofs.YtjifpdcflankpaaGreat
