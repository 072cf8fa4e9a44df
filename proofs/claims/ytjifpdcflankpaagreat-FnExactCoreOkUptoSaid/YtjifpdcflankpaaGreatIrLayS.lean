/-
  THE ABSTRACT TEXTS OF FUNCTIONS (LayS), printed by irgen.py, and that they are the functions' own. Conditions: none.
-/
import Derived.Test.YtjifpdcflankpaaGreatProg
import Derived.Test.YtjifpdcflankpaaGreatAvDraw
set_option linter.unusedVariables false
set_option maxRecDepth 100000
namespace Go.Proofs.YtjifpdcflankpaaGreat
open Go.Proofs.YtjifpdcflankpaaGreat.Av

theorem follows_LayS : Tryz.prog.follows .mixedOrders = true := by kernel_rfl

def ir_spec_l15Types : Ir Tryz.prog 25 [(28,7774)] [12] 1 := ⟨_, _, Tryz.func25, follows_LayS, by kernel_rfl, low_of [] Tryz.progTables (by conv => lhs; cbv) (by kernel_rfl)⟩
def ir_spec_l03Lay : Ir Tryz.prog 26 [(13,90),(28,28), (36, 7777)] [9999, 11] 2 := ⟨_, _, Tryz.func26, follows_LayS, by kernel_rfl, low_of [] Tryz.progTables (by conv => lhs; cbv) (by kernel_rfl)⟩
end Go.Proofs.YtjifpdcflankpaaGreat
