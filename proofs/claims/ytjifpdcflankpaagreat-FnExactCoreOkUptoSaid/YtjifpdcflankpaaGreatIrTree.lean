/-
  THE ABSTRACT TEXTS OF FUNCTIONS (Tree), printed by irgen.py, and that they are the functions' own. Conditions: none.
-/
import Derived.Test.YtjifpdcflankpaaGreatProg
import Derived.Test.YtjifpdcflankpaaGreatAvDraw
set_option linter.unusedVariables false
set_option maxRecDepth 100000
namespace Go.Proofs.YtjifpdcflankpaaGreat
open Go.Proofs.YtjifpdcflankpaaGreat.Av

theorem follows_Tree : Tryz.prog.follows .mixedOrders = true := by kernel_rfl

def ir_impl_inOrder : Ir Tryz.prog 115 [(9,7777)] [] 2 := ⟨_, _, Tryz.func115, follows_Tree, by kernel_rfl, low_of [] Tryz.progTables (by conv => lhs; cbv) (by kernel_rfl)⟩
def ir_impl_inOrder_1 : Ir Tryz.prog 158 [(29,7777)] [9999] 5 := ⟨_, _, Tryz.func158, follows_Tree, by kernel_rfl, low_of [] Tryz.progTables (by conv => lhs; cbv) (by kernel_rfl)⟩
end Go.Proofs.YtjifpdcflankpaaGreat
