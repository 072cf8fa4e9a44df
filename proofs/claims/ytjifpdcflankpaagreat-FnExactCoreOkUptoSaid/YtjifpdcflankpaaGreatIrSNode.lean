/-
  THE ABSTRACT TEXTS OF FUNCTIONS (SNode), printed by irgen.py, and that they are the functions' own. Conditions: none.
-/
import Derived.Test.YtjifpdcflankpaaGreatProg
import Derived.Test.YtjifpdcflankpaaGreatAvDraw
set_option linter.unusedVariables false
set_option maxRecDepth 100000
namespace Go.Proofs.YtjifpdcflankpaaGreat
open Go.Proofs.YtjifpdcflankpaaGreat.Av

theorem follows_SNode : Tryz.prog.follows .mixedOrders = true := by kernel_rfl

def ir_slices_IndexFunc_impl_Node_impl_Node : Ir Tryz.prog 142 [] [] 2 := ⟨_, _, Tryz.func142, follows_SNode, by kernel_rfl, low_of [] Tryz.progTables (by conv => lhs; cbv) (by kernel_rfl)⟩
def ir_slices_ContainsFunc_impl_Node_impl_Node : Ir Tryz.prog 84 [] [] 2 := ⟨_, _, Tryz.func84, follows_SNode, by kernel_rfl, low_of [] Tryz.progTables (by conv => lhs; cbv) (by kernel_rfl)⟩
end Go.Proofs.YtjifpdcflankpaaGreat
