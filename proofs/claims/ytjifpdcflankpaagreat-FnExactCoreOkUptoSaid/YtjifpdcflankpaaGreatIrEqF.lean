/-
  THE ABSTRACT TEXTS OF FUNCTIONS (EqF), printed by irgen.py, and that they are the functions' own. Conditions: none.
-/
import Derived.Test.YtjifpdcflankpaaGreatProg
import Derived.Test.YtjifpdcflankpaaGreatAvDraw
set_option linter.unusedVariables false
set_option maxRecDepth 100000
namespace Go.Proofs.YtjifpdcflankpaaGreat
open Go.Proofs.YtjifpdcflankpaaGreat.Av

theorem follows_EqF : Tryz.prog.follows .mixedOrders = true := by kernel_rfl

def ir_slices_EqualFunc_impl_Node_impl_Node_impl_Node_impl_Node : Ir Tryz.prog 96 [] [] 3 := ⟨_, _, Tryz.func96, follows_EqF, by kernel_rfl, low_of [] Tryz.progTables (by conv => lhs; cbv) (by kernel_rfl)⟩
def ir_slices_EqualFunc_impl_Pat_impl_Pat_impl_Pat_impl_Pat : Ir Tryz.prog 99 [] [] 3 := ⟨_, _, Tryz.func99, follows_EqF, by kernel_rfl, low_of [] Tryz.progTables (by conv => lhs; cbv) (by kernel_rfl)⟩
def ir_slices_EqualFunc_impl_PNode_impl_PNode_impl_PNode_impl_PNode : Ir Tryz.prog 147 [] [] 3 := ⟨_, _, Tryz.func147, follows_EqF, by kernel_rfl, low_of [] Tryz.progTables (by conv => lhs; cbv) (by kernel_rfl)⟩
def ir_slices_Equal_int_int : Ir Tryz.prog 98 [] [] 2 := ⟨_, _, Tryz.func98, follows_EqF, by kernel_rfl, low_of [] Tryz.progTables (by conv => lhs; cbv) (by kernel_rfl)⟩
def ir_impl_sameNodes : Ir Tryz.prog 43 [] [] 2 := ⟨_, _, Tryz.func43, follows_EqF, by kernel_rfl, low_of [] Tryz.progTables (by conv => lhs; cbv) (by kernel_rfl)⟩
def ir_impl_sameNodes_1 : Ir Tryz.prog 97 [] [] 2 := ⟨_, _, Tryz.func97, follows_EqF, by kernel_rfl, low_of [] Tryz.progTables (by conv => lhs; cbv) (by kernel_rfl)⟩
def ir_impl_samePat : Ir Tryz.prog 100 [] [] 2 := ⟨_, _, Tryz.func100, follows_EqF, by kernel_rfl, low_of [] Tryz.progTables (by conv => lhs; cbv) (by kernel_rfl)⟩
def ir_impl_samePat_1 : Ir Tryz.prog 148 [] [] 2 := ⟨_, _, Tryz.func148, follows_EqF, by kernel_rfl, low_of [] Tryz.progTables (by conv => lhs; cbv) (by kernel_rfl)⟩
end Go.Proofs.YtjifpdcflankpaaGreat
