/-
  THE ABSTRACT TEXTS OF FUNCTIONS (Grow), printed by irgen.py, and that they are the functions' own. Conditions: none.
-/
import Derived.Test.YtjifpdcflankpaaGreatProg
import Derived.Test.YtjifpdcflankpaaGreatAvDraw
set_option linter.unusedVariables false
set_option maxRecDepth 100000
namespace Go.Proofs.YtjifpdcflankpaaGreat
open Go.Proofs.YtjifpdcflankpaaGreat.Av

theorem follows_Grow : Tryz.prog.follows .mixedOrders = true := by kernel_rfl

def ir_slices_Clone_impl_PNode_impl_PNode : Ir Tryz.prog 167 [(5,8)] [9999] 1 := ⟨_, _, Tryz.func167, follows_Grow, by kernel_rfl, low_of [] Tryz.progTables (by conv => lhs; cbv) (by kernel_rfl)⟩
def ir_slices_Clone_int_int : Ir Tryz.prog 168 [(4,7776)] [] 1 := ⟨_, _, Tryz.func168, follows_Grow, by kernel_rfl, low_of [] Tryz.progTables (by conv => lhs; cbv) (by kernel_rfl)⟩
def ir_impl_copyPat : Ir Tryz.prog 130 [(8, 7777)] [] 1 := ⟨_, _, Tryz.func130, follows_Grow, by kernel_rfl, low_of [] Tryz.progTables (by conv => lhs; cbv) (by kernel_rfl)⟩
def ir_impl_copyPats : Ir Tryz.prog 69 [] [] 1 := ⟨_, _, Tryz.func69, follows_Grow, by kernel_rfl, low_of [] Tryz.progTables (by conv => lhs; cbv) (by kernel_rfl)⟩
def ir_impl_grow : Ir Tryz.prog 31 [(25,25)] [] 2 := ⟨_, _, Tryz.func31, follows_Grow, by kernel_rfl, low_of [] Tryz.progTables (by conv => lhs; cbv) (by kernel_rfl)⟩
end Go.Proofs.YtjifpdcflankpaaGreat
