/-
  THE ABSTRACT TEXTS OF FUNCTIONS (CopyO), printed by irgen.py, and that they are the functions' own. Conditions: none.
-/
import Derived.Test.YtjifpdcflankpaaGreatProg
import Derived.Test.YtjifpdcflankpaaGreatAvDraw
set_option linter.unusedVariables false
set_option maxRecDepth 100000
namespace Go.Proofs.YtjifpdcflankpaaGreat
open Go.Proofs.YtjifpdcflankpaaGreat.Av

theorem follows_CopyO : Tryz.prog.follows .mixedOrders = true := by kernel_rfl

def ir_slices_Clone_impl_Con_impl_Con : Ir Tryz.prog 131 [(4,7776)] [9999] 1 := ⟨_, _, Tryz.func131, follows_CopyO, by kernel_rfl, low_of [] Tryz.progTables (by conv => lhs; cbv) (by kernel_rfl)⟩
def ir_slices_Clone_impl_TyItem_impl_TyItem : Ir Tryz.prog 132 [(4,7776)] [9999] 1 := ⟨_, _, Tryz.func132, follows_CopyO, by kernel_rfl, low_of [] Tryz.progTables (by conv => lhs; cbv) (by kernel_rfl)⟩
def ir_slices_Clone_impl_PNode_impl_PNode_O : Ir Tryz.prog 167 [(4,7776)] [9999] 1 := ⟨_, _, Tryz.func167, follows_CopyO, by kernel_rfl, low_of [] Tryz.progTables (by conv => lhs; cbv) (by kernel_rfl)⟩
def ir_slices_Clone_int_int_O : Ir Tryz.prog 168 [(4,7776)] [9999] 1 := ⟨_, _, Tryz.func168, follows_CopyO, by kernel_rfl, low_of [] Tryz.progTables (by conv => lhs; cbv) (by kernel_rfl)⟩
def ir_impl_copyPat_O : Ir Tryz.prog 130 [(23, 7777), (8, 7777)] [9999] 1 := ⟨_, _, Tryz.func130, follows_CopyO, by kernel_rfl, low_of [10005] Tryz.progTables (by conv => lhs; cbv) (by kernel_rfl)⟩
def ir_impl_copyPats_O : Ir Tryz.prog 69 [(15, 7777)] [9999] 1 := ⟨_, _, Tryz.func69, follows_CopyO, by kernel_rfl, low_of [] Tryz.progTables (by conv => lhs; cbv) (by kernel_rfl)⟩
def ir_impl_copyTypes_O : Ir Tryz.prog 71 [(17, 7777), (33, 7777)] [9999] 1 := ⟨_, _, Tryz.func71, follows_CopyO, by kernel_rfl, low_of [10009] Tryz.progTables (by conv => lhs; cbv) (by kernel_rfl)⟩
def ir_impl_flat_O : Ir Tryz.prog 70 [(18,7775),(22,7775),(26,7775),(30,7775),(34,7775),(38,29),(39,30),(59,30), (35, 7777), (52, 7777)] [9999, 11] 2 := ⟨_, _, Tryz.func70, follows_CopyO, by kernel_rfl, low_of [] Tryz.progTables (by conv => lhs; cbv) (by kernel_rfl)⟩
def ir_impl_programOf_O : Ir Tryz.prog 32 [(13, 7777), (9, 7777)] [9999] 2 := ⟨_, _, Tryz.func32, follows_CopyO, by kernel_rfl, low_of [] Tryz.progTables (by conv => lhs; cbv) (by kernel_rfl)⟩
end Go.Proofs.YtjifpdcflankpaaGreat
