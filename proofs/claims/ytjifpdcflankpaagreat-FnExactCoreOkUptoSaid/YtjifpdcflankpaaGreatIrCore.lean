/-
  THE ABSTRACT TEXTS OF FUNCTIONS (Core), printed by irgen.py, and that they are the functions' own. Conditions: none.
-/
import Derived.Test.YtjifpdcflankpaaGreatProg
import Derived.Test.YtjifpdcflankpaaGreatAvDraw
set_option linter.unusedVariables false
set_option maxRecDepth 100000
namespace Go.Proofs.YtjifpdcflankpaaGreat
open Go.Proofs.YtjifpdcflankpaaGreat.Av

theorem follows_Core : Tryz.prog.follows .mixedOrders = true := by kernel_rfl

def ir_impl_copyPat_H : Ir Tryz.prog 130 [(8, 7777)] [9999] 1 := ⟨_, _, Tryz.func130, follows_Core, by kernel_rfl, low_of [] Tryz.progTables (by conv => lhs; cbv) (by kernel_rfl)⟩
def ir_impl_given : Ir Tryz.prog 63 [] [] 1 := ⟨_, _, Tryz.func63, follows_Core, by kernel_rfl, low_of [] Tryz.progTables (by conv => lhs; cbv) (by kernel_rfl)⟩
def ir_impl_core_1 : Ir Tryz.prog 68 [] [] 1 := ⟨_, _, Tryz.func68, follows_Core, by kernel_rfl, low_of [] Tryz.progTables (by conv => lhs; cbv) (by kernel_rfl)⟩
def ir_impl_renamePat : Ir Tryz.prog 67 [(8,80), (10, 7777)] [] 2 := ⟨_, _, Tryz.func67, follows_Core, by kernel_rfl, low_of [] Tryz.progTables (by conv => lhs; cbv) (by kernel_rfl)⟩
def ir_slices_Grow_string_string : Ir Tryz.prog 129 [] [9999] 2 := ⟨_, _, Tryz.func129, follows_Core, by kernel_rfl, low_of [] Tryz.progTables (by conv => lhs; cbv) (by kernel_rfl)⟩
def ir_slices_Concat_string_string : Ir Tryz.prog 65 [(24, 7777)] [] 1 := ⟨_, _, Tryz.func65, follows_Core, by kernel_rfl, low_of [] Tryz.progTables (by conv => lhs; cbv) (by kernel_rfl)⟩
def ir_impl_core : Ir Tryz.prog 30 [(28,28)] [] 2 := ⟨_, _, Tryz.func30, follows_Core, by kernel_rfl, low_of [] Tryz.progTables (by conv => lhs; cbv) (by kernel_rfl)⟩
end Go.Proofs.YtjifpdcflankpaaGreat
