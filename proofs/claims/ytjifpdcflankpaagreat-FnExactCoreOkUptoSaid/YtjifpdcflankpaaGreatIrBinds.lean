/-
  THE ABSTRACT TEXTS OF FUNCTIONS (Binds), printed by irgen.py, and that they are the functions' own. Conditions: none.
-/
import Derived.Test.YtjifpdcflankpaaGreatProg
import Derived.Test.YtjifpdcflankpaaGreatAvDraw
set_option linter.unusedVariables false
set_option maxRecDepth 100000
namespace Go.Proofs.YtjifpdcflankpaaGreat
open Go.Proofs.YtjifpdcflankpaaGreat.Av

theorem follows_Binds : Tryz.prog.follows .mixedOrders = true := by kernel_rfl

def ir_impl_patNames : Ir Tryz.prog 66 [] [] 1 := ⟨_, _, Tryz.func66, follows_Binds, by kernel_rfl, low_of [] Tryz.progTables (by conv => lhs; cbv) (by kernel_rfl)⟩
def ir_spec_l15Binds : Ir Tryz.prog 50 [] [] 1 := ⟨_, _, Tryz.func50, follows_Binds, by kernel_rfl, low_of [] Tryz.progTables (by conv => lhs; cbv) (by kernel_rfl)⟩
def ir_slices_Contains_int_int : Ir Tryz.prog 64 [] [] 2 := ⟨_, _, Tryz.func64, follows_Binds, by kernel_rfl, low_of [] Tryz.progTables (by conv => lhs; cbv) (by kernel_rfl)⟩
def ir_slices_Index_int_int : Ir Tryz.prog 128 [] [] 2 := ⟨_, _, Tryz.func128, follows_Binds, by kernel_rfl, low_of [] Tryz.progTables (by conv => lhs; cbv) (by kernel_rfl)⟩
end Go.Proofs.YtjifpdcflankpaaGreat
