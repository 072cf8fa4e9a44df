/-
  THE ABSTRACT TEXTS OF FUNCTIONS (SType), printed by irgen.py, and that they are the functions' own. Conditions: none.
-/
import Derived.Test.YtjifpdcflankpaaGreatProg
import Derived.Test.YtjifpdcflankpaaGreatAvDraw
set_option linter.unusedVariables false
set_option maxRecDepth 100000
namespace Go.Proofs.YtjifpdcflankpaaGreat
open Go.Proofs.YtjifpdcflankpaaGreat.Av

theorem follows_SType : Tryz.prog.follows .mixedOrders = true := by kernel_rfl

def ir_slices_IndexFunc_impl_Type_impl_Type : Ir Tryz.prog 162 [] [] 2 := ⟨_, _, Tryz.func162, follows_SType, by kernel_rfl, low_of [] Tryz.progTables (by conv => lhs; cbv) (by kernel_rfl)⟩
def ir_slices_ContainsFunc_impl_Type_impl_Type : Ir Tryz.prog 118 [] [] 2 := ⟨_, _, Tryz.func118, follows_SType, by kernel_rfl, low_of [] Tryz.progTables (by conv => lhs; cbv) (by kernel_rfl)⟩
end Go.Proofs.YtjifpdcflankpaaGreat
