/-
  THE ABSTRACT TEXTS OF FUNCTIONS (SPat), printed by irgen.py, and that they are the functions' own. Conditions: none.
-/
import Derived.Test.YtjifpdcflankpaaGreatProg
import Derived.Test.YtjifpdcflankpaaGreatAvDraw
set_option linter.unusedVariables false
set_option maxRecDepth 100000
namespace Go.Proofs.YtjifpdcflankpaaGreat
open Go.Proofs.YtjifpdcflankpaaGreat.Av

theorem follows_SPat : Tryz.prog.follows .mixedOrders = true := by kernel_rfl

def ir_slices_IndexFunc_impl_Pat_impl_Pat : Ir Tryz.prog 125 [] [] 2 := ⟨_, _, Tryz.func125, follows_SPat, by kernel_rfl, low_of [] Tryz.progTables (by conv => lhs; cbv) (by kernel_rfl)⟩
def ir_slices_ContainsFunc_impl_Pat_impl_Pat : Ir Tryz.prog 60 [] [] 2 := ⟨_, _, Tryz.func60, follows_SPat, by kernel_rfl, low_of [] Tryz.progTables (by conv => lhs; cbv) (by kernel_rfl)⟩
end Go.Proofs.YtjifpdcflankpaaGreat
