/-
  THE ABSTRACT TEXTS OF FUNCTIONS (CoreS), printed by irgen.py, and that they are the functions' own. Conditions: none.
-/
import Derived.Test.YtjifpdcflankpaaGreatProg
import Derived.Test.YtjifpdcflankpaaGreatAvDraw
set_option linter.unusedVariables false
set_option maxRecDepth 100000
namespace Go.Proofs.YtjifpdcflankpaaGreat
open Go.Proofs.YtjifpdcflankpaaGreat.Av

theorem follows_CoreS : Tryz.prog.follows .mixedOrders = true := by kernel_rfl

def ir_spec_l15Given : Ir Tryz.prog 52 [] [] 1 := ⟨_, _, Tryz.func52, follows_CoreS, by kernel_rfl, low_of [] Tryz.progTables (by conv => lhs; cbv) (by kernel_rfl)⟩
def ir_spec_l15Count : Ir Tryz.prog 51 [] [] 2 := ⟨_, _, Tryz.func51, follows_CoreS, by kernel_rfl, low_of [] Tryz.progTables (by conv => lhs; cbv) (by kernel_rfl)⟩
end Go.Proofs.YtjifpdcflankpaaGreat
