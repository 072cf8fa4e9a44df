/-
  THE ABSTRACT TEXTS OF FUNCTIONS (ToCoreT), printed by irgen.py, and that they are the functions' own. Conditions: none.
-/
import Derived.Test.YtjifpdcflankpaaGreatProg
import Derived.Test.YtjifpdcflankpaaGreatAvDraw
set_option linter.unusedVariables false
set_option maxRecDepth 100000
namespace Go.Proofs.YtjifpdcflankpaaGreat
open Go.Proofs.YtjifpdcflankpaaGreat.Av

theorem follows_ToCoreT : Tryz.prog.follows .mixedOrders = true := by kernel_rfl

def ir_spec_ToCore : Ir Tryz.prog 8 [] [] 1 := ⟨_, _, Tryz.func8, follows_ToCoreT, by kernel_rfl, low_of [] Tryz.progTables (by conv => lhs; cbv) (by kernel_rfl)⟩
end Go.Proofs.YtjifpdcflankpaaGreat
