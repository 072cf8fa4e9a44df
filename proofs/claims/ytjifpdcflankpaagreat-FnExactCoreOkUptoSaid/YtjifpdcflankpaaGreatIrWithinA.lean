/-
  THE ABSTRACT TEXTS OF FUNCTIONS (WithinA), printed by irgen.py, and that they are the functions' own. Conditions: none.
-/
import Derived.Test.YtjifpdcflankpaaGreatProg
import Derived.Test.YtjifpdcflankpaaGreatAvDraw
set_option linter.unusedVariables false
set_option maxRecDepth 100000
namespace Go.Proofs.YtjifpdcflankpaaGreat
open Go.Proofs.YtjifpdcflankpaaGreat.Av

theorem follows_WithinA : Tryz.prog.follows .mixedOrders = true := by kernel_rfl

def ir_impl_within : Ir Tryz.prog 86 [] [] 3 := ⟨_, _, Tryz.func86, follows_WithinA, by kernel_rfl, low_of [] Tryz.progTables (by conv => lhs; cbv) (by kernel_rfl)⟩
def ir_spec_Wrap : Ir Tryz.prog 185 [] [] 1 := ⟨_, _, Tryz.func185, follows_WithinA, by kernel_rfl, low_of [] Tryz.progTables (by conv => lhs; cbv) (by kernel_rfl)⟩
end Go.Proofs.YtjifpdcflankpaaGreat
