/-
  THE ABSTRACT TEXTS OF FUNCTIONS (CoreT), printed by irgen.py, and that they are the functions' own. Conditions: none.
-/
import Derived.Test.YtjifpdcflankpaaGreatProg
import Derived.Test.YtjifpdcflankpaaGreatAvDraw
set_option linter.unusedVariables false
set_option maxRecDepth 100000
namespace Go.Proofs.YtjifpdcflankpaaGreat
open Go.Proofs.YtjifpdcflankpaaGreat.Av

theorem follows_CoreT : Tryz.prog.follows .mixedOrders = true := by kernel_rfl

def ir_spec_l15Pat : Ir Tryz.prog 53 [(22,7774)] [] 2 := ⟨_, _, Tryz.func53, follows_CoreT, by kernel_rfl, low_of [] Tryz.progTables (by conv => lhs; cbv) (by kernel_rfl)⟩
def ir_spec_l15In : Ir Tryz.prog 54 [] [] 5 := ⟨_, _, Tryz.func54, follows_CoreT, by kernel_rfl, low_of [] Tryz.progTables (by conv => lhs; cbv) (by kernel_rfl)⟩
end Go.Proofs.YtjifpdcflankpaaGreat
