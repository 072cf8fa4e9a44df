/-
  THE ABSTRACT TEXTS OF FUNCTIONS (ToCoreS), printed by irgen.py, and that they are the functions' own. Conditions: none.
-/
import Derived.Test.YtjifpdcflankpaaGreatProg
import Derived.Test.YtjifpdcflankpaaGreatAvDraw
set_option linter.unusedVariables false
set_option maxRecDepth 100000
namespace Go.Proofs.YtjifpdcflankpaaGreat
open Go.Proofs.YtjifpdcflankpaaGreat.Av

theorem follows_ToCoreS : Tryz.prog.follows .mixedOrders = true := by kernel_rfl

def ir_spec_l15Core : Ir Tryz.prog 23 [(85,7775),(87,7775),(88,7775),(90,7775),(95,7775),(96,7775)] [22] 2 := ⟨_, _, Tryz.func23, follows_ToCoreS, by kernel_rfl, low_of [] Tryz.progTables (by conv => lhs; cbv) (by kernel_rfl)⟩
end Go.Proofs.YtjifpdcflankpaaGreat
