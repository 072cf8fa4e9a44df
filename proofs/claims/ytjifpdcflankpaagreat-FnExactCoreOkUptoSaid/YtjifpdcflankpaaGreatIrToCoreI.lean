/-
  THE ABSTRACT TEXTS OF FUNCTIONS (ToCoreI), printed by irgen.py, and that they are the functions' own. Conditions: none.
-/
import Derived.Test.YtjifpdcflankpaaGreatProg
import Derived.Test.YtjifpdcflankpaaGreatAvDraw
set_option linter.unusedVariables false
set_option maxRecDepth 100000
namespace Go.Proofs.YtjifpdcflankpaaGreat
open Go.Proofs.YtjifpdcflankpaaGreat.Av

theorem follows_ToCoreI : Tryz.prog.follows .mixedOrders = true := by kernel_rfl

def ir_impl_ToCore_H : Ir Tryz.prog 10 [(23, 7777)] [9999] 1 := ⟨_, _, Tryz.func10, follows_ToCoreI, by kernel_rfl, low_of [] Tryz.progTables (by conv => lhs; cbv) (by kernel_rfl)⟩
end Go.Proofs.YtjifpdcflankpaaGreat
