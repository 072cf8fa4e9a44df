/-
  THE ABSTRACT TEXTS OF FUNCTIONS (OInt), printed by irgen.py, and that they are the functions' own. Conditions: none.
-/
import Derived.Test.YtjifpdcflankpaaGreatProg
import Derived.Test.YtjifpdcflankpaaGreatAvDraw
set_option linter.unusedVariables false
set_option maxRecDepth 100000
namespace Go.Proofs.YtjifpdcflankpaaGreat
open Go.Proofs.YtjifpdcflankpaaGreat.Av

theorem follows_OInt : Tryz.prog.follows .mixedOrders = true := by kernel_rfl

def ir_laws_toIntS_H : Ir Tryz.prog 113 [] [9999] 1 := ⟨_, _, Tryz.func113, follows_OInt, by kernel_rfl, low_of [] Tryz.progTables (by conv => lhs; cbv) (by kernel_rfl)⟩
def ir_laws_markIntS : Ir Tryz.prog 76 [] [9999] 2 := ⟨_, _, Tryz.func76, follows_OInt, by kernel_rfl, low_of [] Tryz.progTables (by conv => lhs; cbv) (by kernel_rfl)⟩
def ir_laws_heldIntS : Ir Tryz.prog 79 [] [] 2 := ⟨_, _, Tryz.func79, follows_OInt, by kernel_rfl, low_of [] Tryz.progTables (by conv => lhs; cbv) (by kernel_rfl)⟩
end Go.Proofs.YtjifpdcflankpaaGreat
