/-
  THE ABSTRACT TEXTS OF FUNCTIONS (GInt), printed by irgen.py, and that they are the functions' own. Conditions: none.
-/
import Derived.Test.YtjifpdcflankpaaGreatProg
import Derived.Test.YtjifpdcflankpaaGreatAvDraw
set_option linter.unusedVariables false
set_option maxRecDepth 100000
namespace Go.Proofs.YtjifpdcflankpaaGreat
open Go.Proofs.YtjifpdcflankpaaGreat.Av

theorem follows_GInt : Tryz.prog.follows .mixedOrders = true := by kernel_rfl

def ir_laws_szIntS : Ir Tryz.prog 102 [] [9999] 2 := ⟨_, _, Tryz.func102, follows_GInt, by kernel_rfl, low_of [] Tryz.progTables (by conv => lhs; cbv) (by kernel_rfl)⟩
def ir_laws_toIntS : Ir Tryz.prog 113 [] [] 1 := ⟨_, _, Tryz.func113, follows_GInt, by kernel_rfl, low_of [] Tryz.progTables (by conv => lhs; cbv) (by kernel_rfl)⟩
def ir_laws_eqIntS : Ir Tryz.prog 134 [] [] 2 := ⟨_, _, Tryz.func134, follows_GInt, by kernel_rfl, low_of [] Tryz.progTables (by conv => lhs; cbv) (by kernel_rfl)⟩
end Go.Proofs.YtjifpdcflankpaaGreat
