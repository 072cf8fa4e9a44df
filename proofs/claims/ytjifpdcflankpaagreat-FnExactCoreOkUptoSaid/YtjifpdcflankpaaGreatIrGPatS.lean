/-
  THE ABSTRACT TEXTS OF FUNCTIONS (GPatS), printed by irgen.py, and that they are the functions' own. Conditions: none.
-/
import Derived.Test.YtjifpdcflankpaaGreatProg
import Derived.Test.YtjifpdcflankpaaGreatAvDraw
set_option linter.unusedVariables false
set_option maxRecDepth 100000
namespace Go.Proofs.YtjifpdcflankpaaGreat
open Go.Proofs.YtjifpdcflankpaaGreat.Av

theorem follows_GPatS : Tryz.prog.follows .mixedOrders = true := by kernel_rfl

def ir_laws_szPatS : Ir Tryz.prog 103 [(23, 7777)] [9999] 2 := ⟨_, _, Tryz.func103, follows_GPatS, by kernel_rfl, low_of [] Tryz.progTables (by conv => lhs; cbv) (by kernel_rfl)⟩
def ir_laws_toPatS : Ir Tryz.prog 114 [] [] 1 := ⟨_, _, Tryz.func114, follows_GPatS, by kernel_rfl, low_of [] Tryz.progTables (by conv => lhs; cbv) (by kernel_rfl)⟩
def ir_laws_eqPatS : Ir Tryz.prog 135 [] [] 2 := ⟨_, _, Tryz.func135, follows_GPatS, by kernel_rfl, low_of [] Tryz.progTables (by conv => lhs; cbv) (by kernel_rfl)⟩
end Go.Proofs.YtjifpdcflankpaaGreat
