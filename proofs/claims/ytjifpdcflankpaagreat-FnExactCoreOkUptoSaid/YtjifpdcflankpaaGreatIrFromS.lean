/-
  THE ABSTRACT TEXTS OF FUNCTIONS (FromS), printed by irgen.py, and that they are the functions' own. Conditions: none.
-/
import Derived.Test.YtjifpdcflankpaaGreatProg
import Derived.Test.YtjifpdcflankpaaGreatAvDraw
set_option linter.unusedVariables false
set_option maxRecDepth 100000
namespace Go.Proofs.YtjifpdcflankpaaGreat
open Go.Proofs.YtjifpdcflankpaaGreat.Av

theorem follows_FromS : Tryz.prog.follows .mixedOrders = true := by kernel_rfl

def ir_spec_l15Name : Ir Tryz.prog 140 [] [] 1 := ⟨_, _, Tryz.func140, follows_FromS, by kernel_rfl, low_of [] Tryz.progTables (by conv => lhs; cbv) (by kernel_rfl)⟩
def ir_spec_l15Some : Ir Tryz.prog 141 [] [] 2 := ⟨_, _, Tryz.func141, follows_FromS, by kernel_rfl, low_of [] Tryz.progTables (by conv => lhs; cbv) (by kernel_rfl)⟩
def ir_spec_l15Named : Ir Tryz.prog 82 [(59,7775),(62,7775),(64,7775),(65,7775)] [13] 2 := ⟨_, _, Tryz.func82, follows_FromS, by kernel_rfl, low_of [] Tryz.progTables (by conv => lhs; cbv) (by kernel_rfl)⟩
def ir_spec_l15Shape : Ir Tryz.prog 81 [] [] 1 := ⟨_, _, Tryz.func81, follows_FromS, by kernel_rfl, low_of [] Tryz.progTables (by conv => lhs; cbv) (by kernel_rfl)⟩
def ir_spec_l15SamePat : Ir Tryz.prog 89 [] [] 2 := ⟨_, _, Tryz.func89, follows_FromS, by kernel_rfl, low_of [] Tryz.progTables (by conv => lhs; cbv) (by kernel_rfl)⟩
def ir_spec_l15Same : Ir Tryz.prog 41 [] [] 2 := ⟨_, _, Tryz.func41, follows_FromS, by kernel_rfl, low_of [] Tryz.progTables (by conv => lhs; cbv) (by kernel_rfl)⟩
def ir_spec_l15Back : Ir Tryz.prog 39 [(12,7775),(13,7775),(14,7775),(15,7775),(16,7775),(17,7775)] [] 1 := ⟨_, _, Tryz.func39, follows_FromS, by kernel_rfl, low_of [10003] Tryz.progTables (by conv => lhs; cbv) (by kernel_rfl)⟩
def ir_spec_CoreOk : Ir Tryz.prog 14 [] [] 1 := ⟨_, _, Tryz.func14, follows_FromS, by kernel_rfl, low_of [] Tryz.progTables (by conv => lhs; cbv) (by kernel_rfl)⟩
end Go.Proofs.YtjifpdcflankpaaGreat
