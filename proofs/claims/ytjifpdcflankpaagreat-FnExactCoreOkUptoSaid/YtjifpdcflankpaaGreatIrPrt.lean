/-
  THE ABSTRACT TEXTS OF FUNCTIONS (Prt), printed by irgen.py, and that they are the functions' own. Conditions: none.
-/
import Derived.Test.YtjifpdcflankpaaGreatProg
import Derived.Test.YtjifpdcflankpaaGreatAvDraw
set_option linter.unusedVariables false
set_option maxRecDepth 100000
namespace Go.Proofs.YtjifpdcflankpaaGreat
open Go.Proofs.YtjifpdcflankpaaGreat.Av

theorem follows_Prt : Tryz.prog.follows .mixedOrders = true := by kernel_rfl

def ir_spec_l04Var : Ir Tryz.prog 173 [] [] 1 := ⟨_, _, Tryz.func173, follows_Prt, by kernel_rfl, low_of [] Tryz.progTables (by conv => lhs; cbv) (by kernel_rfl)⟩
def ir_spec_l04Ty : Ir Tryz.prog 145 [] [] 2 := ⟨_, _, Tryz.func145, follows_Prt, by kernel_rfl, low_of [] Tryz.progTables (by conv => lhs; cbv) (by kernel_rfl)⟩
def ir_spec_l04Expr : Ir Tryz.prog 146 [] [] 2 := ⟨_, _, Tryz.func146, follows_Prt, by kernel_rfl, low_of [10022, 10029, 10053] Tryz.progTables (by conv => lhs; cbv) (by kernel_rfl)⟩
def ir_spec_PrintProgram : Ir Tryz.prog 90 [] [] 1 := ⟨_, _, Tryz.func90, follows_Prt, by kernel_rfl, low_of [] Tryz.progTables (by conv => lhs; cbv) (by kernel_rfl)⟩
end Go.Proofs.YtjifpdcflankpaaGreat
