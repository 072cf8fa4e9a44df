/-
  THE ABSTRACT TEXTS OF FUNCTIONS (GPat), printed by irgen.py, and that they are the functions' own. Conditions: none.
-/
import Derived.Test.YtjifpdcflankpaaGreatProg
import Derived.Test.YtjifpdcflankpaaGreatAvDraw
set_option linter.unusedVariables false
set_option maxRecDepth 100000
namespace Go.Proofs.YtjifpdcflankpaaGreat
open Go.Proofs.YtjifpdcflankpaaGreat.Av

theorem follows_GPat : Tryz.prog.follows .mixedOrders = true := by kernel_rfl

def ir_laws_szPNode : Ir Tryz.prog 189 [(15, 7777)] [9999] 2 := ⟨_, _, Tryz.func189, follows_GPat, by kernel_rfl, low_of [] Tryz.progTables (by conv => lhs; cbv) (by kernel_rfl)⟩
def ir_laws_toPNode : Ir Tryz.prog 191 [] [] 1 := ⟨_, _, Tryz.func191, follows_GPat, by kernel_rfl, low_of [] Tryz.progTables (by conv => lhs; cbv) (by kernel_rfl)⟩
def ir_laws_eqPNode : Ir Tryz.prog 194 [] [] 2 := ⟨_, _, Tryz.func194, follows_GPat, by kernel_rfl, low_of [] Tryz.progTables (by conv => lhs; cbv) (by kernel_rfl)⟩
def ir_laws_szPNodeS : Ir Tryz.prog 177 [(23, 7777)] [9999] 2 := ⟨_, _, Tryz.func177, follows_GPat, by kernel_rfl, low_of [] Tryz.progTables (by conv => lhs; cbv) (by kernel_rfl)⟩
def ir_laws_toPNodeS : Ir Tryz.prog 179 [] [] 1 := ⟨_, _, Tryz.func179, follows_GPat, by kernel_rfl, low_of [] Tryz.progTables (by conv => lhs; cbv) (by kernel_rfl)⟩
def ir_laws_eqPNodeS : Ir Tryz.prog 184 [] [] 2 := ⟨_, _, Tryz.func184, follows_GPat, by kernel_rfl, low_of [] Tryz.progTables (by conv => lhs; cbv) (by kernel_rfl)⟩
def ir_laws_szPat : Ir Tryz.prog 150 [(8, 7777)] [9999] 2 := ⟨_, _, Tryz.func150, follows_GPat, by kernel_rfl, low_of [] Tryz.progTables (by conv => lhs; cbv) (by kernel_rfl)⟩
def ir_laws_toPat : Ir Tryz.prog 157 [] [] 1 := ⟨_, _, Tryz.func157, follows_GPat, by kernel_rfl, low_of [] Tryz.progTables (by conv => lhs; cbv) (by kernel_rfl)⟩
def ir_laws_eqPat : Ir Tryz.prog 170 [] [] 2 := ⟨_, _, Tryz.func170, follows_GPat, by kernel_rfl, low_of [] Tryz.progTables (by conv => lhs; cbv) (by kernel_rfl)⟩
end Go.Proofs.YtjifpdcflankpaaGreat
