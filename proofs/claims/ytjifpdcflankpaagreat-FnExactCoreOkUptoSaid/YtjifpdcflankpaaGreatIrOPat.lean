/-
  THE ABSTRACT TEXTS OF FUNCTIONS (OPat), printed by irgen.py, and that they are the functions' own. Conditions: none.
-/
import Derived.Test.YtjifpdcflankpaaGreatProg
import Derived.Test.YtjifpdcflankpaaGreatAvDraw
set_option linter.unusedVariables false
set_option maxRecDepth 100000
namespace Go.Proofs.YtjifpdcflankpaaGreat
open Go.Proofs.YtjifpdcflankpaaGreat.Av

theorem follows_OPat : Tryz.prog.follows .mixedOrders = true := by kernel_rfl

def ir_laws_toPNode_H : Ir Tryz.prog 191 [(15, 7777)] [9999] 1 := ⟨_, _, Tryz.func191, follows_OPat, by kernel_rfl, low_of [] Tryz.progTables (by conv => lhs; cbv) (by kernel_rfl)⟩
def ir_laws_toPNodeS_H : Ir Tryz.prog 179 [(20, 7777)] [9999] 1 := ⟨_, _, Tryz.func179, follows_OPat, by kernel_rfl, low_of [] Tryz.progTables (by conv => lhs; cbv) (by kernel_rfl)⟩
def ir_laws_markPNodeS : Ir Tryz.prog 137 [(40, 7777)] [9999] 2 := ⟨_, _, Tryz.func137, follows_OPat, by kernel_rfl, low_of [] Tryz.progTables (by conv => lhs; cbv) (by kernel_rfl)⟩
def ir_laws_heldPNodeS : Ir Tryz.prog 139 [] [] 2 := ⟨_, _, Tryz.func139, follows_OPat, by kernel_rfl, low_of [] Tryz.progTables (by conv => lhs; cbv) (by kernel_rfl)⟩
def ir_laws_toPat_H : Ir Tryz.prog 157 [(6, 7777)] [9999] 1 := ⟨_, _, Tryz.func157, follows_OPat, by kernel_rfl, low_of [] Tryz.progTables (by conv => lhs; cbv) (by kernel_rfl)⟩
def ir_laws_toPatS_H : Ir Tryz.prog 114 [(20, 7777)] [9999] 1 := ⟨_, _, Tryz.func114, follows_OPat, by kernel_rfl, low_of [] Tryz.progTables (by conv => lhs; cbv) (by kernel_rfl)⟩
def ir_laws_markPatS : Ir Tryz.prog 77 [(18, 7777)] [9999] 2 := ⟨_, _, Tryz.func77, follows_OPat, by kernel_rfl, low_of [] Tryz.progTables (by conv => lhs; cbv) (by kernel_rfl)⟩
def ir_laws_heldPatS : Ir Tryz.prog 80 [] [] 2 := ⟨_, _, Tryz.func80, follows_OPat, by kernel_rfl, low_of [] Tryz.progTables (by conv => lhs; cbv) (by kernel_rfl)⟩
end Go.Proofs.YtjifpdcflankpaaGreat
