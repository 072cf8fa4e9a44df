/-
  THE ABSTRACT TEXTS OF FUNCTIONS (OProg), printed by irgen.py, and that they are the functions' own. Conditions: none.
-/
import Derived.Test.YtjifpdcflankpaaGreatProg
import Derived.Test.YtjifpdcflankpaaGreatAvDraw
set_option linter.unusedVariables false
set_option maxRecDepth 100000
namespace Go.Proofs.YtjifpdcflankpaaGreat
open Go.Proofs.YtjifpdcflankpaaGreat.Av

theorem follows_OProg : Tryz.prog.follows .mixedOrders = true := by kernel_rfl

def ir_laws_toTyItemS_H : Ir Tryz.prog 190 [] [9999] 1 := ⟨_, _, Tryz.func190, follows_OProg, by kernel_rfl, low_of [] Tryz.progTables (by conv => lhs; cbv) (by kernel_rfl)⟩
def ir_laws_markTyItemS : Ir Tryz.prog 136 [] [9999] 2 := ⟨_, _, Tryz.func136, follows_OProg, by kernel_rfl, low_of [] Tryz.progTables (by conv => lhs; cbv) (by kernel_rfl)⟩
def ir_laws_heldTyItemS : Ir Tryz.prog 138 [] [] 2 := ⟨_, _, Tryz.func138, follows_OProg, by kernel_rfl, low_of [] Tryz.progTables (by conv => lhs; cbv) (by kernel_rfl)⟩
def ir_laws_toTy_H : Ir Tryz.prog 178 [(6, 7777)] [9999] 1 := ⟨_, _, Tryz.func178, follows_OProg, by kernel_rfl, low_of [] Tryz.progTables (by conv => lhs; cbv) (by kernel_rfl)⟩
def ir_laws_toCon_H : Ir Tryz.prog 156 [(12, 7777)] [9999] 1 := ⟨_, _, Tryz.func156, follows_OProg, by kernel_rfl, low_of [] Tryz.progTables (by conv => lhs; cbv) (by kernel_rfl)⟩
def ir_laws_toConS_H : Ir Tryz.prog 112 [(20, 7777)] [9999] 1 := ⟨_, _, Tryz.func112, follows_OProg, by kernel_rfl, low_of [] Tryz.progTables (by conv => lhs; cbv) (by kernel_rfl)⟩
def ir_laws_markConS : Ir Tryz.prog 75 [(36, 7777)] [9999] 2 := ⟨_, _, Tryz.func75, follows_OProg, by kernel_rfl, low_of [] Tryz.progTables (by conv => lhs; cbv) (by kernel_rfl)⟩
def ir_laws_heldConS : Ir Tryz.prog 78 [] [] 2 := ⟨_, _, Tryz.func78, follows_OProg, by kernel_rfl, low_of [] Tryz.progTables (by conv => lhs; cbv) (by kernel_rfl)⟩
def ir_laws_toType_H : Ir Tryz.prog 55 [(12, 7777)] [9999] 1 := ⟨_, _, Tryz.func55, follows_OProg, by kernel_rfl, low_of [] Tryz.progTables (by conv => lhs; cbv) (by kernel_rfl)⟩
def ir_laws_toTypeS_H : Ir Tryz.prog 27 [(20, 7777)] [9999] 1 := ⟨_, _, Tryz.func27, follows_OProg, by kernel_rfl, low_of [] Tryz.progTables (by conv => lhs; cbv) (by kernel_rfl)⟩
def ir_laws_markTypeS : Ir Tryz.prog 35 [(33, 7777)] [9999] 2 := ⟨_, _, Tryz.func35, follows_OProg, by kernel_rfl, low_of [] Tryz.progTables (by conv => lhs; cbv) (by kernel_rfl)⟩
def ir_laws_heldTypeS : Ir Tryz.prog 37 [] [] 2 := ⟨_, _, Tryz.func37, follows_OProg, by kernel_rfl, low_of [] Tryz.progTables (by conv => lhs; cbv) (by kernel_rfl)⟩
def ir_laws_toNode_H : Ir Tryz.prog 56 [(18, 7777), (22, 7777)] [9999] 1 := ⟨_, _, Tryz.func56, follows_OProg, by kernel_rfl, low_of [] Tryz.progTables (by conv => lhs; cbv) (by kernel_rfl)⟩
def ir_laws_toNodeS_H : Ir Tryz.prog 28 [(20, 7777)] [9999] 1 := ⟨_, _, Tryz.func28, follows_OProg, by kernel_rfl, low_of [] Tryz.progTables (by conv => lhs; cbv) (by kernel_rfl)⟩
def ir_laws_markNodeS : Ir Tryz.prog 36 [(47, 7777), (54, 7777)] [9999] 2 := ⟨_, _, Tryz.func36, follows_OProg, by kernel_rfl, low_of [] Tryz.progTables (by conv => lhs; cbv) (by kernel_rfl)⟩
def ir_laws_heldNodeS : Ir Tryz.prog 38 [] [] 2 := ⟨_, _, Tryz.func38, follows_OProg, by kernel_rfl, low_of [] Tryz.progTables (by conv => lhs; cbv) (by kernel_rfl)⟩
def ir_laws_toProgram_H : Ir Tryz.prog 9 [(10, 7777), (6, 7777)] [9999] 1 := ⟨_, _, Tryz.func9, follows_OProg, by kernel_rfl, low_of [] Tryz.progTables (by conv => lhs; cbv) (by kernel_rfl)⟩
def ir_laws_markProgram : Ir Tryz.prog 12 [(12, 7777), (8, 7777)] [9999] 2 := ⟨_, _, Tryz.func12, follows_OProg, by kernel_rfl, low_of [] Tryz.progTables (by conv => lhs; cbv) (by kernel_rfl)⟩
def ir_laws_heldProgram : Ir Tryz.prog 13 [] [] 2 := ⟨_, _, Tryz.func13, follows_OProg, by kernel_rfl, low_of [] Tryz.progTables (by conv => lhs; cbv) (by kernel_rfl)⟩
end Go.Proofs.YtjifpdcflankpaaGreat
