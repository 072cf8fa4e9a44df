/-
  THE ABSTRACT TEXTS OF FUNCTIONS (GProg), printed by irgen.py, and that they are the functions' own. Conditions: none.
-/
import Derived.Test.YtjifpdcflankpaaGreatProg
import Derived.Test.YtjifpdcflankpaaGreatAvDraw
set_option linter.unusedVariables false
set_option maxRecDepth 100000
namespace Go.Proofs.YtjifpdcflankpaaGreat
open Go.Proofs.YtjifpdcflankpaaGreat.Av

theorem follows_GProg : Tryz.prog.follows .mixedOrders = true := by kernel_rfl

def ir_laws_szCon : Ir Tryz.prog 149 [(15, 7777)] [9999] 2 := ⟨_, _, Tryz.func149, follows_GProg, by kernel_rfl, low_of [] Tryz.progTables (by conv => lhs; cbv) (by kernel_rfl)⟩
def ir_laws_toCon : Ir Tryz.prog 156 [] [] 1 := ⟨_, _, Tryz.func156, follows_GProg, by kernel_rfl, low_of [] Tryz.progTables (by conv => lhs; cbv) (by kernel_rfl)⟩
def ir_laws_eqCon : Ir Tryz.prog 169 [] [] 2 := ⟨_, _, Tryz.func169, follows_GProg, by kernel_rfl, low_of [] Tryz.progTables (by conv => lhs; cbv) (by kernel_rfl)⟩
def ir_laws_szConS : Ir Tryz.prog 101 [(23, 7777)] [9999] 2 := ⟨_, _, Tryz.func101, follows_GProg, by kernel_rfl, low_of [] Tryz.progTables (by conv => lhs; cbv) (by kernel_rfl)⟩
def ir_laws_toConS : Ir Tryz.prog 112 [] [] 1 := ⟨_, _, Tryz.func112, follows_GProg, by kernel_rfl, low_of [] Tryz.progTables (by conv => lhs; cbv) (by kernel_rfl)⟩
def ir_laws_eqConS : Ir Tryz.prog 133 [] [] 2 := ⟨_, _, Tryz.func133, follows_GProg, by kernel_rfl, low_of [] Tryz.progTables (by conv => lhs; cbv) (by kernel_rfl)⟩
def ir_laws_szType : Ir Tryz.prog 44 [(15, 7777)] [9999] 2 := ⟨_, _, Tryz.func44, follows_GProg, by kernel_rfl, low_of [] Tryz.progTables (by conv => lhs; cbv) (by kernel_rfl)⟩
def ir_laws_toType : Ir Tryz.prog 55 [] [] 1 := ⟨_, _, Tryz.func55, follows_GProg, by kernel_rfl, low_of [] Tryz.progTables (by conv => lhs; cbv) (by kernel_rfl)⟩
def ir_laws_eqType : Ir Tryz.prog 72 [] [] 2 := ⟨_, _, Tryz.func72, follows_GProg, by kernel_rfl, low_of [] Tryz.progTables (by conv => lhs; cbv) (by kernel_rfl)⟩
def ir_laws_szNode : Ir Tryz.prog 45 [(15, 7777), (21, 7777)] [9999] 2 := ⟨_, _, Tryz.func45, follows_GProg, by kernel_rfl, low_of [] Tryz.progTables (by conv => lhs; cbv) (by kernel_rfl)⟩
def ir_laws_toNode : Ir Tryz.prog 56 [] [] 1 := ⟨_, _, Tryz.func56, follows_GProg, by kernel_rfl, low_of [] Tryz.progTables (by conv => lhs; cbv) (by kernel_rfl)⟩
def ir_laws_eqNode : Ir Tryz.prog 73 [] [] 2 := ⟨_, _, Tryz.func73, follows_GProg, by kernel_rfl, low_of [] Tryz.progTables (by conv => lhs; cbv) (by kernel_rfl)⟩
def ir_laws_szTypeS : Ir Tryz.prog 20 [(23, 7777)] [9999] 2 := ⟨_, _, Tryz.func20, follows_GProg, by kernel_rfl, low_of [] Tryz.progTables (by conv => lhs; cbv) (by kernel_rfl)⟩
def ir_laws_toTypeS : Ir Tryz.prog 27 [] [] 1 := ⟨_, _, Tryz.func27, follows_GProg, by kernel_rfl, low_of [] Tryz.progTables (by conv => lhs; cbv) (by kernel_rfl)⟩
def ir_laws_eqTypeS : Ir Tryz.prog 33 [] [] 2 := ⟨_, _, Tryz.func33, follows_GProg, by kernel_rfl, low_of [] Tryz.progTables (by conv => lhs; cbv) (by kernel_rfl)⟩
def ir_laws_szNodeS : Ir Tryz.prog 21 [(23, 7777)] [9999] 2 := ⟨_, _, Tryz.func21, follows_GProg, by kernel_rfl, low_of [] Tryz.progTables (by conv => lhs; cbv) (by kernel_rfl)⟩
def ir_laws_toNodeS : Ir Tryz.prog 28 [] [] 1 := ⟨_, _, Tryz.func28, follows_GProg, by kernel_rfl, low_of [] Tryz.progTables (by conv => lhs; cbv) (by kernel_rfl)⟩
def ir_laws_eqNodeS : Ir Tryz.prog 34 [] [] 2 := ⟨_, _, Tryz.func34, follows_GProg, by kernel_rfl, low_of [] Tryz.progTables (by conv => lhs; cbv) (by kernel_rfl)⟩
def ir_laws_szProgram : Ir Tryz.prog 7 [(14, 7777), (8, 7777)] [9999] 2 := ⟨_, _, Tryz.func7, follows_GProg, by kernel_rfl, low_of [] Tryz.progTables (by conv => lhs; cbv) (by kernel_rfl)⟩
def ir_laws_toProgram : Ir Tryz.prog 9 [] [] 1 := ⟨_, _, Tryz.func9, follows_GProg, by kernel_rfl, low_of [] Tryz.progTables (by conv => lhs; cbv) (by kernel_rfl)⟩
def ir_laws_eqProgram : Ir Tryz.prog 11 [] [] 2 := ⟨_, _, Tryz.func11, follows_GProg, by kernel_rfl, low_of [] Tryz.progTables (by conv => lhs; cbv) (by kernel_rfl)⟩
end Go.Proofs.YtjifpdcflankpaaGreat
