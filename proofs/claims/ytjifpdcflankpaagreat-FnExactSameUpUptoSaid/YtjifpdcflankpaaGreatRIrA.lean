/-
 THE GROUND OF DATA, in one text. Conditions: none.
-/
import Derived.Test.YtjifpdcflankpaaGreatProg
import Derived.Test.YtjifpdcflankpaaGreatRAvDraw

set_option linter.unusedVariables false
set_option maxRecDepth 100000
namespace Go.Proofs.YtjifpdcflankpaaGreat
open Go.Proofs.YtjifpdcflankpaaGreat.Av

theorem follows_MText : Tryz.prog.follows .mixedOrders = true := by kernel_rfl

def ir_laws_szIntS : Ir Tryz.prog 102 [] [9999] 2 := ⟨_, _, Tryz.func102, follows_MText, by kernel_rfl, low_of [] Tryz.progTables (by conv => lhs; cbv) (by kernel_rfl)⟩
def ir_laws_toIntS : Ir Tryz.prog 113 [] [] 1 := ⟨_, _, Tryz.func113, follows_MText, by kernel_rfl, low_of [] Tryz.progTables (by conv => lhs; cbv) (by kernel_rfl)⟩
def ir_laws_eqIntS : Ir Tryz.prog 134 [] [] 2 := ⟨_, _, Tryz.func134, follows_MText, by kernel_rfl, low_of [] Tryz.progTables (by conv => lhs; cbv) (by kernel_rfl)⟩

def ir_laws_szPNode : Ir Tryz.prog 189 [(15, 7777)] [9999] 2 := ⟨_, _, Tryz.func189, follows_MText, by kernel_rfl, low_of [] Tryz.progTables (by conv => lhs; cbv) (by kernel_rfl)⟩
def ir_laws_toPNode : Ir Tryz.prog 191 [] [] 1 := ⟨_, _, Tryz.func191, follows_MText, by kernel_rfl, low_of [] Tryz.progTables (by conv => lhs; cbv) (by kernel_rfl)⟩
def ir_laws_eqPNode : Ir Tryz.prog 194 [] [] 2 := ⟨_, _, Tryz.func194, follows_MText, by kernel_rfl, low_of [] Tryz.progTables (by conv => lhs; cbv) (by kernel_rfl)⟩
def ir_laws_szPNodeS : Ir Tryz.prog 177 [(23, 7777)] [9999] 2 := ⟨_, _, Tryz.func177, follows_MText, by kernel_rfl, low_of [] Tryz.progTables (by conv => lhs; cbv) (by kernel_rfl)⟩
def ir_laws_toPNodeS : Ir Tryz.prog 179 [] [] 1 := ⟨_, _, Tryz.func179, follows_MText, by kernel_rfl, low_of [] Tryz.progTables (by conv => lhs; cbv) (by kernel_rfl)⟩
def ir_laws_eqPNodeS : Ir Tryz.prog 184 [] [] 2 := ⟨_, _, Tryz.func184, follows_MText, by kernel_rfl, low_of [] Tryz.progTables (by conv => lhs; cbv) (by kernel_rfl)⟩
def ir_laws_szPat : Ir Tryz.prog 150 [(8, 7777)] [9999] 2 := ⟨_, _, Tryz.func150, follows_MText, by kernel_rfl, low_of [] Tryz.progTables (by conv => lhs; cbv) (by kernel_rfl)⟩
def ir_laws_toPat : Ir Tryz.prog 157 [] [] 1 := ⟨_, _, Tryz.func157, follows_MText, by kernel_rfl, low_of [] Tryz.progTables (by conv => lhs; cbv) (by kernel_rfl)⟩
def ir_laws_eqPat : Ir Tryz.prog 170 [] [] 2 := ⟨_, _, Tryz.func170, follows_MText, by kernel_rfl, low_of [] Tryz.progTables (by conv => lhs; cbv) (by kernel_rfl)⟩

def ir_laws_szPatS : Ir Tryz.prog 103 [(23, 7777)] [9999] 2 := ⟨_, _, Tryz.func103, follows_MText, by kernel_rfl, low_of [] Tryz.progTables (by conv => lhs; cbv) (by kernel_rfl)⟩
def ir_laws_toPatS : Ir Tryz.prog 114 [] [] 1 := ⟨_, _, Tryz.func114, follows_MText, by kernel_rfl, low_of [] Tryz.progTables (by conv => lhs; cbv) (by kernel_rfl)⟩
def ir_laws_eqPatS : Ir Tryz.prog 135 [] [] 2 := ⟨_, _, Tryz.func135, follows_MText, by kernel_rfl, low_of [] Tryz.progTables (by conv => lhs; cbv) (by kernel_rfl)⟩

def ir_laws_szTyItem : Ir Tryz.prog 195 [] [9999] 2 := ⟨_, _, Tryz.func195, follows_MText, by kernel_rfl, low_of [] Tryz.progTables (by conv => lhs; cbv) (by kernel_rfl)⟩
def ir_laws_toTyItem : Ir Tryz.prog 196 [] [] 1 := ⟨_, _, Tryz.func196, follows_MText, by kernel_rfl, low_of [] Tryz.progTables (by conv => lhs; cbv) (by kernel_rfl)⟩
def ir_laws_eqTyItem : Ir Tryz.prog 197 [] [] 2 := ⟨_, _, Tryz.func197, follows_MText, by kernel_rfl, low_of [] Tryz.progTables (by conv => lhs; cbv) (by kernel_rfl)⟩
def ir_laws_szTyItemS : Ir Tryz.prog 188 [(23, 7777)] [9999] 2 := ⟨_, _, Tryz.func188, follows_MText, by kernel_rfl, low_of [] Tryz.progTables (by conv => lhs; cbv) (by kernel_rfl)⟩
def ir_laws_toTyItemS : Ir Tryz.prog 190 [] [] 1 := ⟨_, _, Tryz.func190, follows_MText, by kernel_rfl, low_of [] Tryz.progTables (by conv => lhs; cbv) (by kernel_rfl)⟩
def ir_laws_eqTyItemS : Ir Tryz.prog 193 [] [] 2 := ⟨_, _, Tryz.func193, follows_MText, by kernel_rfl, low_of [] Tryz.progTables (by conv => lhs; cbv) (by kernel_rfl)⟩
def ir_laws_szTy : Ir Tryz.prog 176 [(8, 7777)] [9999] 2 := ⟨_, _, Tryz.func176, follows_MText, by kernel_rfl, low_of [] Tryz.progTables (by conv => lhs; cbv) (by kernel_rfl)⟩
def ir_laws_toTy : Ir Tryz.prog 178 [] [] 1 := ⟨_, _, Tryz.func178, follows_MText, by kernel_rfl, low_of [] Tryz.progTables (by conv => lhs; cbv) (by kernel_rfl)⟩
def ir_laws_eqTy : Ir Tryz.prog 183 [] [] 2 := ⟨_, _, Tryz.func183, follows_MText, by kernel_rfl, low_of [] Tryz.progTables (by conv => lhs; cbv) (by kernel_rfl)⟩

def ir_laws_szCon : Ir Tryz.prog 149 [(15, 7777)] [9999] 2 := ⟨_, _, Tryz.func149, follows_MText, by kernel_rfl, low_of [] Tryz.progTables (by conv => lhs; cbv) (by kernel_rfl)⟩
def ir_laws_toCon : Ir Tryz.prog 156 [] [] 1 := ⟨_, _, Tryz.func156, follows_MText, by kernel_rfl, low_of [] Tryz.progTables (by conv => lhs; cbv) (by kernel_rfl)⟩
def ir_laws_eqCon : Ir Tryz.prog 169 [] [] 2 := ⟨_, _, Tryz.func169, follows_MText, by kernel_rfl, low_of [] Tryz.progTables (by conv => lhs; cbv) (by kernel_rfl)⟩
def ir_laws_szConS : Ir Tryz.prog 101 [(23, 7777)] [9999] 2 := ⟨_, _, Tryz.func101, follows_MText, by kernel_rfl, low_of [] Tryz.progTables (by conv => lhs; cbv) (by kernel_rfl)⟩
def ir_laws_toConS : Ir Tryz.prog 112 [] [] 1 := ⟨_, _, Tryz.func112, follows_MText, by kernel_rfl, low_of [] Tryz.progTables (by conv => lhs; cbv) (by kernel_rfl)⟩
def ir_laws_eqConS : Ir Tryz.prog 133 [] [] 2 := ⟨_, _, Tryz.func133, follows_MText, by kernel_rfl, low_of [] Tryz.progTables (by conv => lhs; cbv) (by kernel_rfl)⟩
def ir_laws_szType : Ir Tryz.prog 44 [(15, 7777)] [9999] 2 := ⟨_, _, Tryz.func44, follows_MText, by kernel_rfl, low_of [] Tryz.progTables (by conv => lhs; cbv) (by kernel_rfl)⟩
def ir_laws_toType : Ir Tryz.prog 55 [] [] 1 := ⟨_, _, Tryz.func55, follows_MText, by kernel_rfl, low_of [] Tryz.progTables (by conv => lhs; cbv) (by kernel_rfl)⟩
def ir_laws_eqType : Ir Tryz.prog 72 [] [] 2 := ⟨_, _, Tryz.func72, follows_MText, by kernel_rfl, low_of [] Tryz.progTables (by conv => lhs; cbv) (by kernel_rfl)⟩
def ir_laws_szNode : Ir Tryz.prog 45 [(15, 7777), (21, 7777)] [9999] 2 := ⟨_, _, Tryz.func45, follows_MText, by kernel_rfl, low_of [] Tryz.progTables (by conv => lhs; cbv) (by kernel_rfl)⟩
def ir_laws_toNode : Ir Tryz.prog 56 [] [] 1 := ⟨_, _, Tryz.func56, follows_MText, by kernel_rfl, low_of [] Tryz.progTables (by conv => lhs; cbv) (by kernel_rfl)⟩
def ir_laws_eqNode : Ir Tryz.prog 73 [] [] 2 := ⟨_, _, Tryz.func73, follows_MText, by kernel_rfl, low_of [] Tryz.progTables (by conv => lhs; cbv) (by kernel_rfl)⟩
def ir_laws_szTypeS : Ir Tryz.prog 20 [(23, 7777)] [9999] 2 := ⟨_, _, Tryz.func20, follows_MText, by kernel_rfl, low_of [] Tryz.progTables (by conv => lhs; cbv) (by kernel_rfl)⟩
def ir_laws_toTypeS : Ir Tryz.prog 27 [] [] 1 := ⟨_, _, Tryz.func27, follows_MText, by kernel_rfl, low_of [] Tryz.progTables (by conv => lhs; cbv) (by kernel_rfl)⟩
def ir_laws_eqTypeS : Ir Tryz.prog 33 [] [] 2 := ⟨_, _, Tryz.func33, follows_MText, by kernel_rfl, low_of [] Tryz.progTables (by conv => lhs; cbv) (by kernel_rfl)⟩
def ir_laws_szNodeS : Ir Tryz.prog 21 [(23, 7777)] [9999] 2 := ⟨_, _, Tryz.func21, follows_MText, by kernel_rfl, low_of [] Tryz.progTables (by conv => lhs; cbv) (by kernel_rfl)⟩
def ir_laws_toNodeS : Ir Tryz.prog 28 [] [] 1 := ⟨_, _, Tryz.func28, follows_MText, by kernel_rfl, low_of [] Tryz.progTables (by conv => lhs; cbv) (by kernel_rfl)⟩
def ir_laws_eqNodeS : Ir Tryz.prog 34 [] [] 2 := ⟨_, _, Tryz.func34, follows_MText, by kernel_rfl, low_of [] Tryz.progTables (by conv => lhs; cbv) (by kernel_rfl)⟩
def ir_laws_szProgram : Ir Tryz.prog 7 [(14, 7777), (8, 7777)] [9999] 2 := ⟨_, _, Tryz.func7, follows_MText, by kernel_rfl, low_of [] Tryz.progTables (by conv => lhs; cbv) (by kernel_rfl)⟩
def ir_laws_toProgram : Ir Tryz.prog 9 [] [] 1 := ⟨_, _, Tryz.func9, follows_MText, by kernel_rfl, low_of [] Tryz.progTables (by conv => lhs; cbv) (by kernel_rfl)⟩
def ir_laws_eqProgram : Ir Tryz.prog 11 [] [] 2 := ⟨_, _, Tryz.func11, follows_MText, by kernel_rfl, low_of [] Tryz.progTables (by conv => lhs; cbv) (by kernel_rfl)⟩

end Go.Proofs.YtjifpdcflankpaaGreat
