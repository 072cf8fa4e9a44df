/-
  THE ABSTRACT TEXTS OF FUNCTIONS (GTy), printed by irgen.py, and that they are the functions' own. Conditions: none.
-/
import Derived.Test.YtjifpdcflankpaaGreatProg
import Derived.Test.YtjifpdcflankpaaGreatAvDraw
set_option linter.unusedVariables false
set_option maxRecDepth 100000
namespace Go.Proofs.YtjifpdcflankpaaGreat
open Go.Proofs.YtjifpdcflankpaaGreat.Av

theorem follows_GTy : Tryz.prog.follows .mixedOrders = true := by kernel_rfl

def ir_laws_szTyItem : Ir Tryz.prog 195 [] [9999] 2 := ⟨_, _, Tryz.func195, follows_GTy, by kernel_rfl, low_of [] Tryz.progTables (by conv => lhs; cbv) (by kernel_rfl)⟩
def ir_laws_toTyItem : Ir Tryz.prog 196 [] [] 1 := ⟨_, _, Tryz.func196, follows_GTy, by kernel_rfl, low_of [] Tryz.progTables (by conv => lhs; cbv) (by kernel_rfl)⟩
def ir_laws_eqTyItem : Ir Tryz.prog 197 [] [] 2 := ⟨_, _, Tryz.func197, follows_GTy, by kernel_rfl, low_of [] Tryz.progTables (by conv => lhs; cbv) (by kernel_rfl)⟩
def ir_laws_szTyItemS : Ir Tryz.prog 188 [(23, 7777)] [9999] 2 := ⟨_, _, Tryz.func188, follows_GTy, by kernel_rfl, low_of [] Tryz.progTables (by conv => lhs; cbv) (by kernel_rfl)⟩
def ir_laws_toTyItemS : Ir Tryz.prog 190 [] [] 1 := ⟨_, _, Tryz.func190, follows_GTy, by kernel_rfl, low_of [] Tryz.progTables (by conv => lhs; cbv) (by kernel_rfl)⟩
def ir_laws_eqTyItemS : Ir Tryz.prog 193 [] [] 2 := ⟨_, _, Tryz.func193, follows_GTy, by kernel_rfl, low_of [] Tryz.progTables (by conv => lhs; cbv) (by kernel_rfl)⟩
def ir_laws_szTy : Ir Tryz.prog 176 [(8, 7777)] [9999] 2 := ⟨_, _, Tryz.func176, follows_GTy, by kernel_rfl, low_of [] Tryz.progTables (by conv => lhs; cbv) (by kernel_rfl)⟩
def ir_laws_toTy : Ir Tryz.prog 178 [] [] 1 := ⟨_, _, Tryz.func178, follows_GTy, by kernel_rfl, low_of [] Tryz.progTables (by conv => lhs; cbv) (by kernel_rfl)⟩
def ir_laws_eqTy : Ir Tryz.prog 183 [] [] 2 := ⟨_, _, Tryz.func183, follows_GTy, by kernel_rfl, low_of [] Tryz.progTables (by conv => lhs; cbv) (by kernel_rfl)⟩
end Go.Proofs.YtjifpdcflankpaaGreat
