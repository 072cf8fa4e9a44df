/-
  THE ABSTRACT TEXTS OF FUNCTIONS (Words), printed by irgen.py, and that they are the functions' own. Conditions: none.
-/
import Derived.Test.YtjifpdcflankpaaGreatProg
import Derived.Test.YtjifpdcflankpaaGreatAvDraw
set_option linter.unusedVariables false
set_option maxRecDepth 100000
namespace Go.Proofs.YtjifpdcflankpaaGreat
open Go.Proofs.YtjifpdcflankpaaGreat.Av

theorem follows_Words : Tryz.prog.follows .mixedOrders = true := by kernel_rfl

def ir_impl_conShape : Ir Tryz.prog 161 [] [] 3 := ⟨_, _, Tryz.func161, follows_Words, by kernel_rfl, low_of [] Tryz.progTables (by conv => lhs; cbv) (by kernel_rfl)⟩
def ir_impl_ConOk : Ir Tryz.prog 163 [] [] 1 := ⟨_, _, Tryz.func163, follows_Words, by kernel_rfl, low_of [] Tryz.progTables (by conv => lhs; cbv) (by kernel_rfl)⟩
def ir_impl_NameOk : Ir Tryz.prog 59 [] [] 1 := ⟨_, _, Tryz.func59, follows_Words, by kernel_rfl, low_of [] Tryz.progTables (by conv => lhs; cbv) (by kernel_rfl)⟩
def ir_impl_keywords : Ir Tryz.prog 124 [] [] 0 := ⟨_, _, Tryz.func124, follows_Words, by kernel_rfl, low_of [] Tryz.progTables (by conv => lhs; cbv) (by kernel_rfl)⟩
def ir_slices_Contains_string_string : Ir Tryz.prog 123 [] [] 2 := ⟨_, _, Tryz.func123, follows_Words, by kernel_rfl, low_of [] Tryz.progTables (by conv => lhs; cbv) (by kernel_rfl)⟩
def ir_slices_Index_string_string : Ir Tryz.prog 166 [] [] 2 := ⟨_, _, Tryz.func166, follows_Words, by kernel_rfl, low_of [] Tryz.progTables (by conv => lhs; cbv) (by kernel_rfl)⟩
def ir_spec_l04ConOk : Ir Tryz.prog 109 [] [] 3 := ⟨_, _, Tryz.func109, follows_Words, by kernel_rfl, low_of [] Tryz.progTables (by conv => lhs; cbv) (by kernel_rfl)⟩
def ir_spec_ConOk : Ir Tryz.prog 106 [] [] 1 := ⟨_, _, Tryz.func106, follows_Words, by kernel_rfl, low_of [] Tryz.progTables (by conv => lhs; cbv) (by kernel_rfl)⟩
def ir_spec_NameOk : Ir Tryz.prog 46 [] [] 1 := ⟨_, _, Tryz.func46, follows_Words, by kernel_rfl, low_of [] Tryz.progTables (by conv => lhs; cbv) (by kernel_rfl)⟩
def ir_impl_wordOk : Ir Tryz.prog 121 [] [] 1 := ⟨_, _, Tryz.func121, follows_Words, by kernel_rfl, low_of [] Tryz.progTables (by conv => lhs; cbv) (by kernel_rfl)⟩
def ir_impl_isWord : Ir Tryz.prog 165 [] [] 1 := ⟨_, _, Tryz.func165, follows_Words, by kernel_rfl, low_of [] Tryz.progTables (by conv => lhs; cbv) (by kernel_rfl)⟩
def ir_impl_isLower : Ir Tryz.prog 122 [] [] 1 := ⟨_, _, Tryz.func122, follows_Words, by kernel_rfl, low_of [] Tryz.progTables (by conv => lhs; cbv) (by kernel_rfl)⟩
def ir_impl_isUpper : Ir Tryz.prog 180 [] [] 1 := ⟨_, _, Tryz.func180, follows_Words, by kernel_rfl, low_of [] Tryz.progTables (by conv => lhs; cbv) (by kernel_rfl)⟩
def ir_impl_isDigit : Ir Tryz.prog 182 [] [] 1 := ⟨_, _, Tryz.func182, follows_Words, by kernel_rfl, low_of [] Tryz.progTables (by conv => lhs; cbv) (by kernel_rfl)⟩
def ir_spec_l01Word : Ir Tryz.prog 104 [] [] 2 := ⟨_, _, Tryz.func104, follows_Words, by kernel_rfl, low_of [] Tryz.progTables (by conv => lhs; cbv) (by kernel_rfl)⟩
def ir_spec_l01Class : Ir Tryz.prog 151 [] [] 1 := ⟨_, _, Tryz.func151, follows_Words, by kernel_rfl, low_of [] Tryz.progTables (by conv => lhs; cbv) (by kernel_rfl)⟩
def ir_spec_l01Kept : Ir Tryz.prog 105 [] [] 1 := ⟨_, _, Tryz.func105, follows_Words, by kernel_rfl, low_of [] Tryz.progTables (by conv => lhs; cbv) (by kernel_rfl)⟩
end Go.Proofs.YtjifpdcflankpaaGreat
