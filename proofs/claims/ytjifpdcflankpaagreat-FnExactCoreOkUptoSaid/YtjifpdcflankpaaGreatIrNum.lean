/-
  THE ABSTRACT TEXTS OF FUNCTIONS (Num), printed by irgen.py, and that they are the functions' own. Conditions: none.
-/
import Derived.Test.YtjifpdcflankpaaGreatProg
import Derived.Test.YtjifpdcflankpaaGreatAvDraw
set_option linter.unusedVariables false
set_option maxRecDepth 100000
namespace Go.Proofs.YtjifpdcflankpaaGreat
open Go.Proofs.YtjifpdcflankpaaGreat.Av

theorem follows_Num : Tryz.prog.follows .mixedOrders = true := by kernel_rfl

def ir_spec_l01Digits : Ir Tryz.prog 186 [] [] 1 := ⟨_, _, Tryz.func186, follows_Num, by kernel_rfl, low_of [] Tryz.progTables (by conv => lhs; cbv) (by kernel_rfl)⟩
def ir_spec_NumText : Ir Tryz.prog 171 [] [] 1 := ⟨_, _, Tryz.func171, follows_Num, by kernel_rfl, low_of [] Tryz.progTables (by conv => lhs; cbv) (by kernel_rfl)⟩
def ir_slices_Reverse_byte_byte : Ir Tryz.prog 172 [] [9999] 1 := ⟨_, _, Tryz.func172, follows_Num, by kernel_rfl, low_of [] Tryz.progTables (by conv => lhs; cbv) (by kernel_rfl)⟩
def ir_impl_digits : Ir Tryz.prog 143 [(22, 7777)] [] 1 := ⟨_, _, Tryz.func143, follows_Num, by kernel_rfl, low_of [] Tryz.progTables (by conv => lhs; cbv) (by kernel_rfl)⟩
end Go.Proofs.YtjifpdcflankpaaGreat
