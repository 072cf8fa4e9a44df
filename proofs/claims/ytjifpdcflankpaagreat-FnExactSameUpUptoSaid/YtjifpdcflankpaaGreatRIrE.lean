/-
 THE GROUND OF DATA, in one text. Conditions: none.
-/
import Derived.Test.YtjifpdcflankpaaGreatProg
import Derived.Test.YtjifpdcflankpaaGreatRAvDraw

set_option linter.unusedVariables false
set_option maxRecDepth 100000
namespace Go.Proofs.YtjifpdcflankpaaGreat
open Go.Proofs.YtjifpdcflankpaaGreat.Av

theorem follows_EqT : Tryz.prog.follows .mixedOrders = true := by kernel_rfl

def ir_slices_EqualFunc_impl_Type_impl_Type_impl_Type_impl_Type : Ir Tryz.prog 91 [] [] 3 := ⟨_, _, Tryz.func91, follows_EqT, by kernel_rfl, low_of [] Tryz.progTables (by conv => lhs; cbv) (by kernel_rfl)⟩
def ir_slices_EqualFunc_impl_Con_impl_Con_impl_Con_impl_Con : Ir Tryz.prog 93 [] [] 3 := ⟨_, _, Tryz.func93, follows_EqT, by kernel_rfl, low_of [] Tryz.progTables (by conv => lhs; cbv) (by kernel_rfl)⟩
def ir_slices_Equal_impl_TyItem_impl_TyItem : Ir Tryz.prog 95 [] [] 2 := ⟨_, _, Tryz.func95, follows_EqT, by kernel_rfl, low_of [] Tryz.progTables (by conv => lhs; cbv) (by kernel_rfl)⟩
def ir_impl_sameTypes : Ir Tryz.prog 42 [] [] 2 := ⟨_, _, Tryz.func42, follows_EqT, by kernel_rfl, low_of [] Tryz.progTables (by conv => lhs; cbv) (by kernel_rfl)⟩
def ir_impl_sameTypes_1 : Ir Tryz.prog 92 [] [] 2 := ⟨_, _, Tryz.func92, follows_EqT, by kernel_rfl, low_of [] Tryz.progTables (by conv => lhs; cbv) (by kernel_rfl)⟩
def ir_impl_sameTypes_1_1 : Ir Tryz.prog 94 [] [] 2 := ⟨_, _, Tryz.func94, follows_EqT, by kernel_rfl, low_of [] Tryz.progTables (by conv => lhs; cbv) (by kernel_rfl)⟩

def ir_impl_SameUp : Ir Tryz.prog 19 [] [] 2 := ⟨_, _, Tryz.func19, follows_EqT, by kernel_rfl, low_of [] Tryz.progTables (by conv => lhs; cbv) (by kernel_rfl)⟩
def ir_spec_SameUp : Ir Tryz.prog 18 [] [] 2 := ⟨_, _, Tryz.func18, follows_EqT, by kernel_rfl, low_of [] Tryz.progTables (by conv => lhs; cbv) (by kernel_rfl)⟩

def ir_laws_FnExactSameUp : Ir Tryz.prog 6 [(12, 7777), (17, 7777)] [] 2 := ⟨_, _, Tryz.func6, follows_EqT, by kernel_rfl, low_of [] Tryz.progTables (by conv => lhs; cbv) (by kernel_rfl)⟩
end Go.Proofs.YtjifpdcflankpaaGreat
