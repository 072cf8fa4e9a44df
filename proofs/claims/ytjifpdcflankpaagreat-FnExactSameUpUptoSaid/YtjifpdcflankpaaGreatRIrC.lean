/-
 THE GROUND OF DATA, in one text. Conditions: none.
-/
import Derived.Test.YtjifpdcflankpaaGreatProg
import Derived.Test.YtjifpdcflankpaaGreatRAvDraw

set_option linter.unusedVariables false
set_option maxRecDepth 100000
namespace Go.Proofs.YtjifpdcflankpaaGreat
open Go.Proofs.YtjifpdcflankpaaGreat.Av

theorem follows_Core : Tryz.prog.follows .mixedOrders = true := by kernel_rfl

def ir_impl_copyPat_H : Ir Tryz.prog 130 [(8, 7777)] [9999] 1 := ⟨_, _, Tryz.func130, follows_Core, by kernel_rfl, low_of [] Tryz.progTables (by conv => lhs; cbv) (by kernel_rfl)⟩
def ir_impl_given : Ir Tryz.prog 63 [] [] 1 := ⟨_, _, Tryz.func63, follows_Core, by kernel_rfl, low_of [] Tryz.progTables (by conv => lhs; cbv) (by kernel_rfl)⟩
def ir_impl_core_1 : Ir Tryz.prog 68 [] [] 1 := ⟨_, _, Tryz.func68, follows_Core, by kernel_rfl, low_of [] Tryz.progTables (by conv => lhs; cbv) (by kernel_rfl)⟩
def ir_impl_renamePat : Ir Tryz.prog 67 [(8,80), (10, 7777)] [] 2 := ⟨_, _, Tryz.func67, follows_Core, by kernel_rfl, low_of [] Tryz.progTables (by conv => lhs; cbv) (by kernel_rfl)⟩
def ir_slices_Grow_string_string : Ir Tryz.prog 129 [] [9999] 2 := ⟨_, _, Tryz.func129, follows_Core, by kernel_rfl, low_of [] Tryz.progTables (by conv => lhs; cbv) (by kernel_rfl)⟩
def ir_slices_Concat_string_string : Ir Tryz.prog 65 [(24, 7777)] [] 1 := ⟨_, _, Tryz.func65, follows_Core, by kernel_rfl, low_of [] Tryz.progTables (by conv => lhs; cbv) (by kernel_rfl)⟩
def ir_impl_core : Ir Tryz.prog 30 [(28,28)] [] 2 := ⟨_, _, Tryz.func30, follows_Core, by kernel_rfl, low_of [] Tryz.progTables (by conv => lhs; cbv) (by kernel_rfl)⟩

def ir_spec_l15Given : Ir Tryz.prog 52 [] [] 1 := ⟨_, _, Tryz.func52, follows_Core, by kernel_rfl, low_of [] Tryz.progTables (by conv => lhs; cbv) (by kernel_rfl)⟩
def ir_spec_l15Count : Ir Tryz.prog 51 [] [] 2 := ⟨_, _, Tryz.func51, follows_Core, by kernel_rfl, low_of [] Tryz.progTables (by conv => lhs; cbv) (by kernel_rfl)⟩

def ir_spec_l15Pat : Ir Tryz.prog 53 [(22,7774)] [] 2 := ⟨_, _, Tryz.func53, follows_Core, by kernel_rfl, low_of [] Tryz.progTables (by conv => lhs; cbv) (by kernel_rfl)⟩
def ir_spec_l15In : Ir Tryz.prog 54 [] [] 5 := ⟨_, _, Tryz.func54, follows_Core, by kernel_rfl, low_of [] Tryz.progTables (by conv => lhs; cbv) (by kernel_rfl)⟩

def ir_spec_l09Sub : Ir Tryz.prog 24 [] [12,14] 2 := ⟨_, _, Tryz.func24, follows_Core, by kernel_rfl, low_of [] Tryz.progTables (by conv => lhs; cbv) (by kernel_rfl)⟩

def ir_spec_l15Core : Ir Tryz.prog 23 [(85,7775),(87,7775),(88,7775),(90,7775),(95,7775),(96,7775)] [22] 2 := ⟨_, _, Tryz.func23, follows_Core, by kernel_rfl, low_of [] Tryz.progTables (by conv => lhs; cbv) (by kernel_rfl)⟩

def ir_slices_Clone_impl_Con_impl_Con : Ir Tryz.prog 131 [(4,7776)] [9999] 1 := ⟨_, _, Tryz.func131, follows_Core, by kernel_rfl, low_of [] Tryz.progTables (by conv => lhs; cbv) (by kernel_rfl)⟩
def ir_slices_Clone_impl_TyItem_impl_TyItem : Ir Tryz.prog 132 [(4,7776)] [9999] 1 := ⟨_, _, Tryz.func132, follows_Core, by kernel_rfl, low_of [] Tryz.progTables (by conv => lhs; cbv) (by kernel_rfl)⟩
def ir_slices_Clone_impl_PNode_impl_PNode_O : Ir Tryz.prog 167 [(4,7776)] [9999] 1 := ⟨_, _, Tryz.func167, follows_Core, by kernel_rfl, low_of [] Tryz.progTables (by conv => lhs; cbv) (by kernel_rfl)⟩
def ir_slices_Clone_int_int_O : Ir Tryz.prog 168 [(4,7776)] [9999] 1 := ⟨_, _, Tryz.func168, follows_Core, by kernel_rfl, low_of [] Tryz.progTables (by conv => lhs; cbv) (by kernel_rfl)⟩
def ir_impl_copyPat_O : Ir Tryz.prog 130 [(23, 7777), (8, 7777)] [9999] 1 := ⟨_, _, Tryz.func130, follows_Core, by kernel_rfl, low_of [10005] Tryz.progTables (by conv => lhs; cbv) (by kernel_rfl)⟩
def ir_impl_copyPats_O : Ir Tryz.prog 69 [(15, 7777)] [9999] 1 := ⟨_, _, Tryz.func69, follows_Core, by kernel_rfl, low_of [] Tryz.progTables (by conv => lhs; cbv) (by kernel_rfl)⟩
def ir_impl_copyTypes_O : Ir Tryz.prog 71 [(17, 7777), (33, 7777)] [9999] 1 := ⟨_, _, Tryz.func71, follows_Core, by kernel_rfl, low_of [10009] Tryz.progTables (by conv => lhs; cbv) (by kernel_rfl)⟩
def ir_impl_flat_O : Ir Tryz.prog 70 [(18,7775),(22,7775),(26,7775),(30,7775),(34,7775),(38,29),(39,30),(59,30), (35, 7777), (52, 7777)] [9999, 11] 2 := ⟨_, _, Tryz.func70, follows_Core, by kernel_rfl, low_of [] Tryz.progTables (by conv => lhs; cbv) (by kernel_rfl)⟩
def ir_impl_programOf_O : Ir Tryz.prog 32 [(13, 7777), (9, 7777)] [9999] 2 := ⟨_, _, Tryz.func32, follows_Core, by kernel_rfl, low_of [] Tryz.progTables (by conv => lhs; cbv) (by kernel_rfl)⟩

def ir_impl_ToCore_H : Ir Tryz.prog 10 [(23, 7777)] [9999] 1 := ⟨_, _, Tryz.func10, follows_Core, by kernel_rfl, low_of [] Tryz.progTables (by conv => lhs; cbv) (by kernel_rfl)⟩

def ir_spec_ToCore : Ir Tryz.prog 8 [] [] 1 := ⟨_, _, Tryz.func8, follows_Core, by kernel_rfl, low_of [] Tryz.progTables (by conv => lhs; cbv) (by kernel_rfl)⟩

def ir_spec_l01Digits : Ir Tryz.prog 186 [] [] 1 := ⟨_, _, Tryz.func186, follows_Core, by kernel_rfl, low_of [] Tryz.progTables (by conv => lhs; cbv) (by kernel_rfl)⟩
def ir_spec_NumText : Ir Tryz.prog 171 [] [] 1 := ⟨_, _, Tryz.func171, follows_Core, by kernel_rfl, low_of [] Tryz.progTables (by conv => lhs; cbv) (by kernel_rfl)⟩
def ir_slices_EqualFunc_impl_Node_impl_Node_impl_Node_impl_Node : Ir Tryz.prog 96 [] [] 3 := ⟨_, _, Tryz.func96, follows_Core, by kernel_rfl, low_of [] Tryz.progTables (by conv => lhs; cbv) (by kernel_rfl)⟩
def ir_slices_EqualFunc_impl_Pat_impl_Pat_impl_Pat_impl_Pat : Ir Tryz.prog 99 [] [] 3 := ⟨_, _, Tryz.func99, follows_Core, by kernel_rfl, low_of [] Tryz.progTables (by conv => lhs; cbv) (by kernel_rfl)⟩
def ir_slices_EqualFunc_impl_PNode_impl_PNode_impl_PNode_impl_PNode : Ir Tryz.prog 147 [] [] 3 := ⟨_, _, Tryz.func147, follows_Core, by kernel_rfl, low_of [] Tryz.progTables (by conv => lhs; cbv) (by kernel_rfl)⟩
def ir_slices_Equal_int_int : Ir Tryz.prog 98 [] [] 2 := ⟨_, _, Tryz.func98, follows_Core, by kernel_rfl, low_of [] Tryz.progTables (by conv => lhs; cbv) (by kernel_rfl)⟩
def ir_impl_sameNodes : Ir Tryz.prog 43 [] [] 2 := ⟨_, _, Tryz.func43, follows_Core, by kernel_rfl, low_of [] Tryz.progTables (by conv => lhs; cbv) (by kernel_rfl)⟩
def ir_impl_sameNodes_1 : Ir Tryz.prog 97 [] [] 2 := ⟨_, _, Tryz.func97, follows_Core, by kernel_rfl, low_of [] Tryz.progTables (by conv => lhs; cbv) (by kernel_rfl)⟩
def ir_impl_samePat : Ir Tryz.prog 100 [] [] 2 := ⟨_, _, Tryz.func100, follows_Core, by kernel_rfl, low_of [] Tryz.progTables (by conv => lhs; cbv) (by kernel_rfl)⟩
def ir_impl_samePat_1 : Ir Tryz.prog 148 [] [] 2 := ⟨_, _, Tryz.func148, follows_Core, by kernel_rfl, low_of [] Tryz.progTables (by conv => lhs; cbv) (by kernel_rfl)⟩

def ir_spec_l15Types : Ir Tryz.prog 25 [(28,7774)] [12] 1 := ⟨_, _, Tryz.func25, follows_Core, by kernel_rfl, low_of [] Tryz.progTables (by conv => lhs; cbv) (by kernel_rfl)⟩
def ir_spec_l03Lay : Ir Tryz.prog 26 [(13,90),(28,28), (36, 7777)] [9999, 11] 2 := ⟨_, _, Tryz.func26, follows_Core, by kernel_rfl, low_of [] Tryz.progTables (by conv => lhs; cbv) (by kernel_rfl)⟩

def ir_spec_l15SamePat : Ir Tryz.prog 89 [] [] 2 := ⟨_, _, Tryz.func89, follows_Core, by kernel_rfl, low_of [] Tryz.progTables (by conv => lhs; cbv) (by kernel_rfl)⟩
def ir_spec_l15Same : Ir Tryz.prog 41 [] [] 2 := ⟨_, _, Tryz.func41, follows_Core, by kernel_rfl, low_of [] Tryz.progTables (by conv => lhs; cbv) (by kernel_rfl)⟩
def ir_spec_l04Var : Ir Tryz.prog 173 [] [] 1 := ⟨_, _, Tryz.func173, follows_Core, by kernel_rfl, low_of [] Tryz.progTables (by conv => lhs; cbv) (by kernel_rfl)⟩
def ir_spec_l04Ty : Ir Tryz.prog 145 [] [] 2 := ⟨_, _, Tryz.func145, follows_Core, by kernel_rfl, low_of [] Tryz.progTables (by conv => lhs; cbv) (by kernel_rfl)⟩
def ir_spec_l04Expr : Ir Tryz.prog 146 [] [] 2 := ⟨_, _, Tryz.func146, follows_Core, by kernel_rfl, low_of [10022, 10029, 10053] Tryz.progTables (by conv => lhs; cbv) (by kernel_rfl)⟩
def ir_spec_PrintProgram : Ir Tryz.prog 90 [] [] 1 := ⟨_, _, Tryz.func90, follows_Core, by kernel_rfl, low_of [] Tryz.progTables (by conv => lhs; cbv) (by kernel_rfl)⟩
end Go.Proofs.YtjifpdcflankpaaGreat
