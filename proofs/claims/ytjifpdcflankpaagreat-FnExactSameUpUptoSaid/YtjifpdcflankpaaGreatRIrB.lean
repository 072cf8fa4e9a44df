/-
 THE GROUND OF DATA, in one text. Conditions: none.
-/
import Derived.Test.YtjifpdcflankpaaGreatProg
import Derived.Test.YtjifpdcflankpaaGreatRAvDraw

set_option linter.unusedVariables false
set_option maxRecDepth 100000
namespace Go.Proofs.YtjifpdcflankpaaGreat
open Go.Proofs.YtjifpdcflankpaaGreat.Av

theorem follows_WithinA : Tryz.prog.follows .mixedOrders = true := by kernel_rfl

def ir_impl_within : Ir Tryz.prog 86 [] [] 3 := ⟨_, _, Tryz.func86, follows_WithinA, by kernel_rfl, low_of [] Tryz.progTables (by conv => lhs; cbv) (by kernel_rfl)⟩
def ir_spec_Wrap : Ir Tryz.prog 185 [] [] 1 := ⟨_, _, Tryz.func185, follows_WithinA, by kernel_rfl, low_of [] Tryz.progTables (by conv => lhs; cbv) (by kernel_rfl)⟩

def ir_impl_conShape : Ir Tryz.prog 161 [] [] 3 := ⟨_, _, Tryz.func161, follows_WithinA, by kernel_rfl, low_of [] Tryz.progTables (by conv => lhs; cbv) (by kernel_rfl)⟩
def ir_impl_ConOk : Ir Tryz.prog 163 [] [] 1 := ⟨_, _, Tryz.func163, follows_WithinA, by kernel_rfl, low_of [] Tryz.progTables (by conv => lhs; cbv) (by kernel_rfl)⟩
def ir_impl_NameOk : Ir Tryz.prog 59 [] [] 1 := ⟨_, _, Tryz.func59, follows_WithinA, by kernel_rfl, low_of [] Tryz.progTables (by conv => lhs; cbv) (by kernel_rfl)⟩
def ir_impl_keywords : Ir Tryz.prog 124 [] [] 0 := ⟨_, _, Tryz.func124, follows_WithinA, by kernel_rfl, low_of [] Tryz.progTables (by conv => lhs; cbv) (by kernel_rfl)⟩
def ir_slices_Contains_string_string : Ir Tryz.prog 123 [] [] 2 := ⟨_, _, Tryz.func123, follows_WithinA, by kernel_rfl, low_of [] Tryz.progTables (by conv => lhs; cbv) (by kernel_rfl)⟩
def ir_slices_Index_string_string : Ir Tryz.prog 166 [] [] 2 := ⟨_, _, Tryz.func166, follows_WithinA, by kernel_rfl, low_of [] Tryz.progTables (by conv => lhs; cbv) (by kernel_rfl)⟩
def ir_spec_l04ConOk : Ir Tryz.prog 109 [] [] 3 := ⟨_, _, Tryz.func109, follows_WithinA, by kernel_rfl, low_of [] Tryz.progTables (by conv => lhs; cbv) (by kernel_rfl)⟩
def ir_spec_ConOk : Ir Tryz.prog 106 [] [] 1 := ⟨_, _, Tryz.func106, follows_WithinA, by kernel_rfl, low_of [] Tryz.progTables (by conv => lhs; cbv) (by kernel_rfl)⟩
def ir_spec_NameOk : Ir Tryz.prog 46 [] [] 1 := ⟨_, _, Tryz.func46, follows_WithinA, by kernel_rfl, low_of [] Tryz.progTables (by conv => lhs; cbv) (by kernel_rfl)⟩
def ir_impl_wordOk : Ir Tryz.prog 121 [] [] 1 := ⟨_, _, Tryz.func121, follows_WithinA, by kernel_rfl, low_of [] Tryz.progTables (by conv => lhs; cbv) (by kernel_rfl)⟩
def ir_impl_isWord : Ir Tryz.prog 165 [] [] 1 := ⟨_, _, Tryz.func165, follows_WithinA, by kernel_rfl, low_of [] Tryz.progTables (by conv => lhs; cbv) (by kernel_rfl)⟩
def ir_impl_isLower : Ir Tryz.prog 122 [] [] 1 := ⟨_, _, Tryz.func122, follows_WithinA, by kernel_rfl, low_of [] Tryz.progTables (by conv => lhs; cbv) (by kernel_rfl)⟩
def ir_impl_isUpper : Ir Tryz.prog 180 [] [] 1 := ⟨_, _, Tryz.func180, follows_WithinA, by kernel_rfl, low_of [] Tryz.progTables (by conv => lhs; cbv) (by kernel_rfl)⟩
def ir_impl_isDigit : Ir Tryz.prog 182 [] [] 1 := ⟨_, _, Tryz.func182, follows_WithinA, by kernel_rfl, low_of [] Tryz.progTables (by conv => lhs; cbv) (by kernel_rfl)⟩
def ir_spec_l01Word : Ir Tryz.prog 104 [] [] 2 := ⟨_, _, Tryz.func104, follows_WithinA, by kernel_rfl, low_of [] Tryz.progTables (by conv => lhs; cbv) (by kernel_rfl)⟩
def ir_spec_l01Class : Ir Tryz.prog 151 [] [] 1 := ⟨_, _, Tryz.func151, follows_WithinA, by kernel_rfl, low_of [] Tryz.progTables (by conv => lhs; cbv) (by kernel_rfl)⟩
def ir_spec_l01Kept : Ir Tryz.prog 105 [] [] 1 := ⟨_, _, Tryz.func105, follows_WithinA, by kernel_rfl, low_of [] Tryz.progTables (by conv => lhs; cbv) (by kernel_rfl)⟩

def ir_impl_primOps : Ir Tryz.prog 160 [] [] 0 := ⟨_, _, Tryz.func160, follows_WithinA, by kernel_rfl, low_of [] Tryz.progTables (by conv => lhs; cbv) (by kernel_rfl)⟩
def ir_spec_l04Prim : Ir Tryz.prog 108 [] [] 1 := ⟨_, _, Tryz.func108, follows_WithinA, by kernel_rfl, low_of [] Tryz.progTables (by conv => lhs; cbv) (by kernel_rfl)⟩

def ir_impl_inOrder : Ir Tryz.prog 115 [(9,7777)] [] 2 := ⟨_, _, Tryz.func115, follows_WithinA, by kernel_rfl, low_of [] Tryz.progTables (by conv => lhs; cbv) (by kernel_rfl)⟩
def ir_impl_inOrder_1 : Ir Tryz.prog 158 [(29,7777)] [9999] 5 := ⟨_, _, Tryz.func158, follows_WithinA, by kernel_rfl, low_of [] Tryz.progTables (by conv => lhs; cbv) (by kernel_rfl)⟩

def ir_impl_PatOk : Ir Tryz.prog 62 [] [] 1 := ⟨_, _, Tryz.func62, follows_WithinA, by kernel_rfl, low_of [] Tryz.progTables (by conv => lhs; cbv) (by kernel_rfl)⟩
def ir_impl_PatOk_1 : Ir Tryz.prog 126 [] [] 2 := ⟨_, _, Tryz.func126, follows_WithinA, by kernel_rfl, low_of [] Tryz.progTables (by conv => lhs; cbv) (by kernel_rfl)⟩
def ir_impl_patNodeOk : Ir Tryz.prog 127 [] [] 2 := ⟨_, _, Tryz.func127, follows_WithinA, by kernel_rfl, low_of [] Tryz.progTables (by conv => lhs; cbv) (by kernel_rfl)⟩
def ir_spec_PatOk : Ir Tryz.prog 110 [] [] 1 := ⟨_, _, Tryz.func110, follows_WithinA, by kernel_rfl, low_of [] Tryz.progTables (by conv => lhs; cbv) (by kernel_rfl)⟩
def ir_spec_l04PNode : Ir Tryz.prog 154 [] [] 2 := ⟨_, _, Tryz.func154, follows_WithinA, by kernel_rfl, low_of [] Tryz.progTables (by conv => lhs; cbv) (by kernel_rfl)⟩
def ir_spec_l04PEnd : Ir Tryz.prog 155 [] [] 2 := ⟨_, _, Tryz.func155, follows_WithinA, by kernel_rfl, low_of [] Tryz.progTables (by conv => lhs; cbv) (by kernel_rfl)⟩

def ir_impl_tyOk : Ir Tryz.prog 181 [] [] 1 := ⟨_, _, Tryz.func181, follows_WithinA, by kernel_rfl, low_of [] Tryz.progTables (by conv => lhs; cbv) (by kernel_rfl)⟩
def ir_impl_tyName : Ir Tryz.prog 192 [] [] 1 := ⟨_, _, Tryz.func192, follows_WithinA, by kernel_rfl, low_of [] Tryz.progTables (by conv => lhs; cbv) (by kernel_rfl)⟩
def ir_impl_TyOk : Ir Tryz.prog 164 [] [] 1 := ⟨_, _, Tryz.func164, follows_WithinA, by kernel_rfl, low_of [] Tryz.progTables (by conv => lhs; cbv) (by kernel_rfl)⟩
def ir_spec_l04Item : Ir Tryz.prog 152 [] [] 1 := ⟨_, _, Tryz.func152, follows_WithinA, by kernel_rfl, low_of [] Tryz.progTables (by conv => lhs; cbv) (by kernel_rfl)⟩
def ir_spec_l04End : Ir Tryz.prog 153 [] [] 2 := ⟨_, _, Tryz.func153, follows_WithinA, by kernel_rfl, low_of [] Tryz.progTables (by conv => lhs; cbv) (by kernel_rfl)⟩
def ir_spec_TyOk : Ir Tryz.prog 107 [] [] 1 := ⟨_, _, Tryz.func107, follows_WithinA, by kernel_rfl, low_of [] Tryz.progTables (by conv => lhs; cbv) (by kernel_rfl)⟩

def ir_impl_arity : Ir Tryz.prog 159 [] [] 1 := ⟨_, _, Tryz.func159, follows_WithinA, by kernel_rfl, low_of [] Tryz.progTables (by conv => lhs; cbv) (by kernel_rfl)⟩
def ir_impl_nodeOk : Ir Tryz.prog 117 [] [] 3 := ⟨_, _, Tryz.func117, follows_WithinA, by kernel_rfl, low_of [] Tryz.progTables (by conv => lhs; cbv) (by kernel_rfl)⟩
def ir_impl_typeOk : Ir Tryz.prog 120 [] [] 1 := ⟨_, _, Tryz.func120, follows_WithinA, by kernel_rfl, low_of [] Tryz.progTables (by conv => lhs; cbv) (by kernel_rfl)⟩
def ir_impl_shapeOk : Ir Tryz.prog 57 [] [] 2 := ⟨_, _, Tryz.func57, follows_WithinA, by kernel_rfl, low_of [] Tryz.progTables (by conv => lhs; cbv) (by kernel_rfl)⟩
def ir_impl_shapeOk_1 : Ir Tryz.prog 116 [] [] 2 := ⟨_, _, Tryz.func116, follows_WithinA, by kernel_rfl, low_of [] Tryz.progTables (by conv => lhs; cbv) (by kernel_rfl)⟩
def ir_impl_shapeOk_2 : Ir Tryz.prog 119 [] [] 1 := ⟨_, _, Tryz.func119, follows_WithinA, by kernel_rfl, low_of [] Tryz.progTables (by conv => lhs; cbv) (by kernel_rfl)⟩
def ir_impl_ProgramOk : Ir Tryz.prog 29 [] [] 1 := ⟨_, _, Tryz.func29, follows_WithinA, by kernel_rfl, low_of [] Tryz.progTables (by conv => lhs; cbv) (by kernel_rfl)⟩
def ir_impl_ProgramOk_1 : Ir Tryz.prog 58 [] [] 1 := ⟨_, _, Tryz.func58, follows_WithinA, by kernel_rfl, low_of [] Tryz.progTables (by conv => lhs; cbv) (by kernel_rfl)⟩
def ir_impl_ProgramOk_2 : Ir Tryz.prog 61 [] [] 1 := ⟨_, _, Tryz.func61, follows_WithinA, by kernel_rfl, low_of [] Tryz.progTables (by conv => lhs; cbv) (by kernel_rfl)⟩
def ir_spec_l04Kids : Ir Tryz.prog 111 [] [] 1 := ⟨_, _, Tryz.func111, follows_WithinA, by kernel_rfl, low_of [] Tryz.progTables (by conv => lhs; cbv) (by kernel_rfl)⟩
def ir_spec_l04Node : Ir Tryz.prog 48 [] [] 2 := ⟨_, _, Tryz.func48, follows_WithinA, by kernel_rfl, low_of [] Tryz.progTables (by conv => lhs; cbv) (by kernel_rfl)⟩
def ir_spec_l04NEnd : Ir Tryz.prog 49 [] [] 2 := ⟨_, _, Tryz.func49, follows_WithinA, by kernel_rfl, low_of [] Tryz.progTables (by conv => lhs; cbv) (by kernel_rfl)⟩
def ir_spec_l04Con : Ir Tryz.prog 47 [] [] 2 := ⟨_, _, Tryz.func47, follows_WithinA, by kernel_rfl, low_of [] Tryz.progTables (by conv => lhs; cbv) (by kernel_rfl)⟩
def ir_spec_ProgramOk : Ir Tryz.prog 22 [] [] 1 := ⟨_, _, Tryz.func22, follows_WithinA, by kernel_rfl, low_of [] Tryz.progTables (by conv => lhs; cbv) (by kernel_rfl)⟩

def ir_slices_IndexFunc_impl_Pat_impl_Pat : Ir Tryz.prog 125 [] [] 2 := ⟨_, _, Tryz.func125, follows_WithinA, by kernel_rfl, low_of [] Tryz.progTables (by conv => lhs; cbv) (by kernel_rfl)⟩
def ir_slices_ContainsFunc_impl_Pat_impl_Pat : Ir Tryz.prog 60 [] [] 2 := ⟨_, _, Tryz.func60, follows_WithinA, by kernel_rfl, low_of [] Tryz.progTables (by conv => lhs; cbv) (by kernel_rfl)⟩

def ir_slices_IndexFunc_impl_Type_impl_Type : Ir Tryz.prog 162 [] [] 2 := ⟨_, _, Tryz.func162, follows_WithinA, by kernel_rfl, low_of [] Tryz.progTables (by conv => lhs; cbv) (by kernel_rfl)⟩
def ir_slices_ContainsFunc_impl_Type_impl_Type : Ir Tryz.prog 118 [] [] 2 := ⟨_, _, Tryz.func118, follows_WithinA, by kernel_rfl, low_of [] Tryz.progTables (by conv => lhs; cbv) (by kernel_rfl)⟩

def ir_impl_patNames : Ir Tryz.prog 66 [] [] 1 := ⟨_, _, Tryz.func66, follows_WithinA, by kernel_rfl, low_of [] Tryz.progTables (by conv => lhs; cbv) (by kernel_rfl)⟩
def ir_spec_l15Binds : Ir Tryz.prog 50 [] [] 1 := ⟨_, _, Tryz.func50, follows_WithinA, by kernel_rfl, low_of [] Tryz.progTables (by conv => lhs; cbv) (by kernel_rfl)⟩
def ir_slices_Contains_int_int : Ir Tryz.prog 64 [] [] 2 := ⟨_, _, Tryz.func64, follows_WithinA, by kernel_rfl, low_of [] Tryz.progTables (by conv => lhs; cbv) (by kernel_rfl)⟩
def ir_slices_Index_int_int : Ir Tryz.prog 128 [] [] 2 := ⟨_, _, Tryz.func128, follows_WithinA, by kernel_rfl, low_of [] Tryz.progTables (by conv => lhs; cbv) (by kernel_rfl)⟩

def ir_slices_Clone_impl_PNode_impl_PNode : Ir Tryz.prog 167 [(5,8)] [9999] 1 := ⟨_, _, Tryz.func167, follows_WithinA, by kernel_rfl, low_of [] Tryz.progTables (by conv => lhs; cbv) (by kernel_rfl)⟩
def ir_slices_Clone_int_int : Ir Tryz.prog 168 [(4,7776)] [] 1 := ⟨_, _, Tryz.func168, follows_WithinA, by kernel_rfl, low_of [] Tryz.progTables (by conv => lhs; cbv) (by kernel_rfl)⟩
def ir_impl_copyPat : Ir Tryz.prog 130 [(8, 7777)] [] 1 := ⟨_, _, Tryz.func130, follows_WithinA, by kernel_rfl, low_of [] Tryz.progTables (by conv => lhs; cbv) (by kernel_rfl)⟩
def ir_impl_copyPats : Ir Tryz.prog 69 [] [] 1 := ⟨_, _, Tryz.func69, follows_WithinA, by kernel_rfl, low_of [] Tryz.progTables (by conv => lhs; cbv) (by kernel_rfl)⟩
def ir_impl_grow : Ir Tryz.prog 31 [(25,25)] [] 2 := ⟨_, _, Tryz.func31, follows_WithinA, by kernel_rfl, low_of [] Tryz.progTables (by conv => lhs; cbv) (by kernel_rfl)⟩
end Go.Proofs.YtjifpdcflankpaaGreat
