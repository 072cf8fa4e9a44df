/-
  THE ABSTRACT TEXTS OF FUNCTIONS (Prog), printed by irgen.py, and that they are the functions' own. Conditions: none.
-/
import Derived.Test.YtjifpdcflankpaaGreatProg
import Derived.Test.YtjifpdcflankpaaGreatAvDraw
set_option linter.unusedVariables false
set_option maxRecDepth 100000
namespace Go.Proofs.YtjifpdcflankpaaGreat
open Go.Proofs.YtjifpdcflankpaaGreat.Av

theorem follows_Prog : Tryz.prog.follows .mixedOrders = true := by kernel_rfl

def ir_impl_arity : Ir Tryz.prog 159 [] [] 1 := ⟨_, _, Tryz.func159, follows_Prog, by kernel_rfl, low_of [] Tryz.progTables (by conv => lhs; cbv) (by kernel_rfl)⟩
def ir_impl_nodeOk : Ir Tryz.prog 117 [] [] 3 := ⟨_, _, Tryz.func117, follows_Prog, by kernel_rfl, low_of [] Tryz.progTables (by conv => lhs; cbv) (by kernel_rfl)⟩
def ir_impl_typeOk : Ir Tryz.prog 120 [] [] 1 := ⟨_, _, Tryz.func120, follows_Prog, by kernel_rfl, low_of [] Tryz.progTables (by conv => lhs; cbv) (by kernel_rfl)⟩
def ir_impl_shapeOk : Ir Tryz.prog 57 [] [] 2 := ⟨_, _, Tryz.func57, follows_Prog, by kernel_rfl, low_of [] Tryz.progTables (by conv => lhs; cbv) (by kernel_rfl)⟩
def ir_impl_shapeOk_1 : Ir Tryz.prog 116 [] [] 2 := ⟨_, _, Tryz.func116, follows_Prog, by kernel_rfl, low_of [] Tryz.progTables (by conv => lhs; cbv) (by kernel_rfl)⟩
def ir_impl_shapeOk_2 : Ir Tryz.prog 119 [] [] 1 := ⟨_, _, Tryz.func119, follows_Prog, by kernel_rfl, low_of [] Tryz.progTables (by conv => lhs; cbv) (by kernel_rfl)⟩
def ir_impl_ProgramOk : Ir Tryz.prog 29 [] [] 1 := ⟨_, _, Tryz.func29, follows_Prog, by kernel_rfl, low_of [] Tryz.progTables (by conv => lhs; cbv) (by kernel_rfl)⟩
def ir_impl_ProgramOk_1 : Ir Tryz.prog 58 [] [] 1 := ⟨_, _, Tryz.func58, follows_Prog, by kernel_rfl, low_of [] Tryz.progTables (by conv => lhs; cbv) (by kernel_rfl)⟩
def ir_impl_ProgramOk_2 : Ir Tryz.prog 61 [] [] 1 := ⟨_, _, Tryz.func61, follows_Prog, by kernel_rfl, low_of [] Tryz.progTables (by conv => lhs; cbv) (by kernel_rfl)⟩
def ir_spec_l04Kids : Ir Tryz.prog 111 [] [] 1 := ⟨_, _, Tryz.func111, follows_Prog, by kernel_rfl, low_of [] Tryz.progTables (by conv => lhs; cbv) (by kernel_rfl)⟩
def ir_spec_l04Node : Ir Tryz.prog 48 [] [] 2 := ⟨_, _, Tryz.func48, follows_Prog, by kernel_rfl, low_of [] Tryz.progTables (by conv => lhs; cbv) (by kernel_rfl)⟩
def ir_spec_l04NEnd : Ir Tryz.prog 49 [] [] 2 := ⟨_, _, Tryz.func49, follows_Prog, by kernel_rfl, low_of [] Tryz.progTables (by conv => lhs; cbv) (by kernel_rfl)⟩
def ir_spec_l04Con : Ir Tryz.prog 47 [] [] 2 := ⟨_, _, Tryz.func47, follows_Prog, by kernel_rfl, low_of [] Tryz.progTables (by conv => lhs; cbv) (by kernel_rfl)⟩
def ir_spec_ProgramOk : Ir Tryz.prog 22 [] [] 1 := ⟨_, _, Tryz.func22, follows_Prog, by kernel_rfl, low_of [] Tryz.progTables (by conv => lhs; cbv) (by kernel_rfl)⟩
end Go.Proofs.YtjifpdcflankpaaGreat
