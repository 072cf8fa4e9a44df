/-
  THE ABSTRACT TEXTS OF FUNCTIONS (Pat), printed by irgen.py, and that they are the functions' own. Conditions: none.
-/
import Derived.Test.YtjifpdcflankpaaGreatProg
import Derived.Test.YtjifpdcflankpaaGreatAvDraw
set_option linter.unusedVariables false
set_option maxRecDepth 100000
namespace Go.Proofs.YtjifpdcflankpaaGreat
open Go.Proofs.YtjifpdcflankpaaGreat.Av

theorem follows_Pat : Tryz.prog.follows .mixedOrders = true := by kernel_rfl

def ir_impl_PatOk : Ir Tryz.prog 62 [] [] 1 := ⟨_, _, Tryz.func62, follows_Pat, by kernel_rfl, low_of [] Tryz.progTables (by conv => lhs; cbv) (by kernel_rfl)⟩
def ir_impl_PatOk_1 : Ir Tryz.prog 126 [] [] 2 := ⟨_, _, Tryz.func126, follows_Pat, by kernel_rfl, low_of [] Tryz.progTables (by conv => lhs; cbv) (by kernel_rfl)⟩
def ir_impl_patNodeOk : Ir Tryz.prog 127 [] [] 2 := ⟨_, _, Tryz.func127, follows_Pat, by kernel_rfl, low_of [] Tryz.progTables (by conv => lhs; cbv) (by kernel_rfl)⟩
def ir_spec_PatOk : Ir Tryz.prog 110 [] [] 1 := ⟨_, _, Tryz.func110, follows_Pat, by kernel_rfl, low_of [] Tryz.progTables (by conv => lhs; cbv) (by kernel_rfl)⟩
def ir_spec_l04PNode : Ir Tryz.prog 154 [] [] 2 := ⟨_, _, Tryz.func154, follows_Pat, by kernel_rfl, low_of [] Tryz.progTables (by conv => lhs; cbv) (by kernel_rfl)⟩
def ir_spec_l04PEnd : Ir Tryz.prog 155 [] [] 2 := ⟨_, _, Tryz.func155, follows_Pat, by kernel_rfl, low_of [] Tryz.progTables (by conv => lhs; cbv) (by kernel_rfl)⟩
end Go.Proofs.YtjifpdcflankpaaGreat
