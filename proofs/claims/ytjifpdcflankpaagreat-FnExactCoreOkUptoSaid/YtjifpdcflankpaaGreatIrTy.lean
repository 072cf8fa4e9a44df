/-
  THE ABSTRACT TEXTS OF FUNCTIONS (Ty), printed by irgen.py, and that they are the functions' own. Conditions: none.
-/
import Derived.Test.YtjifpdcflankpaaGreatProg
import Derived.Test.YtjifpdcflankpaaGreatAvDraw
set_option linter.unusedVariables false
set_option maxRecDepth 100000
namespace Go.Proofs.YtjifpdcflankpaaGreat
open Go.Proofs.YtjifpdcflankpaaGreat.Av

theorem follows_Ty : Tryz.prog.follows .mixedOrders = true := by kernel_rfl

def ir_impl_tyOk : Ir Tryz.prog 181 [] [] 1 := ⟨_, _, Tryz.func181, follows_Ty, by kernel_rfl, low_of [] Tryz.progTables (by conv => lhs; cbv) (by kernel_rfl)⟩
def ir_impl_tyName : Ir Tryz.prog 192 [] [] 1 := ⟨_, _, Tryz.func192, follows_Ty, by kernel_rfl, low_of [] Tryz.progTables (by conv => lhs; cbv) (by kernel_rfl)⟩
def ir_impl_TyOk : Ir Tryz.prog 164 [] [] 1 := ⟨_, _, Tryz.func164, follows_Ty, by kernel_rfl, low_of [] Tryz.progTables (by conv => lhs; cbv) (by kernel_rfl)⟩
def ir_spec_l04Item : Ir Tryz.prog 152 [] [] 1 := ⟨_, _, Tryz.func152, follows_Ty, by kernel_rfl, low_of [] Tryz.progTables (by conv => lhs; cbv) (by kernel_rfl)⟩
def ir_spec_l04End : Ir Tryz.prog 153 [] [] 2 := ⟨_, _, Tryz.func153, follows_Ty, by kernel_rfl, low_of [] Tryz.progTables (by conv => lhs; cbv) (by kernel_rfl)⟩
def ir_spec_TyOk : Ir Tryz.prog 107 [] [] 1 := ⟨_, _, Tryz.func107, follows_Ty, by kernel_rfl, low_of [] Tryz.progTables (by conv => lhs; cbv) (by kernel_rfl)⟩
end Go.Proofs.YtjifpdcflankpaaGreat
