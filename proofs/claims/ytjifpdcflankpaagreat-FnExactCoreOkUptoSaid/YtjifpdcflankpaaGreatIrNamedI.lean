/-
  THE ABSTRACT TEXTS OF FUNCTIONS (NamedI), printed by irgen.py, and that they are the functions' own. Conditions: none.
-/
import Derived.Test.YtjifpdcflankpaaGreatProg
import Derived.Test.YtjifpdcflankpaaGreatAvDraw
set_option linter.unusedVariables false
set_option maxRecDepth 100000
namespace Go.Proofs.YtjifpdcflankpaaGreat
open Go.Proofs.YtjifpdcflankpaaGreat.Av

theorem follows_NamedI : Tryz.prog.follows .mixedOrders = true := by kernel_rfl

def ir_impl_depthName : Ir Tryz.prog 87 [] [] 1 := ⟨_, _, Tryz.func87, follows_NamedI, by kernel_rfl, low_of [] Tryz.progTables (by conv => lhs; cbv) (by kernel_rfl)⟩
def ir_impl_named_1 : Ir Tryz.prog 144 [] [] 2 := ⟨_, _, Tryz.func144, follows_NamedI, by kernel_rfl, low_of [] Tryz.progTables (by conv => lhs; cbv) (by kernel_rfl)⟩
def ir_impl_named : Ir Tryz.prog 88 [(27,28)] [4,8] 2 := ⟨_, _, Tryz.func88, follows_NamedI, by kernel_rfl, low_of [] Tryz.progTables (by conv => lhs; cbv) (by kernel_rfl)⟩
end Go.Proofs.YtjifpdcflankpaaGreat
