/-
  THE ABSTRACT TEXTS OF FUNCTIONS (FromI), printed by irgen.py, and that they are the functions' own. Conditions: none.
-/
import Derived.Test.YtjifpdcflankpaaGreatProg
import Derived.Test.YtjifpdcflankpaaGreatAvDraw
set_option linter.unusedVariables false
set_option maxRecDepth 100000
namespace Go.Proofs.YtjifpdcflankpaaGreat
open Go.Proofs.YtjifpdcflankpaaGreat.Av

theorem follows_FromI : Tryz.prog.follows .mixedOrders = true := by kernel_rfl

def ir_impl_fromCore_1 : Ir Tryz.prog 83 [] [] 1 := ⟨_, _, Tryz.func83, follows_FromI, by kernel_rfl, low_of [] Tryz.progTables (by conv => lhs; cbv) (by kernel_rfl)⟩
def ir_impl_fromCore_2 : Ir Tryz.prog 85 [] [] 1 := ⟨_, _, Tryz.func85, follows_FromI, by kernel_rfl, low_of [] Tryz.progTables (by conv => lhs; cbv) (by kernel_rfl)⟩
def ir_impl_fromCore : Ir Tryz.prog 40 [] [] 1 := ⟨_, _, Tryz.func40, follows_FromI, by kernel_rfl, low_of [] Tryz.progTables (by conv => lhs; cbv) (by kernel_rfl)⟩
def ir_impl_CoreOk : Ir Tryz.prog 15 [] [] 1 := ⟨_, _, Tryz.func15, follows_FromI, by kernel_rfl, low_of [] Tryz.progTables (by conv => lhs; cbv) (by kernel_rfl)⟩
end Go.Proofs.YtjifpdcflankpaaGreat
