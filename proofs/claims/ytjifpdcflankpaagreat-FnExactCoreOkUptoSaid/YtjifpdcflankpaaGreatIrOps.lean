/-
  THE ABSTRACT TEXTS OF FUNCTIONS (Ops), printed by irgen.py, and that they are the functions' own. Conditions: none.
-/
import Derived.Test.YtjifpdcflankpaaGreatProg
import Derived.Test.YtjifpdcflankpaaGreatAvDraw
set_option linter.unusedVariables false
set_option maxRecDepth 100000
namespace Go.Proofs.YtjifpdcflankpaaGreat
open Go.Proofs.YtjifpdcflankpaaGreat.Av

theorem follows_Ops : Tryz.prog.follows .mixedOrders = true := by kernel_rfl

def ir_impl_primOps : Ir Tryz.prog 160 [] [] 0 := ⟨_, _, Tryz.func160, follows_Ops, by kernel_rfl, low_of [] Tryz.progTables (by conv => lhs; cbv) (by kernel_rfl)⟩
def ir_spec_l04Prim : Ir Tryz.prog 108 [] [] 1 := ⟨_, _, Tryz.func108, follows_Ops, by kernel_rfl, low_of [] Tryz.progTables (by conv => lhs; cbv) (by kernel_rfl)⟩
end Go.Proofs.YtjifpdcflankpaaGreat
