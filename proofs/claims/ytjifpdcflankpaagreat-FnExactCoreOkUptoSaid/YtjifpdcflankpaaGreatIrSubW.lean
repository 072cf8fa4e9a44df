/-
  THE ABSTRACT TEXTS OF FUNCTIONS (SubW), printed by irgen.py, and that they are the functions' own. Conditions: none.
-/
import Derived.Test.YtjifpdcflankpaaGreatProg
import Derived.Test.YtjifpdcflankpaaGreatAvDraw
set_option linter.unusedVariables false
set_option maxRecDepth 100000
namespace Go.Proofs.YtjifpdcflankpaaGreat
open Go.Proofs.YtjifpdcflankpaaGreat.Av

theorem follows_SubW : Tryz.prog.follows .mixedOrders = true := by kernel_rfl

def ir_spec_l09Sub : Ir Tryz.prog 24 [] [12,14] 2 := ⟨_, _, Tryz.func24, follows_SubW, by kernel_rfl, low_of [] Tryz.progTables (by conv => lhs; cbv) (by kernel_rfl)⟩
end Go.Proofs.YtjifpdcflankpaaGreat
