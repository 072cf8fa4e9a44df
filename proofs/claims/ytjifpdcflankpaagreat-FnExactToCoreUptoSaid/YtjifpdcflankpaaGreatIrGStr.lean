/-
  THE ABSTRACT TEXTS OF FUNCTIONS (GStr), printed by irgen.py, and that they are the functions' own. Conditions: none.
-/
import Derived.Test.YtjifpdcflankpaaGreatProg
import Derived.Test.YtjifpdcflankpaaGreatAvDraw
set_option linter.unusedVariables false
set_option maxRecDepth 100000
namespace Go.Proofs.YtjifpdcflankpaaGreat
open Go.Proofs.YtjifpdcflankpaaGreat.Av

theorem follows_GStr : Tryz.prog.follows .mixedOrders = true := by kernel_rfl

end Go.Proofs.YtjifpdcflankpaaGreat
