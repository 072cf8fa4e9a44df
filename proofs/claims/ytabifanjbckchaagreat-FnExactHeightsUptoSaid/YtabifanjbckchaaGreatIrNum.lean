/-
  THE ABSTRACT TEXTS OF FUNCTIONS (Num), printed by irgen.py, and that they are the functions' own. Conditions: none.
-/
import Derived.Test.YtabifanjbckchaaGreatProg
import Derived.Test.YtabifanjbckchaaGreatAvDraw
set_option linter.unusedVariables false
set_option maxRecDepth 100000
namespace Go.Proofs.YtabifanjbckchaaGreat
open Go.Proofs.YtabifanjbckchaaGreat.Av

theorem follows_Num : Tryz.prog.follows .mixedOrders = true := by kernel_rfl

end Go.Proofs.YtabifanjbckchaaGreat
