/-
  THE ABSTRACT TEXTS OF FUNCTIONS (GStr), printed by irgen.py, and that they are the functions' own. Conditions: none.
-/
import Derived.Test.YtmlckdffkbbbhaaGreatProg
import Derived.Test.YtmlckdffkbbbhaaGreatAvDraw
set_option linter.unusedVariables false
set_option maxRecDepth 100000
namespace Go.Proofs.YtmlckdffkbbbhaaGreat
open Go.Proofs.YtmlckdffkbbbhaaGreat.Av

theorem follows_GStr : Tryz.prog.follows .mixedOrders = true := by kernel_rfl

end Go.Proofs.YtmlckdffkbbbhaaGreat
