/-
  THE ABSTRACT TEXTS OF FUNCTIONS (GData), printed by irgen.py, and that they are the functions' own. Conditions: none.
-/
import Derived.Test.YtohalepkikjinaaProg
import Derived.Test.YtohalepkikjinaaAvDraw
set_option linter.unusedVariables false
set_option maxRecDepth 100000
namespace Go.Proofs.Ytohalepkikjinaa
open Go.Proofs.Ytohalepkikjinaa.Av

theorem follows_GData : Try.prog.follows .mixedOrders = true := by kernel_rfl

end Go.Proofs.Ytohalepkikjinaa
