/-
  THE ABSTRACT TEXTS OF FUNCTIONS (GHeap), printed by irgen.py, and that they are the functions' own. Conditions: none.
-/
import Derived.Test.YtpignflebknagaaProg
import Derived.Test.YtpignflebknagaaAvDraw
set_option linter.unusedVariables false
set_option maxRecDepth 100000
namespace Go.Proofs.Ytpignflebknagaa
open Go.Proofs.Ytpignflebknagaa.Av

theorem follows_GHeap : Try.prog.follows .mixedOrders = true := by kernel_rfl

end Go.Proofs.Ytpignflebknagaa
