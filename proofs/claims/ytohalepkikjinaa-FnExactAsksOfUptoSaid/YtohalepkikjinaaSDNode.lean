/-
  INSTANCES OF PACKAGE slices AT DNode, by abstract texts. Conditions: none. Printed by gensl.py.
-/
import Derived.Test.YtohalepkikjinaaPackT
import Derived.Test.YtohalepkikjinaaGData
import Derived.Test.YtohalepkikjinaaIrSDNode
set_option linter.unusedVariables false
set_option linter.unusedSimpArgs false
set_option maxRecDepth 100000
namespace Go.Proofs.Ytohalepkikjinaa
open Go.RowKit Go.Proofs.Ytohalepkikjinaa.Av Go.Proofs.Ytohalepkikjinaa.Ml
open Go.Proofs.Ytohalepkikjinaa.Av.AVal (av)

end Go.Proofs.Ytohalepkikjinaa
