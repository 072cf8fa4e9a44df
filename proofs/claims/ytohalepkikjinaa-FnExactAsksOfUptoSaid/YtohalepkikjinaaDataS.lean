/-
  DataOk OF THE REFERENCE, by abstract texts. Conditions: none.
-/
import Derived.Test.YtohalepkikjinaaDataP
import Derived.Test.YtohalepkikjinaaWrapN
import Derived.Test.YtohalepkikjinaaGiven
set_option linter.unusedVariables false
set_option linter.unusedSimpArgs false
set_option maxRecDepth 100000
namespace Go.Proofs.Ytohalepkikjinaa
open Go.RowKit Go.Proofs.Ytohalepkikjinaa.Av Go.Proofs.Ytohalepkikjinaa.Ml
open Go.Proofs.Ytohalepkikjinaa.Av.AVal (av)

theorem dataS_no {l : List DNode} {k : Nat} (h : k < l.length) (hb : dnodeB l l[k] = false) : dataB l = false := dataB_no h hb
end Go.Proofs.Ytohalepkikjinaa
