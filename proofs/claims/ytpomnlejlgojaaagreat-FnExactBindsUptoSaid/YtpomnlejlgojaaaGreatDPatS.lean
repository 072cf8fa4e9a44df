/-
  THE DATA List Pat: as plain Lean structures, and when a Go value reads as one. Conditions: none. Printed by gen.py.
-/
import Derived.Test.YtpomnlejlgojaaaGreatRows
import Derived.Test.YtpomnlejlgojaaaGreatBase
import Derived.Test.YtpomnlejlgojaaaGreatReads
import Derived.Test.YtpomnlejlgojaaaGreatDPat
set_option linter.unusedVariables false
namespace Go.Proofs.YtpomnlejlgojaaaGreat
open Go.RowKit Go.Proofs.YtpomnlejlgojaaaGreat.Ml

theorem readsPatS : ReadsAs 97 (List Pat) := readsSlice readsPat Tryz.underlying97 (by kernel_rfl) (by simp [Rep.n])

end Go.Proofs.YtpomnlejlgojaaaGreat
