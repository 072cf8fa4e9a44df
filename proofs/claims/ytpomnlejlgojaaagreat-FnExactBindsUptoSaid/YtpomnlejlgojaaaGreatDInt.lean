/-
  THE DATA List Int: as plain Lean structures, and when a Go value reads as one. Conditions: none. Printed by gen.py.
-/
import Derived.Test.YtpomnlejlgojaaaGreatRows
import Derived.Test.YtpomnlejlgojaaaGreatBase
import Derived.Test.YtpomnlejlgojaaaGreatReads
set_option linter.unusedVariables false
namespace Go.Proofs.YtpomnlejlgojaaaGreat
open Go.RowKit Go.Proofs.YtpomnlejlgojaaaGreat.Ml

theorem readsIntS : ReadsAs 53 (List Int) := readsSlice readsInt Tryz.underlying53 (by kernel_rfl) (by simp [Rep.n])

end Go.Proofs.YtpomnlejlgojaaaGreat
