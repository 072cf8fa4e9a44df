/-
  THE DATA List Int: as plain Lean structures, and when a Go value reads as one. Conditions: none. Printed by gen.py.
-/
import Derived.Test.YtfkchfdbaikccaaRows
import Derived.Test.YtfkchfdbaikccaaBase
import Derived.Test.YtfkchfdbaikccaaReads
set_option linter.unusedVariables false
namespace Go.Proofs.Ytfkchfdbaikccaa
open Go.RowKit Go.Proofs.Ytfkchfdbaikccaa.Ml

theorem readsIntS : ReadsAs 71 (List Int) := readsSlice readsInt Try.underlying71 (by kernel_rfl) (by simp [Rep.n])

end Go.Proofs.Ytfkchfdbaikccaa
