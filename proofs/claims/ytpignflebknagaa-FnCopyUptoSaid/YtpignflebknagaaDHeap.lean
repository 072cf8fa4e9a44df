/-
  THE DATA List Cell, List Val: as plain Lean structures, and when a Go value reads as one. Conditions: none. Printed by gen.py.
-/
import Derived.Test.YtpignflebknagaaRows
import Derived.Test.YtpignflebknagaaBase
import Derived.Test.YtpignflebknagaaReads
import Derived.Test.YtpignflebknagaaDCell
set_option linter.unusedVariables false
namespace Go.Proofs.Ytpignflebknagaa
open Go.RowKit Go.Proofs.Ytpignflebknagaa.Ml

theorem readsCellS : ReadsAs 23 (List Cell) := readsSlice readsCell Try.underlying23 (by kernel_rfl) (by simp [Rep.n])

theorem readsValS : ReadsAs 24 (List Val) := readsSlice readsVal Try.underlying24 (by kernel_rfl) (by simp [Rep.n])

end Go.Proofs.Ytpignflebknagaa
