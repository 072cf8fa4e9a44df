/-
  THE DATA List Cell, List Val: as plain Lean structures, and when a Go value reads as one. Conditions: none. Printed by gen.py.
-/
import Derived.Test.YtpnnhgminiihnaaRows
import Derived.Test.YtpnnhgminiihnaaBase
import Derived.Test.YtpnnhgminiihnaaReads
import Derived.Test.YtpnnhgminiihnaaDCell
set_option linter.unusedVariables false
namespace Go.Proofs.Ytpnnhgminiihnaa
open Go.RowKit Go.Proofs.Ytpnnhgminiihnaa.Ml

theorem readsCellS : ReadsAs 22 (List Cell) := readsSlice readsCell Try.underlying22 (by kernel_rfl) (by simp [Rep.n])

theorem readsValS : ReadsAs 34 (List Val) := readsSlice readsVal Try.underlying34 (by kernel_rfl) (by simp [Rep.n])

end Go.Proofs.Ytpnnhgminiihnaa
