/-
 THE DATA List ByteArray: as plain Lean structures, and when a Go value reads as one. Conditions: none. Printed by gen.py.
-/
import Derived.Test.YtjnljjbmmmpdiaaDoorRows
import Derived.Test.YtjnljjbmmmpdiaaDoorBase
import Derived.Test.YtjnljjbmmmpdiaaDoorReads
set_option linter.unusedVariables false
namespace Go.Proofs.YtjnljjbmmmpdiaaDoor
open Go.RowKit Go.Proofs.YtjnljjbmmmpdiaaDoor.Ml

theorem readsStringS : ReadsAs 22 (List ByteArray) := readsSlice readsStr Tryd.underlying22 (by kernel_rfl) (by simp [Rep.n])

end Go.Proofs.YtjnljjbmmmpdiaaDoor
