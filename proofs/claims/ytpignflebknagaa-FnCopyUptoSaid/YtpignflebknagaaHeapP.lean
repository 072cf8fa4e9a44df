/-
  RIGHT HEAPS, told plainly. Conditions: none.
-/
import Derived.Test.YtpignflebknagaaGHeap
set_option linter.unusedVariables false
set_option linter.unusedSimpArgs false
namespace Go.Proofs.Ytpignflebknagaa
open Go.RowKit Go.Proofs.Ytpignflebknagaa.Av Go.Proofs.Ytpignflebknagaa.Ml
open Go.Proofs.Ytpignflebknagaa.Av.AVal (av)

/-- whether a value is right in a heap of n cells -/
def valB (v : Val) (n : Int) : Bool :=
  if v.kind = 1 then decide (-4611686018427387904 ≤ v.n) && decide (v.n ≤ 4611686018427387903) && decide (v.s = bs [])
  else if v.kind = 2 then decide (v.n = 0)
  else if v.kind = 4 ∨ v.kind = 5 then decide (v.n = 0) && !decide (v.s = bs [])
  else if v.kind = 3 ∨ v.kind = 7 then decide (v.n = 0) && decide (v.s = bs [])
  else if v.kind = 6 then decide (0 ≤ v.n) && decide (v.n ≤ n - 1) && decide (v.s = bs [])
  else false
def noneB (v : Val) : Bool := decide (v.kind = 0) && (decide (v.n = 0) && decide (v.s = bs []))
def twoB (c : Cell) : Bool := decide (c.kind = 2) || decide (c.kind = 6)
/-- whether a cell is right in a heap of n cells -/
def cellB (c : Cell) (n : Int) : Bool :=
  (decide (1 ≤ c.kind) && decide (c.kind ≤ 6)) && valB c.a n &&
  (if twoB c then valB c.b n else noneB c.b) &&
  (decide (c.s = bs []) || decide (c.kind = 1)) && (decide (c.n = 0) || decide (c.kind = 3) || decide (c.kind = 4))
def heapB (h : List Cell) (roots : List Val) : Bool := decide (h.length ≤ 4000) && (h.all fun c => cellB c h.length) && (roots.all fun v => valB v h.length)
end Go.Proofs.Ytpignflebknagaa
