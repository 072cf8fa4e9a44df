/-
  SMALL PARTS: the program's 'within', and the cell of a row of one. Conditions: none.
-/
import Derived.Test.YtohalepkikjinaaDoorRows
import Derived.Test.YtohalepkikjinaaDoorBase
set_option linter.unusedVariables false
set_option linter.unusedSimpArgs false
set_option maxRecDepth 100000
namespace Go.Proofs.YtohalepkikjinaaDoor
open Go.RowKit Go.Proofs.YtohalepkikjinaaDoor.Ml

theorem cell1 (w : World) (x : Value) (t : TypeId) : ∀ j u, [x][j]? = some u → (w.alloc (Obj.cells #[x] t)).cell? ((⟨w.heap.size, 0, none⟩ : Addr).add j) = some u := by
  intro j u hj
  match j, hj with
  | 0, hj => simp at hj; subst hj; simp [Addr.add]
theorem impl_within3 {w : World} (n l h : Int) : Calls Tryd.prog 17 #[.int .i64 n, .int .i64 l, .int .i64 h] w fun e w' => e = .returned (.bool (decide (l ≤ n) && decide (n ≤ h))) ∧ w = w' := by
  go_enter Tryd.func17, Tryd.ntmps17
  go_wp2
  all_goals go_ret
  all_goals exact ⟨retB (by first | (simp [*]; done) | (simp [*]; omega) | (simp; omega)), rfl⟩

end Go.Proofs.YtohalepkikjinaaDoor
