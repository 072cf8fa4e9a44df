/-
  THE LAWS' OWN HELPERS OVER Ins: how many values it holds (sz), its copy in new memory (to), whether two are equal (eq). Conditions: the arguments read as the given data, of bulk at most 1048576 where memory is made. Printed by gent.py.
-/
import Derived.Test.YtbgphlpiknnajaaRows
import Derived.Test.YtbgphlpiknnajaaOwn
import Derived.Test.YtbgphlpiknnajaaDIns
import Derived.Deep.RegionHeld3
set_option linter.unusedVariables false
set_option linter.unusedSimpArgs false
set_option maxRecDepth 100000
namespace Go.Proofs.Ytbgphlpiknnajaa
open Go.RowKit Go.Proofs.Ytbgphlpiknnajaa.Ml

instance : Own Ins := { own := flatOwn Ins, isRep := flatOwn.isRep, lt := flatOwn.lt, on := flatOwn.on }

set_option maxHeartbeats 1000000 in
theorem sz_Ins {w : World} {cs : List Value} {x : Ins} (h : RV w cs x) (left : Int) (h0 : 0 ≤ left) (h1 : left ≤ 1048576) :
    Calls Try.prog 12 #[.agg cs.toArray, .int .i64 left] w fun e w' => (∃ r : Int, -1 ≤ r ∧ r ≤ left ∧ e = .returned (.int .i64 r)) ∧ Below w.heap.size w w' := by
  obtain ⟨rfl, q0, q1, q2, q3⟩ := Ins.form h
  have hmx : maxLen = 9223372036854775807 := rfl
  have hz3 : x.s.size ≤ 9223372036854775807 := by omega
  clear hmx
  have b0 := belA (bel0 w) (Nat.le_refl _) (Obj.cells #[Value.int .i64 x.op, Value.int .i64 x.a, Value.int .i64 x.b, Value.string x.s] 23)
  have y0 := (Blk.new w 23 #[Value.int .i64 x.op, Value.int .i64 x.a, Value.int .i64 x.b, Value.string x.s]).cells
  have z0 : w.heap.size < (w.alloc (Obj.cells #[Value.int .i64 x.op, Value.int .i64 x.a, Value.int .i64 x.b, Value.string x.s] 23)).heap.size := by simp
  go_enter Try.func12, Try.ntmps12
  have tok : True := trivial
  go_wp2_with fail
  · go_ret
    exact ⟨⟨_, by omega, by omega, rfl⟩, b0⟩
  go_ret
  exact ⟨⟨_, by omega, by omega, rfl⟩, b0⟩

set_option maxHeartbeats 2000000 in
theorem to_Ins {w : World} {cs : List Value} {x : Ins} (h : RV w cs x) (hk : Bulk.bulk x ≤ 1048576) :
    Calls Try.prog 14 #[.agg cs.toArray] w fun e w' => (∃ f c, e = .returned (.agg c.toArray) ∧ Own.own f w' c x ∧ New w f) ∧ Below w.heap.size w w' := by
  obtain ⟨rfl, q0, q1, q2, q3⟩ := Ins.form h
  go_enter Try.func14, Try.ntmps14
  go_wp2_with fail
  refine bodyPost_ret (v := .agg #[Value.int .i64 x.op, Value.int .i64 x.a, Value.int .i64 x.b, Value.string x.s]) (by simp [results, Try.results14, go_sem]) rfl ⟨⟨[], _, rfl, ⟨rfl, ⟨rfl, q0, q1, q2, q3⟩⟩, List.nodup_nil, fun b hb => by cases hb⟩, ?_⟩
  exact belA (belA (belA (bel0 _) (Nat.le_refl _) _) (Nat.le_refl _) _) (Nat.le_refl _) _

end Go.Proofs.Ytbgphlpiknnajaa
