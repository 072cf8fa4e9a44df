/-
  THE LAWS' OWN HELPERS OVER Outcome: how many values it holds (sz), its copy in new memory (to), whether two are equal (eq). Conditions: the arguments read as the given data, of bulk at most 1048576 where memory is made. Printed by gent.py.
-/
import Derived.Test.YtbgphlpiknnajaaRows
import Derived.Test.YtbgphlpiknnajaaOwn
import Derived.Test.YtbgphlpiknnajaaDOutcome
import Derived.Test.YtbgphlpiknnajaaTStr
import Derived.Deep.RegionHeld3
set_option linter.unusedVariables false
set_option linter.unusedSimpArgs false
set_option maxRecDepth 100000
namespace Go.Proofs.Ytbgphlpiknnajaa
open Go.RowKit Go.Proofs.Ytbgphlpiknnajaa.Ml

def Outcome.own (fp : List Nat) (w : World) (cs : List Value) (x : Outcome) : Prop := ∃ f2 v2, fp = f2 ∧ cs = [Value.int .i64 x.kind, Value.int .i64 x.n, v2, Value.int .i64 x.steps] ∧ (-9223372036854775808 ≤ x.kind ∧ x.kind ≤ 9223372036854775807) ∧ (-9223372036854775808 ≤ x.n ∧ x.n ≤ 9223372036854775807) ∧ (-9223372036854775808 ≤ x.steps ∧ x.steps ≤ 9223372036854775807) ∧ OwnSl f2 w v2 x.trace
instance : Own Outcome where
  own := Outcome.own
  isRep := by
    rintro _ _ _ _ ⟨f2, v2, rfl, rfl, h0, h1, h2, h3⟩
    exact ⟨_, rfl, h0, h1, h2, h3.isRep.carry (fun b hb => hb) (Same.refl _ _)⟩
  lt := by
    rintro _ _ _ _ ⟨f2, v2, rfl, rfl, h0, h1, h2, h3⟩ b hb
    exact h3.lt b hb
  on := by
    rintro _ _ _ _ _ ⟨f2, v2, rfl, rfl, h0, h1, h2, h3⟩ hw
    exact ⟨_, _, rfl, rfl, h0, h1, h2, h3.on (fun b hb => hw b hb)⟩

set_option maxHeartbeats 1000000 in
theorem sz_Outcome {w : World} {cs : List Value} {x : Outcome} (h : RV w cs x) (left : Int) (h0 : 0 ≤ left) (h1 : left ≤ 1048576) :
    Calls Try.prog 25 #[.agg cs.toArray, .int .i64 left] w fun e w' => (∃ r : Int, -1 ≤ r ∧ r ≤ left ∧ e = .returned (.int .i64 r)) ∧ Below w.heap.size w w' := by
  obtain ⟨a2, c2, rfl, q0, q1, q2, s2⟩ := Outcome.form h
  have hmx : maxLen = 9223372036854775807 := rfl
  clear hmx
  have b0 := belA (bel0 w) (Nat.le_refl _) (Obj.cells #[Value.int .i64 x.kind, Value.int .i64 x.n, Value.slice a2 x.trace.length c2, Value.int .i64 x.steps] 39)
  have y0 := (Blk.new w 39 #[Value.int .i64 x.kind, Value.int .i64 x.n, Value.slice a2 x.trace.length c2, Value.int .i64 x.steps]).cells
  have z0 : w.heap.size < (w.alloc (Obj.cells #[Value.int .i64 x.kind, Value.int .i64 x.n, Value.slice a2 x.trace.length c2, Value.int .i64 x.steps] 39)).heap.size := by simp
  go_enter Try.func25, Try.ntmps25
  have tok : True := trivial
  go_wp2_with fail
  refine (sz_StringS (Rd.on (show Rd _ _ _ from s2) b0) _ (by omega) (by omega)).mono ?_
  rintro e w1 ⟨⟨r1, hr1, hs1, rfl⟩, hb1⟩
  have b1 := belT b0 hb1 (Nat.le_refl _)
  replace y0 := keepC hb1 z0 y0
  replace z0 := Nat.lt_of_lt_of_le z0 hb1.size
  go_wp2_with fail
  · go_ret
    exact ⟨⟨_, by omega, by omega, rfl⟩, b1⟩
  go_ret
  exact ⟨⟨_, by omega, by omega, rfl⟩, b1⟩

set_option maxHeartbeats 2000000 in
theorem to_Outcome {w : World} {cs : List Value} {x : Outcome} (h : RV w cs x) (hk : Bulk.bulk x ≤ 1048576) :
    Calls Try.prog 27 #[.agg cs.toArray] w fun e w' => (∃ f c, e = .returned (.agg c.toArray) ∧ Own.own f w' c x ∧ New w f) ∧ Below w.heap.size w w' := by
  obtain ⟨a2, c2, rfl, q0, q1, q2, s2⟩ := Outcome.form h
  simp only [Bulk.bulk] at hk
  go_enter Try.func27, Try.ntmps27
  go_wp2_with fail
  have b0 := belA (belA (belA (bel0 w) (Nat.le_refl _) (Obj.cells #[Value.int .i64 x.kind, Value.int .i64 x.n, Value.slice a2 x.trace.length c2, Value.int .i64 x.steps] 39)) (Nat.le_refl _) (Obj.cells #[.int .i64 0, .int .i64 0, .slice none 0 0, .int .i64 0] 42)) (Nat.le_refl _) (Obj.cells #[Value.int .i64 x.kind, Value.int .i64 x.n, .slice none 0 0, .int .i64 0] 42)
  have yA := ((Blk.new w 39 #[Value.int .i64 x.kind, Value.int .i64 x.n, Value.slice a2 x.trace.length c2, Value.int .i64 x.steps]).alloc (Obj.cells #[.int .i64 0, .int .i64 0, .slice none 0 0, .int .i64 0] 42)).alloc (Obj.cells #[Value.int .i64 x.kind, Value.int .i64 x.n, .slice none 0 0, .int .i64 0] 42)
  have yR := (Blk.new (w.alloc (Obj.cells #[Value.int .i64 x.kind, Value.int .i64 x.n, Value.slice a2 x.trace.length c2, Value.int .i64 x.steps] 39)) 42 #[.int .i64 0, .int .i64 0, .slice none 0 0, .int .i64 0]).alloc (Obj.cells #[Value.int .i64 x.kind, Value.int .i64 x.n, .slice none 0 0, .int .i64 0] 42)
  have yO := Blk.new ((w.alloc (Obj.cells #[Value.int .i64 x.kind, Value.int .i64 x.n, Value.slice a2 x.trace.length c2, Value.int .i64 x.steps] 39)).alloc (Obj.cells #[.int .i64 0, .int .i64 0, .slice none 0 0, .int .i64 0] 42)) 42 #[Value.int .i64 x.kind, Value.int .i64 x.n, .slice none 0 0, .int .i64 0]
  simp only [World.size_alloc] at yR yO
  have lX1 := yO.lt
  refine (to_StringS (Rd.on (show Rd _ _ _ from s2) b0) (by simp only [Bulk.bulk]; omega)).mono ?_
  rintro e w1 ⟨⟨f2, v2, rfl, hown2, hnew2⟩, hb1⟩
  have b1 := belT b0 hb1 (Nat.le_refl _)
  have hz1 := hb1.size
  replace yA := yA.below hb1 yA.lt
  replace yR := yR.below hb1 yR.lt
  replace yO := yO.below hb1 yO.lt
  have lO := yO.lt
  have hn2 : ∀ b ∈ f2, w.heap.size + 1 + 1 < b := fun b hb => by have := hnew2.2 b hb; omega
  obtain ⟨a2', c2', rfl⟩ := hown2.form
  have qA := yA.cells
  have qR := yR.cells
  have qO := yO.cells
  have fR := yR.frozen
  have fO := yO.frozen
  have tok1 : True := trivial
  go_wp2_with fail
  refine bodyPost_ret (v := .agg #[Value.int .i64 x.kind, Value.int .i64 x.n, Value.slice a2' x.trace.length c2', Value.int .i64 x.steps]) (by simp [results, Try.results27, go_sem, qR]) rfl ⟨⟨f2, _, rfl, ⟨_, _, rfl, rfl, q0, q1, q2, ?own0⟩, ?new⟩, ?bel⟩
  case own0 =>
    refine OwnSl.on hown2 fun b hb => ?_
    have hlt := hn2 b hb
    repeat (with_reducible refine (Below.heap_setCell _ _ _ b (by dsimp only; omega)).trans ?_)
    rfl
  case new =>
    exact ⟨hnew2.1, fun b hb => by have := hn2 b hb; omega⟩
  case bel =>
    repeat (with_reducible refine Below.setCell ?_ (by dsimp only; omega) _)
    exact b1

set_option maxHeartbeats 1000000 in
theorem eq_Outcome {w : World} {cs1 cs2 : List Value} {x : Outcome} (h1 : RV w cs1 x) (h2 : RV w cs2 x) :
    Calls Try.prog 29 #[.agg cs1.toArray, .agg cs2.toArray] w fun e w' => e = .returned (.bool true) ∧ Below w.heap.size w w' := by
  obtain ⟨a21, c21, rfl, q0, q1, q2, s21⟩ := Outcome.form h1
  obtain ⟨a22, c22, rfl, p0, p1, p2, s22⟩ := Outcome.form h2
  go_enter Try.func29, Try.ntmps29
  go_wp2_with fail
  have b0 := belA (belA (bel0 w) (Nat.le_refl _) (Obj.cells #[Value.int .i64 x.kind, Value.int .i64 x.n, Value.slice a21 x.trace.length c21, Value.int .i64 x.steps] 42)) (Nat.le_refl _) (Obj.cells #[Value.int .i64 x.kind, Value.int .i64 x.n, Value.slice a22 x.trace.length c22, Value.int .i64 x.steps] 42)
  have yA := (Blk.new w 42 #[Value.int .i64 x.kind, Value.int .i64 x.n, Value.slice a21 x.trace.length c21, Value.int .i64 x.steps]).alloc (Obj.cells #[Value.int .i64 x.kind, Value.int .i64 x.n, Value.slice a22 x.trace.length c22, Value.int .i64 x.steps] 42)
  have yB := Blk.new (w.alloc (Obj.cells #[Value.int .i64 x.kind, Value.int .i64 x.n, Value.slice a21 x.trace.length c21, Value.int .i64 x.steps] 42)) 42 #[Value.int .i64 x.kind, Value.int .i64 x.n, Value.slice a22 x.trace.length c22, Value.int .i64 x.steps]
  simp only [World.size_alloc] at yB
  refine (eq_StringS (Rd.on (show Rd _ _ _ from s21) b0) (Rd.on (show Rd _ _ _ from s22) b0)).mono ?_
  rintro e w1 ⟨rfl, hb1⟩
  have b1 := belT b0 hb1 (Nat.le_refl _)
  replace yA := yA.below hb1 yA.lt
  replace yB := yB.below hb1 yB.lt
  have qA1 := yA.cells
  have qB1 := yB.cells
  go_wp2_with fail
  go_ret
  exact ⟨rfl, b1⟩

end Go.Proofs.Ytbgphlpiknnajaa
