/-
  THE WALK OF FnExactAgree: it returns true, and nothing that was there has turned. Conditions: the arguments read as data of bulk at most 1048576. Printed by exlaw.py.
-/
import Derived.Test.YtbgphlpiknnajaaTOutcome
import Derived.Test.YtbgphlpiknnajaaAgree2
import Derived.Deep.RegionHeld3
set_option linter.unusedVariables false
set_option linter.unusedSimpArgs false
set_option maxRecDepth 100000
namespace Go.Proofs.Ytbgphlpiknnajaa
open Go.RowKit Go.Proofs.Ytbgphlpiknnajaa.Ml

set_option maxHeartbeats 8000000 in
theorem law_FnExactAgree {w : World} {cs0 : List Value} {y0 : Outcome} {cs1 : List Value} {y1 : Outcome} (r0 : RV w cs0 y0) (k0 : Bulk.bulk y0 ≤ 1048576) (r1 : RV w cs1 y1) (k1 : Bulk.bulk y1 ≤ 1048576)  :
    Calls Try.prog 9 #[.agg cs0.toArray, .agg cs1.toArray] w fun e w' => e = .returned (.bool true) ∧ Below w.heap.size w w' := by
  have tokr0 : True := trivial
  obtain ⟨a2_0, c2_0, rfl, q0_0, q0_1, q0_2, s2_0⟩ := Outcome.form r0
  have tokr1 : True := trivial
  obtain ⟨a2_1, c2_1, rfl, q1_0, q1_1, q1_2, s2_1⟩ := Outcome.form r1
  have b0 := bel0 w
  go_enter Try.func9, Try.ntmps9
  go_wp2_with fail
  obtain ⟨w1, hW1⟩ : ∃ W, W = w.alloc (Obj.cells #[Value.int .i64 y0.kind, Value.int .i64 y0.n, Value.slice a2_0 y0.trace.length c2_0, Value.int .i64 y0.steps] 39) := ⟨_, rfl⟩
  rw [← hW1]
  have hb1 : Below w.heap.size w w1 := by rw [hW1]; exact belA (bel0 _) (Nat.le_refl _) _
  have p1 := (Blk.new w 39 #[Value.int .i64 y0.kind, Value.int .i64 y0.n, Value.slice a2_0 y0.trace.length c2_0, Value.int .i64 y0.steps]).cells
  rw [← hW1] at p1
  have z1 : w.heap.size < w1.heap.size := by rw [hW1]; simp
  have he1 : w1.heap.size = w.heap.size + 1 := by rw [hW1]; simp
  clear hW1
  have zz1 := z1
  have b1 := belT b0 hb1 (Nat.le_refl _)
  have hs1 := hb1.size
  obtain ⟨w2, hW2⟩ : ∃ W, W = w1.alloc (Obj.cells #[Value.int .i64 y1.kind, Value.int .i64 y1.n, Value.slice a2_1 y1.trace.length c2_1, Value.int .i64 y1.steps] 39) := ⟨_, rfl⟩
  rw [← hW2]
  have hb2 : Below w1.heap.size w1 w2 := by rw [hW2]; exact belA (bel0 _) (Nat.le_refl _) _
  have p2 := (Blk.new w1 39 #[Value.int .i64 y1.kind, Value.int .i64 y1.n, Value.slice a2_1 y1.trace.length c2_1, Value.int .i64 y1.steps]).cells
  rw [← hW2] at p2
  have z2 : w1.heap.size < w2.heap.size := by rw [hW2]; simp
  rw [he1] at p2 z2
  clear hW2
  have zz2 := z2
  have b2 := belT b1 hb2 (Nat.le_refl _)
  have hs2 := hb2.size
  replace p1 := keepC hb2 z1 p1
  replace z1 := Nat.lt_of_lt_of_le z1 hb2.size
  clear he1
  refine (sz_Outcome (RV.on r0 b2) _ (by omega) (by omega)).mono ?_
  rintro e w3 ⟨⟨rs3, hr3, hq3, rfl⟩, hb3⟩
  have b3 := belT b2 hb3 (Nat.le_refl _)
  have hs3 := hb3.size
  replace p1 := keepC hb3 z1 p1
  replace z1 := Nat.lt_of_lt_of_le z1 hb3.size
  replace p2 := keepC hb3 z2 p2
  replace z2 := Nat.lt_of_lt_of_le z2 hb3.size
  go_wp2_with fail
  · go_ret
    exact ⟨rfl, b3⟩
  go_wp2_with fail
  refine (sz_Outcome (RV.on r1 b3) _ (by omega) (by omega)).mono ?_
  rintro e w4 ⟨⟨rs4, hr4, hq4, rfl⟩, hb4⟩
  have b4 := belT b3 hb4 (Nat.le_refl _)
  have hs4 := hb4.size
  replace p1 := keepC hb4 z1 p1
  replace z1 := Nat.lt_of_lt_of_le z1 hb4.size
  replace p2 := keepC hb4 z2 p2
  replace z2 := Nat.lt_of_lt_of_le z2 hb4.size
  go_wp2_with fail
  · go_ret
    exact ⟨rfl, b4⟩
  go_wp2_with fail
  have bd := belN b4 1
  go_region_held3 (fun w' => (∀ j, w'.cell? ⟨w.heap.size, j, none⟩ = [Value.int .i64 y0.kind, Value.int .i64 y0.n, Value.slice a2_0 y0.trace.length c2_0, Value.int .i64 y0.steps][j]?) ∧ (∀ j, w'.cell? ⟨w.heap.size + 1, j, none⟩ = [Value.int .i64 y1.kind, Value.int .i64 y1.n, Value.slice a2_1 y1.trace.length c2_1, Value.int .i64 y1.steps][j]?))
    (first | exact ⟨p1, p2⟩ | exact ⟨keepC m5 z1 p1, keepC m5 z2 p2⟩ | exact ⟨keepC m6 z1 p1, keepC m6 z2 p2⟩ | exact ⟨keepC m7 z1 p1, keepC m7 z2 p2⟩)
    (first | (go_at_call_of 27 y0; refine (to_Outcome (RV.on r0 bd) k0).mono ?_; rintro e w5 ⟨⟨f5, c5, rfl, own5, new5⟩, hb5'⟩; have b5 := belT bd hb5' (Nat.le_refl _); have m5 := belD (n := 1) hb5'; obtain ⟨a2_n5, c2_n5, rfl, qn5_0, qn5_1, qn5_2, ss2_n5⟩ := Outcome.form (Own.rv own5)) | (go_at_call_of 27 y1; refine (to_Outcome (RV.on r1 b5) k1).mono ?_; rintro e w6 ⟨⟨f6, c6, rfl, own6, new6⟩, hb6'⟩; have b6 := belT b5 hb6' (Nat.le_refl _); have m6 := belT m5 hb6' (Nat.le_refl _); obtain ⟨a2_n6, c2_n6, rfl, qn6_0, qn6_1, qn6_2, ss2_n6⟩ := Outcome.form (Own.rv own6)) | (go_at_call_of 32 y0; refine (spec_Agree (Own.rv (Own.below own5 hb6')) (Own.rv own6)).mono ?_; rintro e w7 ⟨rfl, hb7'⟩; have b7 := belT b6 hb7' (Nat.le_refl _); have m7 := belT m6 hb7' (Nat.le_refl _)))
  have hs7 := m7.size
  replace p1 := keepC m7 z1 p1
  replace z1 := Nat.lt_of_lt_of_le z1 m7.size
  replace p2 := keepC m7 z2 p2
  replace z2 := Nat.lt_of_lt_of_le z2 m7.size
  go_wp2_with fail
  refine (to_Outcome (RV.on r0 b7) k0).mono ?_
  rintro e w8 ⟨⟨f8, c8, rfl, own8, new8⟩, hb8⟩
  have b8 := belT b7 hb8 (Nat.le_refl _)
  have hs8 := hb8.size
  replace p1 := keepC hb8 z1 p1
  replace z1 := Nat.lt_of_lt_of_le z1 hb8.size
  replace p2 := keepC hb8 z2 p2
  replace z2 := Nat.lt_of_lt_of_le z2 hb8.size
  have lo_o8 : ∀ b ∈ f8, w7.heap.size ≤ b := fun b hb => new8.2 b hb
  have hi_o8 : ∀ b ∈ f8, b < w8.heap.size := Own.lt own8
  have ff8 := Own.rv own8
  obtain ⟨a2_n8, c2_n8, rfl, qn8_0, qn8_1, qn8_2, ss2_n8⟩ := Outcome.form ff8
  clear ff8
  go_wp2_with fail
  obtain ⟨w9, hW9⟩ : ∃ W, W = w8.alloc (Obj.cells #[Value.int .i64 y0.kind, Value.int .i64 y0.n, Value.slice a2_n8 y0.trace.length c2_n8, Value.int .i64 y0.steps] 42) := ⟨_, rfl⟩
  rw [← hW9]
  have hb9 : Below w8.heap.size w8 w9 := by rw [hW9]; exact belA (bel0 _) (Nat.le_refl _) _
  have p9 := (Blk.new w8 42 #[Value.int .i64 y0.kind, Value.int .i64 y0.n, Value.slice a2_n8 y0.trace.length c2_n8, Value.int .i64 y0.steps]).cells
  rw [← hW9] at p9
  have z9 : w8.heap.size < w9.heap.size := by rw [hW9]; simp
  clear hW9
  have zz9 := z9
  have b9 := belT b8 hb9 (Nat.le_refl _)
  have hs9 := hb9.size
  replace p1 := keepC hb9 z1 p1
  replace z1 := Nat.lt_of_lt_of_le z1 hb9.size
  replace p2 := keepC hb9 z2 p2
  replace z2 := Nat.lt_of_lt_of_le z2 hb9.size
  replace own8 := Own.below own8 hb9
  refine (to_Outcome (RV.on r1 b9) k1).mono ?_
  rintro e w10 ⟨⟨f10, c10, rfl, own10, new10⟩, hb10⟩
  have b10 := belT b9 hb10 (Nat.le_refl _)
  have hs10 := hb10.size
  replace p1 := keepC hb10 z1 p1
  replace z1 := Nat.lt_of_lt_of_le z1 hb10.size
  replace p2 := keepC hb10 z2 p2
  replace z2 := Nat.lt_of_lt_of_le z2 hb10.size
  replace p9 := keepC hb10 z9 p9
  replace z9 := Nat.lt_of_lt_of_le z9 hb10.size
  replace own8 := Own.below own8 hb10
  have lo_o10 : ∀ b ∈ f10, w9.heap.size ≤ b := fun b hb => new10.2 b hb
  have hi_o10 : ∀ b ∈ f10, b < w10.heap.size := Own.lt own10
  have ff10 := Own.rv own10
  obtain ⟨a2_n10, c2_n10, rfl, qn10_0, qn10_1, qn10_2, ss2_n10⟩ := Outcome.form ff10
  clear ff10
  go_wp2_with fail
  obtain ⟨w11, hW11⟩ : ∃ W, W = w10.alloc (Obj.cells #[Value.int .i64 y1.kind, Value.int .i64 y1.n, Value.slice a2_n10 y1.trace.length c2_n10, Value.int .i64 y1.steps] 42) := ⟨_, rfl⟩
  rw [← hW11]
  have hb11 : Below w10.heap.size w10 w11 := by rw [hW11]; exact belA (bel0 _) (Nat.le_refl _) _
  have p11 := (Blk.new w10 42 #[Value.int .i64 y1.kind, Value.int .i64 y1.n, Value.slice a2_n10 y1.trace.length c2_n10, Value.int .i64 y1.steps]).cells
  rw [← hW11] at p11
  have z11 : w10.heap.size < w11.heap.size := by rw [hW11]; simp
  clear hW11
  have zz11 := z11
  have b11 := belT b10 hb11 (Nat.le_refl _)
  have hs11 := hb11.size
  replace p1 := keepC hb11 z1 p1
  replace z1 := Nat.lt_of_lt_of_le z1 hb11.size
  replace p2 := keepC hb11 z2 p2
  replace z2 := Nat.lt_of_lt_of_le z2 hb11.size
  replace p9 := keepC hb11 z9 p9
  replace z9 := Nat.lt_of_lt_of_le z9 hb11.size
  replace own8 := Own.below own8 hb11
  replace own10 := Own.below own10 hb11
  refine (impl_Agree (Own.rv own8) (Own.rv own10)).mono ?_
  rintro e w12 ⟨rfl, hb12⟩
  have b12 := belT b11 hb12 (Nat.le_refl _)
  have hs12 := hb12.size
  replace p1 := keepC hb12 z1 p1
  replace z1 := Nat.lt_of_lt_of_le z1 hb12.size
  replace p2 := keepC hb12 z2 p2
  replace z2 := Nat.lt_of_lt_of_le z2 hb12.size
  replace p9 := keepC hb12 z9 p9
  replace z9 := Nat.lt_of_lt_of_le z9 hb12.size
  replace p11 := keepC hb12 z11 p11
  replace z11 := Nat.lt_of_lt_of_le z11 hb12.size
  replace own8 := Own.below own8 hb12
  replace own10 := Own.below own10 hb12
  go_wp2_with fail
  have bd := belN b12 1
  go_region_held3 (fun w' => (∀ j, w'.cell? ⟨w8.heap.size, j, none⟩ = [Value.int .i64 y0.kind, Value.int .i64 y0.n, Value.slice a2_n8 y0.trace.length c2_n8, Value.int .i64 y0.steps][j]?) ∧ (∀ j, w'.cell? ⟨w.heap.size, j, none⟩ = [Value.int .i64 y0.kind, Value.int .i64 y0.n, Value.slice a2_0 y0.trace.length c2_0, Value.int .i64 y0.steps][j]?))
    (first | exact ⟨p9, p1⟩ | exact ⟨keepC m13 z9 p9, keepC m13 z1 p1⟩ | exact ⟨keepC m14 z9 p9, keepC m14 z1 p1⟩)
    (first | (go_at_call_of 27 y0; refine (to_Outcome (RV.on r0 bd) k0).mono ?_; rintro e w13 ⟨⟨f13, c13, rfl, own13, new13⟩, hb13'⟩; have b13 := belT bd hb13' (Nat.le_refl _); have m13 := belD (n := 1) hb13'; obtain ⟨a2_n13, c2_n13, rfl, qn13_0, qn13_1, qn13_2, ss2_n13⟩ := Outcome.form (Own.rv own13)) | (go_at_call_of 29 y0; refine (eq_Outcome (Own.rv (Own.below own8 m13)) (Own.rv own13)).mono ?_; rintro e w14 ⟨rfl, hb14'⟩; have b14 := belT b13 hb14' (Nat.le_refl _); have m14 := belT m13 hb14' (Nat.le_refl _)))
  have hs14 := m14.size
  replace p1 := keepC m14 z1 p1
  replace z1 := Nat.lt_of_lt_of_le z1 m14.size
  replace p2 := keepC m14 z2 p2
  replace z2 := Nat.lt_of_lt_of_le z2 m14.size
  replace p9 := keepC m14 z9 p9
  replace z9 := Nat.lt_of_lt_of_le z9 m14.size
  replace p11 := keepC m14 z11 p11
  replace z11 := Nat.lt_of_lt_of_le z11 m14.size
  replace own8 := Own.below own8 m14
  replace own10 := Own.below own10 m14
  go_wp2_with fail
  have bd := belN b14 1
  go_region_held3 (fun w' => (∀ j, w'.cell? ⟨w10.heap.size, j, none⟩ = [Value.int .i64 y1.kind, Value.int .i64 y1.n, Value.slice a2_n10 y1.trace.length c2_n10, Value.int .i64 y1.steps][j]?) ∧ (∀ j, w'.cell? ⟨w.heap.size + 1, j, none⟩ = [Value.int .i64 y1.kind, Value.int .i64 y1.n, Value.slice a2_1 y1.trace.length c2_1, Value.int .i64 y1.steps][j]?))
    (first | exact ⟨p11, p2⟩ | exact ⟨keepC m15 z11 p11, keepC m15 z2 p2⟩ | exact ⟨keepC m16 z11 p11, keepC m16 z2 p2⟩)
    (first | (go_at_call_of 27 y1; refine (to_Outcome (RV.on r1 bd) k1).mono ?_; rintro e w15 ⟨⟨f15, c15, rfl, own15, new15⟩, hb15'⟩; have b15 := belT bd hb15' (Nat.le_refl _); have m15 := belD (n := 1) hb15'; obtain ⟨a2_n15, c2_n15, rfl, qn15_0, qn15_1, qn15_2, ss2_n15⟩ := Outcome.form (Own.rv own15)) | (go_at_call_of 29 y1; refine (eq_Outcome (Own.rv (Own.below own10 m15)) (Own.rv own15)).mono ?_; rintro e w16 ⟨rfl, hb16'⟩; have b16 := belT b15 hb16' (Nat.le_refl _); have m16 := belT m15 hb16' (Nat.le_refl _)))
  have hs16 := m16.size
  replace p1 := keepC m16 z1 p1
  replace z1 := Nat.lt_of_lt_of_le z1 m16.size
  replace p2 := keepC m16 z2 p2
  replace z2 := Nat.lt_of_lt_of_le z2 m16.size
  replace p9 := keepC m16 z9 p9
  replace z9 := Nat.lt_of_lt_of_le z9 m16.size
  replace p11 := keepC m16 z11 p11
  replace z11 := Nat.lt_of_lt_of_le z11 m16.size
  replace own8 := Own.below own8 m16
  replace own10 := Own.below own10 m16
  go_wp2_with fail
  go_ret
  exact ⟨rfl, b16⟩

end Go.Proofs.Ytbgphlpiknnajaa
