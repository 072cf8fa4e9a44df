/-
  THE WALK OF FnExactTargets: it returns true, and nothing that was there has turned. Conditions: the arguments read as data of bulk at most 1048576. Printed by exlaw.py.
-/
import Derived.Test.YtbgphlpiknnajaaTIns
import Derived.Test.YtbgphlpiknnajaaTInt
import Derived.Test.YtbgphlpiknnajaaLook0
import Derived.Deep.RegionHeld3
set_option linter.unusedVariables false
set_option linter.unusedSimpArgs false
set_option maxRecDepth 100000
namespace Go.Proofs.Ytbgphlpiknnajaa
open Go.RowKit Go.Proofs.Ytbgphlpiknnajaa.Ml

set_option maxHeartbeats 8000000 in
theorem law_FnExactTargets {w : World} {cs0 : List Value} {y0 : Ins} (r0 : RV w cs0 y0) (k0 : Bulk.bulk y0 ≤ 1048576)  :
    Calls Try.prog 6 #[.agg cs0.toArray] w fun e w' => e = .returned (.bool true) ∧ Below w.heap.size w w' := by
  have tokr0 : True := trivial
  obtain ⟨rfl, q0_0, q0_1, q0_2, q0_3⟩ := Ins.form r0
  have b0 := bel0 w
  go_enter Try.func6, Try.ntmps6
  go_wp2_with fail
  obtain ⟨w1, hW1⟩ : ∃ W, W = w.alloc (Obj.cells #[Value.int .i64 y0.op, Value.int .i64 y0.a, Value.int .i64 y0.b, Value.string y0.s] 23) := ⟨_, rfl⟩
  rw [← hW1]
  have hb1 : Below w.heap.size w w1 := by rw [hW1]; exact belA (bel0 _) (Nat.le_refl _) _
  have p1 := (Blk.new w 23 #[Value.int .i64 y0.op, Value.int .i64 y0.a, Value.int .i64 y0.b, Value.string y0.s]).cells
  rw [← hW1] at p1
  have z1 : w.heap.size < w1.heap.size := by rw [hW1]; simp
  clear hW1
  have zz1 := z1
  have b1 := belT b0 hb1 (Nat.le_refl _)
  have hs1 := hb1.size
  refine (sz_Ins (RV.on r0 b1) _ (by omega) (by omega)).mono ?_
  rintro e w2 ⟨⟨rs2, hr2, hq2, rfl⟩, hb2⟩
  have b2 := belT b1 hb2 (Nat.le_refl _)
  have hs2 := hb2.size
  replace p1 := keepC hb2 z1 p1
  replace z1 := Nat.lt_of_lt_of_le z1 hb2.size
  go_wp2_with fail
  · go_ret
    exact ⟨rfl, b2⟩
  go_wp2_with fail
  refine (to_Ins (RV.on r0 b2) k0).mono ?_
  rintro e w3 ⟨⟨f3, c3, rfl, own3, new3⟩, hb3⟩
  have b3 := belT b2 hb3 (Nat.le_refl _)
  have hs3 := hb3.size
  replace p1 := keepC hb3 z1 p1
  replace z1 := Nat.lt_of_lt_of_le z1 hb3.size
  have lo_o3 : ∀ b ∈ f3, w2.heap.size ≤ b := fun b hb => new3.2 b hb
  have hi_o3 : ∀ b ∈ f3, b < w3.heap.size := Own.lt own3
  have ff3 := Own.rv own3
  obtain ⟨rfl, qn3_0, qn3_1, qn3_2, qn3_3⟩ := Ins.form ff3
  clear ff3
  go_wp2_with fail
  refine (spec_Targets (Own.rv own3)).mono ?_
  rintro e w4 ⟨⟨f4, c4, rfl, own4, new4⟩, hb4⟩
  have b4 := belT b3 hb4 (Nat.le_refl _)
  have hs4 := hb4.size
  replace p1 := keepC hb4 z1 p1
  replace z1 := Nat.lt_of_lt_of_le z1 hb4.size
  replace own3 := Own.below own3 hb4
  have lo_o4 : ∀ b ∈ f4, w3.heap.size ≤ b := fun b hb => new4.2 b hb
  have hi_o4 : ∀ b ∈ f4, b < w4.heap.size := OwnSl.lt own4
  obtain ⟨av4_, cv4_, rfl⟩ := own4.form
  go_wp2_with fail
  refine (to_Ins (RV.on r0 b4) k0).mono ?_
  rintro e w5 ⟨⟨f5, c5, rfl, own5, new5⟩, hb5⟩
  have b5 := belT b4 hb5 (Nat.le_refl _)
  have hs5 := hb5.size
  replace p1 := keepC hb5 z1 p1
  replace z1 := Nat.lt_of_lt_of_le z1 hb5.size
  replace own3 := Own.below own3 hb5
  replace own4 := OwnSl.below own4 hb5
  have lo_o5 : ∀ b ∈ f5, w4.heap.size ≤ b := fun b hb => new5.2 b hb
  have hi_o5 : ∀ b ∈ f5, b < w5.heap.size := Own.lt own5
  have ff5 := Own.rv own5
  obtain ⟨rfl, qn5_0, qn5_1, qn5_2, qn5_3⟩ := Ins.form ff5
  clear ff5
  go_wp2_with fail
  refine (impl_Targets (Own.rv own5)).mono ?_
  rintro e w6 ⟨⟨f6, c6, rfl, own6, new6⟩, hb6⟩
  have b6 := belT b5 hb6 (Nat.le_refl _)
  have hs6 := hb6.size
  replace p1 := keepC hb6 z1 p1
  replace z1 := Nat.lt_of_lt_of_le z1 hb6.size
  replace own3 := Own.below own3 hb6
  replace own4 := OwnSl.below own4 hb6
  replace own5 := Own.below own5 hb6
  have lo_o6 : ∀ b ∈ f6, w5.heap.size ≤ b := fun b hb => new6.2 b hb
  have hi_o6 : ∀ b ∈ f6, b < w6.heap.size := OwnSl.lt own6
  obtain ⟨av6_, cv6_, rfl⟩ := own6.form
  go_wp2_with fail
  refine (eq_IntS (OwnSl.rd own6) (OwnSl.rd own4)).mono ?_
  rintro e w7 ⟨rfl, hb7⟩
  have b7 := belT b6 hb7 (Nat.le_refl _)
  have hs7 := hb7.size
  replace p1 := keepC hb7 z1 p1
  replace z1 := Nat.lt_of_lt_of_le z1 hb7.size
  replace own3 := Own.below own3 hb7
  replace own4 := OwnSl.below own4 hb7
  replace own5 := Own.below own5 hb7
  replace own6 := OwnSl.below own6 hb7
  go_wp2_with fail
  refine (mark_IntS own6 new6.1 _ (by omega) (by have := targets_small y0; omega)).mono ?_
  rintro e w8 ⟨rfl, own8', t8⟩
  have hs8 := t8.size
  have b8 := b7.trans (t8.below (B := w.heap.size) (fun b hb => by have := lo_o6 b hb; have := b5.size; omega) b7.size)
  replace p1 := keepT t8 z1 (fun hm => by have := lo_o6 _ hm; omega) p1
  replace z1 := Nat.lt_of_lt_of_le z1 t8.size
  replace own3 := Own.on own3 (fun b hb => t8.block b (Own.lt own3 b hb) (fun hm => by have := lo_o6 _ hm; have := hi_o3 _ hb; omega))
  replace own4 := OwnSl.on own4 (fun b hb => t8.block b (OwnSl.lt own4 b hb) (fun hm => by have := lo_o6 _ hm; have := hi_o4 _ hb; omega))
  replace own5 := Own.on own5 (fun b hb => t8.block b (Own.lt own5 b hb) (fun hm => by have := lo_o6 _ hm; have := hi_o5 _ hb; omega))
  clear own6
  have own6 := own8'
  clear own8'
  go_wp2_with fail
  refine (held_IntS _ (OwnSl.rd own6) (by omega) (by have := targets_small y0; omega)).mono ?_
  rintro e w9 ⟨rfl, hb9⟩
  have b9 := belT b8 hb9 (Nat.le_refl _)
  have hs9 := hb9.size
  replace p1 := keepC hb9 z1 p1
  replace z1 := Nat.lt_of_lt_of_le z1 hb9.size
  replace own3 := Own.below own3 hb9
  replace own4 := OwnSl.below own4 hb9
  replace own5 := Own.below own5 hb9
  replace own6 := OwnSl.below own6 hb9
  go_wp2_with fail
  refine (to_Ins (RV.on r0 b9) k0).mono ?_
  rintro e w10 ⟨⟨f10, c10, rfl, own10, new10⟩, hb10⟩
  have b10 := belT b9 hb10 (Nat.le_refl _)
  have hs10 := hb10.size
  replace p1 := keepC hb10 z1 p1
  replace z1 := Nat.lt_of_lt_of_le z1 hb10.size
  replace own3 := Own.below own3 hb10
  replace own4 := OwnSl.below own4 hb10
  replace own5 := Own.below own5 hb10
  replace own6 := OwnSl.below own6 hb10
  have lo_o10 : ∀ b ∈ f10, w9.heap.size ≤ b := fun b hb => new10.2 b hb
  have hi_o10 : ∀ b ∈ f10, b < w10.heap.size := Own.lt own10
  have ff10 := Own.rv own10
  obtain ⟨rfl, qn10_0, qn10_1, qn10_2, qn10_3⟩ := Ins.form ff10
  clear ff10
  go_wp2_with fail
  refine (impl_Targets (Own.rv own10)).mono ?_
  rintro e w11 ⟨⟨f11, c11, rfl, own11, new11⟩, hb11⟩
  have b11 := belT b10 hb11 (Nat.le_refl _)
  have hs11 := hb11.size
  replace p1 := keepC hb11 z1 p1
  replace z1 := Nat.lt_of_lt_of_le z1 hb11.size
  replace own3 := Own.below own3 hb11
  replace own4 := OwnSl.below own4 hb11
  replace own5 := Own.below own5 hb11
  replace own6 := OwnSl.below own6 hb11
  replace own10 := Own.below own10 hb11
  have lo_o11 : ∀ b ∈ f11, w10.heap.size ≤ b := fun b hb => new11.2 b hb
  have hi_o11 : ∀ b ∈ f11, b < w11.heap.size := OwnSl.lt own11
  obtain ⟨av11_, cv11_, rfl⟩ := own11.form
  go_wp2_with fail
  refine (eq_IntS (OwnSl.rd own11) (OwnSl.rd own4)).mono ?_
  rintro e w12 ⟨rfl, hb12⟩
  have b12 := belT b11 hb12 (Nat.le_refl _)
  have hs12 := hb12.size
  replace p1 := keepC hb12 z1 p1
  replace z1 := Nat.lt_of_lt_of_le z1 hb12.size
  replace own3 := Own.below own3 hb12
  replace own4 := OwnSl.below own4 hb12
  replace own5 := Own.below own5 hb12
  replace own6 := OwnSl.below own6 hb12
  replace own10 := Own.below own10 hb12
  replace own11 := OwnSl.below own11 hb12
  go_wp2_with fail
  refine (held_IntS _ (OwnSl.rd own6) (by omega) (by have := targets_small y0; omega)).mono ?_
  rintro e w13 ⟨rfl, hb13⟩
  have b13 := belT b12 hb13 (Nat.le_refl _)
  have hs13 := hb13.size
  replace p1 := keepC hb13 z1 p1
  replace z1 := Nat.lt_of_lt_of_le z1 hb13.size
  replace own3 := Own.below own3 hb13
  replace own4 := OwnSl.below own4 hb13
  replace own5 := Own.below own5 hb13
  replace own6 := OwnSl.below own6 hb13
  replace own10 := Own.below own10 hb13
  replace own11 := OwnSl.below own11 hb13
  go_wp2_with fail
  go_ret
  exact ⟨rfl, b13⟩

end Go.Proofs.Ytbgphlpiknnajaa
