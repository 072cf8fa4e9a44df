/-
  THE WALK OF FnExactGoesOn: it returns true, and nothing that was there has turned. Conditions: the arguments read as data of bulk at most 1048576. Printed by exlaw.py.
-/
import Derived.Test.YtbgphlpiknnajaaTIns
import Derived.Test.YtbgphlpiknnajaaLook0
import Derived.Deep.RegionHeld3
set_option linter.unusedVariables false
set_option linter.unusedSimpArgs false
set_option maxRecDepth 100000
namespace Go.Proofs.Ytbgphlpiknnajaa
open Go.RowKit Go.Proofs.Ytbgphlpiknnajaa.Ml

set_option maxHeartbeats 8000000 in
theorem law_FnExactGoesOn {w : World} {cs0 : List Value} {y0 : Ins} (r0 : RV w cs0 y0) (k0 : Bulk.bulk y0 ≤ 1048576)  :
    Calls Try.prog 3 #[.agg cs0.toArray] w fun e w' => e = .returned (.bool true) ∧ Below w.heap.size w w' := by
  have tokr0 : True := trivial
  obtain ⟨rfl, q0_0, q0_1, q0_2, q0_3⟩ := Ins.form r0
  have b0 := bel0 w
  go_enter Try.func3, Try.ntmps3
  go_wp2_with fail
  obtain ⟨w1, hW1⟩ : ∃ W, W = w.alloc (Obj.cells #[Value.int .i64 y0.op, Value.int .i64 y0.a, Value.int .i64 y0.b, Value.string y0.s] 23) := ⟨_, rfl⟩
  rw [← hW1]
  have hb1 : Below w.heap.size w w1 := by rw [hW1]; exact belA (bel0 _) (Nat.le_refl _) _
  have p1 := (Blk.new w 23 #[Value.int .i64 y0.op, Value.int .i64 y0.a, Value.int .i64 y0.b, Value.string y0.s]).cells
  rw [← hW1] at p1
  have z1 : w.heap.size < w1.heap.size := by rw [hW1]; simp
  clear hW1
  have b1 := belT b0 hb1 (Nat.le_refl _)
  have hs1 := hb1.size
  refine (sz_Ins (RV.on r0 b1) _ (by omega) (by omega)).mono ?_
  rintro e w2 ⟨⟨rs2, hr2, hq2, rfl⟩, hb2⟩
  have b2 := belT b1 hb2 (Nat.le_refl _)
  have hs2 := hb2.size
  replace p1 := keepC hb2 z1 p1
  replace z1 := Nat.lt_of_lt_of_le z1 hb2.size
  go_wp2_with fail
  · go_ret
    exact ⟨rfl, b2⟩
  go_wp2_with fail
  refine (to_Ins (RV.on r0 b2) k0).mono ?_
  rintro e w3 ⟨⟨f3, c3, rfl, own3, new3⟩, hb3⟩
  have b3 := belT b2 hb3 (Nat.le_refl _)
  have hs3 := hb3.size
  replace p1 := keepC hb3 z1 p1
  replace z1 := Nat.lt_of_lt_of_le z1 hb3.size
  have lo_o3 : ∀ b ∈ f3, w2.heap.size ≤ b := fun b hb => new3.2 b hb
  have hi_o3 : ∀ b ∈ f3, b < w3.heap.size := Own.lt own3
  have ff3 := Own.rv own3
  obtain ⟨rfl, qn3_0, qn3_1, qn3_2, qn3_3⟩ := Ins.form ff3
  clear ff3
  go_wp2_with fail
  refine (spec_GoesOn (Own.rv own3)).mono ?_
  rintro e w4 ⟨rfl, hb4⟩
  have b4 := belT b3 hb4 (Nat.le_refl _)
  have hs4 := hb4.size
  replace p1 := keepC hb4 z1 p1
  replace z1 := Nat.lt_of_lt_of_le z1 hb4.size
  replace own3 := Own.below own3 hb4
  go_wp2_with fail
  refine (to_Ins (RV.on r0 b4) k0).mono ?_
  rintro e w5 ⟨⟨f5, c5, rfl, own5, new5⟩, hb5⟩
  have b5 := belT b4 hb5 (Nat.le_refl _)
  have hs5 := hb5.size
  replace p1 := keepC hb5 z1 p1
  replace z1 := Nat.lt_of_lt_of_le z1 hb5.size
  replace own3 := Own.below own3 hb5
  have lo_o5 : ∀ b ∈ f5, w4.heap.size ≤ b := fun b hb => new5.2 b hb
  have hi_o5 : ∀ b ∈ f5, b < w5.heap.size := Own.lt own5
  have ff5 := Own.rv own5
  obtain ⟨rfl, qn5_0, qn5_1, qn5_2, qn5_3⟩ := Ins.form ff5
  clear ff5
  go_wp2_with fail
  refine (impl_GoesOn (Own.rv own5)).mono ?_
  rintro e w6 ⟨rfl, hb6⟩
  have b6 := belT b5 hb6 (Nat.le_refl _)
  have hs6 := hb6.size
  replace p1 := keepC hb6 z1 p1
  replace z1 := Nat.lt_of_lt_of_le z1 hb6.size
  replace own3 := Own.below own3 hb6
  replace own5 := Own.below own5 hb6
  go_wp2_with fail
  go_ret
  exact ⟨rfl, b6⟩

end Go.Proofs.Ytbgphlpiknnajaa
