/-
  Agree: the program's and the reference's, each by what it returns. Conditions: the arguments read as the given data. Printed by gagree.py.
-/
import Derived.Test.YtbgphlpiknnajaaAgree
import Derived.Deep.RegionHeld3
set_option linter.unusedVariables false
set_option linter.unusedSimpArgs false
set_option maxRecDepth 100000
namespace Go.Proofs.Ytbgphlpiknnajaa
open Go.RowKit Go.Proofs.Ytbgphlpiknnajaa.Ml

set_option maxHeartbeats 8000000 in
theorem spec_Agree {w : World} {cs1 cs2 : List Value} {x y : Outcome} (h1 : RV w cs1 x) (h2 : RV w cs2 y) :
    Calls Try.prog 32 #[.agg cs1.toArray, .agg cs2.toArray] w fun e w' => e = .returned (.bool (Agree x y)) ∧ Below w.heap.size w w' := by
  have r1 := h1
  have r2 := h2
  obtain ⟨a1, c1, rfl, _⟩ := Outcome.form h1
  obtain ⟨a2, c2, rfl, _⟩ := Outcome.form h2
  obtain ⟨W, hW⟩ : ∃ W, W = (w.alloc (Obj.cells #[Value.int .i64 x.kind, Value.int .i64 x.n, Value.slice a1 x.trace.length c1, Value.int .i64 x.steps] 42)).alloc (Obj.cells #[Value.int .i64 y.kind, Value.int .i64 y.n, Value.slice a2 y.trace.length c2, Value.int .i64 y.steps] 42) := ⟨_, rfl⟩
  have b0 : Below w.heap.size w W := by rw [hW]; exact belA (belA (bel0 _) (Nat.le_refl _) _) (Nat.le_refl _) _
  have z0 : w.heap.size + 1 < W.heap.size := by rw [hW]; simp
  have p0 : ∀ j, W.cell? ⟨w.heap.size, j, none⟩ = (#[Value.int .i64 x.kind, Value.int .i64 x.n, Value.slice a1 x.trace.length c1, Value.int .i64 x.steps]).toList[j]? := by rw [hW]; exact keepC (belA (bel0 _) (Nat.le_refl _) _) (by simp) (Blk.new w 42 #[Value.int .i64 x.kind, Value.int .i64 x.n, Value.slice a1 x.trace.length c1, Value.int .i64 x.steps]).cells
  have q0 : ∀ j, W.cell? ⟨w.heap.size + 1, j, none⟩ = (#[Value.int .i64 y.kind, Value.int .i64 y.n, Value.slice a2 y.trace.length c2, Value.int .i64 y.steps]).toList[j]? := by rw [hW]; have := (Blk.new (w.alloc (Obj.cells #[Value.int .i64 x.kind, Value.int .i64 x.n, Value.slice a1 x.trace.length c1, Value.int .i64 x.steps] 42)) 42 #[Value.int .i64 y.kind, Value.int .i64 y.n, Value.slice a2 y.trace.length c2, Value.int .i64 y.steps]).cells; simpa only [World.size_alloc] using this
  have z0' : w.heap.size < W.heap.size := by omega
  cases hA : Alike x y
  case true =>
    have HR := Lib.hid (show Agree x y = true by simp [Agree, hA])
    go_enter Try.func32, Try.ntmps32
    go_wp2_with fail
    rw [← hW]
    clear hW
    refine (spec_Alike (RV.on r1 b0) (RV.on r2 b0)).mono ?_
    rintro e w1 ⟨rfl, hb1⟩
    have b1 := belT b0 hb1 (Nat.le_refl _)
    have p1 := keepC hb1 z0' p0
    have q1 := keepC hb1 z0 q0
    have z1 := Nat.lt_of_lt_of_le z0 hb1.size
    have z1' := Nat.lt_of_lt_of_le z0' hb1.size
    clear p0 q0 z0 z0'
    go_wp2_with fail
    go_ret
    exact ⟨retB (by first | (rw [HR.out]; done) | (rw [HR.out, bne_iff_ne.mpr hx, bne_iff_ne.mpr hy]; done) | (rw [HR.out, bne_iff_ne.mpr hx, bne_iff_ne.mpr hy]; simp) | (rw [HR.out, beq_false_of_ne hx, beq_false_of_ne hy]; done) | (rw [HR.out, beq_false_of_ne hx, beq_false_of_ne hy]; simp)), b1⟩
  case false =>
    cases hE1 : Ends x
    case false =>
      by_cases hx : x.kind = 4
      · have HR := Lib.hid (show Agree x y = false by simp [Agree, hA, hE1, hx])
        rw [hx] at r1 p0 hW ⊢
        have HXx := Lib.hid hx; clear hx h1 h2
        go_enter Try.func32, Try.ntmps32
        go_wp2_with fail
        rw [← hW]
        clear hW
        refine (spec_Alike (RV.on r1 b0) (RV.on r2 b0)).mono ?_
        rintro e w1 ⟨rfl, hb1⟩
        have b1 := belT b0 hb1 (Nat.le_refl _)
        have p1 := keepC hb1 z0' p0
        have q1 := keepC hb1 z0 q0
        have z1 := Nat.lt_of_lt_of_le z0 hb1.size
        have z1' := Nat.lt_of_lt_of_le z0' hb1.size
        clear p0 q0 z0 z0'
        go_wp2_with fail
        refine (spec_Ends (RV.on r1 b1)).mono ?_
        rintro e w2 ⟨rfl, hb2⟩
        have b2 := belT b1 hb2 (Nat.le_refl _)
        have p2 := keepC hb2 z1' p1
        have q2 := keepC hb2 z1 q1
        have z2 := Nat.lt_of_lt_of_le z1 hb2.size
        have z2' := Nat.lt_of_lt_of_le z1' hb2.size
        clear p1 q1 z1 z1'
        go_wp2_with fail
        go_ret
        exact ⟨retB (by first | (rw [HR.out]; done) | (rw [HR.out, bne_iff_ne.mpr hx, bne_iff_ne.mpr hy]; done) | (rw [HR.out, bne_iff_ne.mpr hx, bne_iff_ne.mpr hy]; simp) | (rw [HR.out, beq_false_of_ne hx, beq_false_of_ne hy]; done) | (rw [HR.out, beq_false_of_ne hx, beq_false_of_ne hy]; simp)), b2⟩
      · skip
        by_cases hy : y.kind = 4
        · have HR := Lib.hid (show Agree x y = false by simp [Agree, hA, hE1, hy])
          rw [hy] at r2 q0 hW ⊢
          have HXy := Lib.hid hy; clear hy h1 h2
          go_enter Try.func32, Try.ntmps32
          go_wp2_with fail
          rw [← hW]
          clear hW
          refine (spec_Alike (RV.on r1 b0) (RV.on r2 b0)).mono ?_
          rintro e w1 ⟨rfl, hb1⟩
          have b1 := belT b0 hb1 (Nat.le_refl _)
          have p1 := keepC hb1 z0' p0
          have q1 := keepC hb1 z0 q0
          have z1 := Nat.lt_of_lt_of_le z0 hb1.size
          have z1' := Nat.lt_of_lt_of_le z0' hb1.size
          clear p0 q0 z0 z0'
          go_wp2_with fail
          refine (spec_Ends (RV.on r1 b1)).mono ?_
          rintro e w2 ⟨rfl, hb2⟩
          have b2 := belT b1 hb2 (Nat.le_refl _)
          have p2 := keepC hb2 z1' p1
          have q2 := keepC hb2 z1 q1
          have z2 := Nat.lt_of_lt_of_le z1 hb2.size
          have z2' := Nat.lt_of_lt_of_le z1' hb2.size
          clear p1 q1 z1 z1'
          go_wp2_with fail
          go_ret
          exact ⟨retB (by first | (rw [HR.out]; done) | (rw [HR.out, bne_iff_ne.mpr hx, bne_iff_ne.mpr hy]; done) | (rw [HR.out, bne_iff_ne.mpr hx, bne_iff_ne.mpr hy]; simp) | (rw [HR.out, beq_false_of_ne hx, beq_false_of_ne hy]; done) | (rw [HR.out, beq_false_of_ne hx, beq_false_of_ne hy]; simp)), b2⟩
        · skip
          cases hB : Begins x y
          case true =>
            have HR := Lib.hid (show Agree x y = true by unfold Agree; rw [hA, hE1, bne_iff_ne.mpr hx, bne_iff_ne.mpr hy, hB]; simp)
            go_enter Try.func32, Try.ntmps32
            go_wp2_with fail
            rw [← hW]
            clear hW
            refine (spec_Alike (RV.on r1 b0) (RV.on r2 b0)).mono ?_
            rintro e w1 ⟨rfl, hb1⟩
            have b1 := belT b0 hb1 (Nat.le_refl _)
            have p1 := keepC hb1 z0' p0
            have q1 := keepC hb1 z0 q0
            have z1 := Nat.lt_of_lt_of_le z0 hb1.size
            have z1' := Nat.lt_of_lt_of_le z0' hb1.size
            clear p0 q0 z0 z0'
            go_wp2_with fail
            refine (spec_Ends (RV.on r1 b1)).mono ?_
            rintro e w2 ⟨rfl, hb2⟩
            have b2 := belT b1 hb2 (Nat.le_refl _)
            have p2 := keepC hb2 z1' p1
            have q2 := keepC hb2 z1 q1
            have z2 := Nat.lt_of_lt_of_le z1 hb2.size
            have z2' := Nat.lt_of_lt_of_le z1' hb2.size
            clear p1 q1 z1 z1'
            go_wp2_with fail
            refine (spec_Begins (RV.on r1 b2) (RV.on r2 b2)).mono ?_
            rintro e w3 ⟨rfl, hb3⟩
            have b3 := belT b2 hb3 (Nat.le_refl _)
            have p3 := keepC hb3 z2' p2
            have q3 := keepC hb3 z2 q2
            have z3 := Nat.lt_of_lt_of_le z2 hb3.size
            have z3' := Nat.lt_of_lt_of_le z2' hb3.size
            clear p2 q2 z2 z2'
            go_wp2_with fail
            go_ret
            exact ⟨retB (by first | (rw [HR.out]; done) | (rw [HR.out, bne_iff_ne.mpr hx, bne_iff_ne.mpr hy]; done) | (rw [HR.out, bne_iff_ne.mpr hx, bne_iff_ne.mpr hy]; simp) | (rw [HR.out, beq_false_of_ne hx, beq_false_of_ne hy]; done) | (rw [HR.out, beq_false_of_ne hx, beq_false_of_ne hy]; simp)), b3⟩
          case false =>
            have HR := Lib.hid (show Agree x y = Begins y x by unfold Agree; rw [hA, hE1, bne_iff_ne.mpr hx, bne_iff_ne.mpr hy, hB]; simp)
            go_enter Try.func32, Try.ntmps32
            go_wp2_with fail
            rw [← hW]
            clear hW
            refine (spec_Alike (RV.on r1 b0) (RV.on r2 b0)).mono ?_
            rintro e w1 ⟨rfl, hb1⟩
            have b1 := belT b0 hb1 (Nat.le_refl _)
            have p1 := keepC hb1 z0' p0
            have q1 := keepC hb1 z0 q0
            have z1 := Nat.lt_of_lt_of_le z0 hb1.size
            have z1' := Nat.lt_of_lt_of_le z0' hb1.size
            clear p0 q0 z0 z0'
            go_wp2_with fail
            refine (spec_Ends (RV.on r1 b1)).mono ?_
            rintro e w2 ⟨rfl, hb2⟩
            have b2 := belT b1 hb2 (Nat.le_refl _)
            have p2 := keepC hb2 z1' p1
            have q2 := keepC hb2 z1 q1
            have z2 := Nat.lt_of_lt_of_le z1 hb2.size
            have z2' := Nat.lt_of_lt_of_le z1' hb2.size
            clear p1 q1 z1 z1'
            go_wp2_with fail
            refine (spec_Begins (RV.on r1 b2) (RV.on r2 b2)).mono ?_
            rintro e w3 ⟨rfl, hb3⟩
            have b3 := belT b2 hb3 (Nat.le_refl _)
            have p3 := keepC hb3 z2' p2
            have q3 := keepC hb3 z2 q2
            have z3 := Nat.lt_of_lt_of_le z2 hb3.size
            have z3' := Nat.lt_of_lt_of_le z2' hb3.size
            clear p2 q2 z2 z2'
            go_wp2_with fail
            refine (spec_Begins (RV.on r2 b3) (RV.on r1 b3)).mono ?_
            rintro e w4 ⟨rfl, hb4⟩
            have b4 := belT b3 hb4 (Nat.le_refl _)
            have p4 := keepC hb4 z3' p3
            have q4 := keepC hb4 z3 q3
            have z4 := Nat.lt_of_lt_of_le z3 hb4.size
            have z4' := Nat.lt_of_lt_of_le z3' hb4.size
            clear p3 q3 z3 z3'
            go_wp2_with fail
            go_ret
            exact ⟨retB (by first | (rw [HR.out]; done) | (rw [HR.out, bne_iff_ne.mpr hx, bne_iff_ne.mpr hy]; done) | (rw [HR.out, bne_iff_ne.mpr hx, bne_iff_ne.mpr hy]; simp) | (rw [HR.out, beq_false_of_ne hx, beq_false_of_ne hy]; done) | (rw [HR.out, beq_false_of_ne hx, beq_false_of_ne hy]; simp)), b4⟩
    case true =>
      cases hE2 : Ends y
      case true =>
        have HR := Lib.hid (show Agree x y = false by simp [Agree, hA, hE1, hE2])
        go_enter Try.func32, Try.ntmps32
        go_wp2_with fail
        rw [← hW]
        clear hW
        refine (spec_Alike (RV.on r1 b0) (RV.on r2 b0)).mono ?_
        rintro e w1 ⟨rfl, hb1⟩
        have b1 := belT b0 hb1 (Nat.le_refl _)
        have p1 := keepC hb1 z0' p0
        have q1 := keepC hb1 z0 q0
        have z1 := Nat.lt_of_lt_of_le z0 hb1.size
        have z1' := Nat.lt_of_lt_of_le z0' hb1.size
        clear p0 q0 z0 z0'
        go_wp2_with fail
        refine (spec_Ends (RV.on r1 b1)).mono ?_
        rintro e w2 ⟨rfl, hb2⟩
        have b2 := belT b1 hb2 (Nat.le_refl _)
        have p2 := keepC hb2 z1' p1
        have q2 := keepC hb2 z1 q1
        have z2 := Nat.lt_of_lt_of_le z1 hb2.size
        have z2' := Nat.lt_of_lt_of_le z1' hb2.size
        clear p1 q1 z1 z1'
        go_wp2_with fail
        refine (spec_Ends (RV.on r2 b2)).mono ?_
        rintro e w3 ⟨rfl, hb3⟩
        have b3 := belT b2 hb3 (Nat.le_refl _)
        have p3 := keepC hb3 z2' p2
        have q3 := keepC hb3 z2 q2
        have z3 := Nat.lt_of_lt_of_le z2 hb3.size
        have z3' := Nat.lt_of_lt_of_le z2' hb3.size
        clear p2 q2 z2 z2'
        go_wp2_with fail
        go_ret
        exact ⟨retB (by first | (rw [HR.out]; done) | (rw [HR.out, bne_iff_ne.mpr hx, bne_iff_ne.mpr hy]; done) | (rw [HR.out, bne_iff_ne.mpr hx, bne_iff_ne.mpr hy]; simp) | (rw [HR.out, beq_false_of_ne hx, beq_false_of_ne hy]; done) | (rw [HR.out, beq_false_of_ne hx, beq_false_of_ne hy]; simp)), b3⟩
      case false =>
        by_cases hx : x.kind = 4
        · have HR := Lib.hid (show Agree x y = false by simp [Agree, hA, hE1, hE2, hx])
          rw [hx] at r1 p0 hW ⊢
          have HXx := Lib.hid hx; clear hx h1 h2
          go_enter Try.func32, Try.ntmps32
          go_wp2_with fail
          rw [← hW]
          clear hW
          refine (spec_Alike (RV.on r1 b0) (RV.on r2 b0)).mono ?_
          rintro e w1 ⟨rfl, hb1⟩
          have b1 := belT b0 hb1 (Nat.le_refl _)
          have p1 := keepC hb1 z0' p0
          have q1 := keepC hb1 z0 q0
          have z1 := Nat.lt_of_lt_of_le z0 hb1.size
          have z1' := Nat.lt_of_lt_of_le z0' hb1.size
          clear p0 q0 z0 z0'
          go_wp2_with fail
          refine (spec_Ends (RV.on r1 b1)).mono ?_
          rintro e w2 ⟨rfl, hb2⟩
          have b2 := belT b1 hb2 (Nat.le_refl _)
          have p2 := keepC hb2 z1' p1
          have q2 := keepC hb2 z1 q1
          have z2 := Nat.lt_of_lt_of_le z1 hb2.size
          have z2' := Nat.lt_of_lt_of_le z1' hb2.size
          clear p1 q1 z1 z1'
          go_wp2_with fail
          refine (spec_Ends (RV.on r2 b2)).mono ?_
          rintro e w3 ⟨rfl, hb3⟩
          have b3 := belT b2 hb3 (Nat.le_refl _)
          have p3 := keepC hb3 z2' p2
          have q3 := keepC hb3 z2 q2
          have z3 := Nat.lt_of_lt_of_le z2 hb3.size
          have z3' := Nat.lt_of_lt_of_le z2' hb3.size
          clear p2 q2 z2 z2'
          go_wp2_with fail
          go_ret
          exact ⟨retB (by first | (rw [HR.out]; done) | (rw [HR.out, bne_iff_ne.mpr hx, bne_iff_ne.mpr hy]; done) | (rw [HR.out, bne_iff_ne.mpr hx, bne_iff_ne.mpr hy]; simp) | (rw [HR.out, beq_false_of_ne hx, beq_false_of_ne hy]; done) | (rw [HR.out, beq_false_of_ne hx, beq_false_of_ne hy]; simp)), b3⟩
        · skip
          by_cases hy : y.kind = 4
          · have HR := Lib.hid (show Agree x y = false by simp [Agree, hA, hE1, hE2, hy])
            rw [hy] at r2 q0 hW ⊢
            have HXy := Lib.hid hy; clear hy h1 h2
            go_enter Try.func32, Try.ntmps32
            go_wp2_with fail
            rw [← hW]
            clear hW
            refine (spec_Alike (RV.on r1 b0) (RV.on r2 b0)).mono ?_
            rintro e w1 ⟨rfl, hb1⟩
            have b1 := belT b0 hb1 (Nat.le_refl _)
            have p1 := keepC hb1 z0' p0
            have q1 := keepC hb1 z0 q0
            have z1 := Nat.lt_of_lt_of_le z0 hb1.size
            have z1' := Nat.lt_of_lt_of_le z0' hb1.size
            clear p0 q0 z0 z0'
            go_wp2_with fail
            refine (spec_Ends (RV.on r1 b1)).mono ?_
            rintro e w2 ⟨rfl, hb2⟩
            have b2 := belT b1 hb2 (Nat.le_refl _)
            have p2 := keepC hb2 z1' p1
            have q2 := keepC hb2 z1 q1
            have z2 := Nat.lt_of_lt_of_le z1 hb2.size
            have z2' := Nat.lt_of_lt_of_le z1' hb2.size
            clear p1 q1 z1 z1'
            go_wp2_with fail
            refine (spec_Ends (RV.on r2 b2)).mono ?_
            rintro e w3 ⟨rfl, hb3⟩
            have b3 := belT b2 hb3 (Nat.le_refl _)
            have p3 := keepC hb3 z2' p2
            have q3 := keepC hb3 z2 q2
            have z3 := Nat.lt_of_lt_of_le z2 hb3.size
            have z3' := Nat.lt_of_lt_of_le z2' hb3.size
            clear p2 q2 z2 z2'
            go_wp2_with fail
            go_ret
            exact ⟨retB (by first | (rw [HR.out]; done) | (rw [HR.out, bne_iff_ne.mpr hx, bne_iff_ne.mpr hy]; done) | (rw [HR.out, bne_iff_ne.mpr hx, bne_iff_ne.mpr hy]; simp) | (rw [HR.out, beq_false_of_ne hx, beq_false_of_ne hy]; done) | (rw [HR.out, beq_false_of_ne hx, beq_false_of_ne hy]; simp)), b3⟩
          · skip
            cases hB : Begins x y
            case true =>
              have HR := Lib.hid (show Agree x y = true by unfold Agree; rw [hA, hE1, hE2, bne_iff_ne.mpr hx, bne_iff_ne.mpr hy, hB]; simp)
              go_enter Try.func32, Try.ntmps32
              go_wp2_with fail
              rw [← hW]
              clear hW
              refine (spec_Alike (RV.on r1 b0) (RV.on r2 b0)).mono ?_
              rintro e w1 ⟨rfl, hb1⟩
              have b1 := belT b0 hb1 (Nat.le_refl _)
              have p1 := keepC hb1 z0' p0
              have q1 := keepC hb1 z0 q0
              have z1 := Nat.lt_of_lt_of_le z0 hb1.size
              have z1' := Nat.lt_of_lt_of_le z0' hb1.size
              clear p0 q0 z0 z0'
              go_wp2_with fail
              refine (spec_Ends (RV.on r1 b1)).mono ?_
              rintro e w2 ⟨rfl, hb2⟩
              have b2 := belT b1 hb2 (Nat.le_refl _)
              have p2 := keepC hb2 z1' p1
              have q2 := keepC hb2 z1 q1
              have z2 := Nat.lt_of_lt_of_le z1 hb2.size
              have z2' := Nat.lt_of_lt_of_le z1' hb2.size
              clear p1 q1 z1 z1'
              go_wp2_with fail
              refine (spec_Ends (RV.on r2 b2)).mono ?_
              rintro e w3 ⟨rfl, hb3⟩
              have b3 := belT b2 hb3 (Nat.le_refl _)
              have p3 := keepC hb3 z2' p2
              have q3 := keepC hb3 z2 q2
              have z3 := Nat.lt_of_lt_of_le z2 hb3.size
              have z3' := Nat.lt_of_lt_of_le z2' hb3.size
              clear p2 q2 z2 z2'
              go_wp2_with fail
              refine (spec_Begins (RV.on r1 b3) (RV.on r2 b3)).mono ?_
              rintro e w4 ⟨rfl, hb4⟩
              have b4 := belT b3 hb4 (Nat.le_refl _)
              have p4 := keepC hb4 z3' p3
              have q4 := keepC hb4 z3 q3
              have z4 := Nat.lt_of_lt_of_le z3 hb4.size
              have z4' := Nat.lt_of_lt_of_le z3' hb4.size
              clear p3 q3 z3 z3'
              go_wp2_with fail
              go_ret
              exact ⟨retB (by first | (rw [HR.out]; done) | (rw [HR.out, bne_iff_ne.mpr hx, bne_iff_ne.mpr hy]; done) | (rw [HR.out, bne_iff_ne.mpr hx, bne_iff_ne.mpr hy]; simp) | (rw [HR.out, beq_false_of_ne hx, beq_false_of_ne hy]; done) | (rw [HR.out, beq_false_of_ne hx, beq_false_of_ne hy]; simp)), b4⟩
            case false =>
              have HR := Lib.hid (show Agree x y = Begins y x by unfold Agree; rw [hA, hE1, hE2, bne_iff_ne.mpr hx, bne_iff_ne.mpr hy, hB]; simp)
              go_enter Try.func32, Try.ntmps32
              go_wp2_with fail
              rw [← hW]
              clear hW
              refine (spec_Alike (RV.on r1 b0) (RV.on r2 b0)).mono ?_
              rintro e w1 ⟨rfl, hb1⟩
              have b1 := belT b0 hb1 (Nat.le_refl _)
              have p1 := keepC hb1 z0' p0
              have q1 := keepC hb1 z0 q0
              have z1 := Nat.lt_of_lt_of_le z0 hb1.size
              have z1' := Nat.lt_of_lt_of_le z0' hb1.size
              clear p0 q0 z0 z0'
              go_wp2_with fail
              refine (spec_Ends (RV.on r1 b1)).mono ?_
              rintro e w2 ⟨rfl, hb2⟩
              have b2 := belT b1 hb2 (Nat.le_refl _)
              have p2 := keepC hb2 z1' p1
              have q2 := keepC hb2 z1 q1
              have z2 := Nat.lt_of_lt_of_le z1 hb2.size
              have z2' := Nat.lt_of_lt_of_le z1' hb2.size
              clear p1 q1 z1 z1'
              go_wp2_with fail
              refine (spec_Ends (RV.on r2 b2)).mono ?_
              rintro e w3 ⟨rfl, hb3⟩
              have b3 := belT b2 hb3 (Nat.le_refl _)
              have p3 := keepC hb3 z2' p2
              have q3 := keepC hb3 z2 q2
              have z3 := Nat.lt_of_lt_of_le z2 hb3.size
              have z3' := Nat.lt_of_lt_of_le z2' hb3.size
              clear p2 q2 z2 z2'
              go_wp2_with fail
              refine (spec_Begins (RV.on r1 b3) (RV.on r2 b3)).mono ?_
              rintro e w4 ⟨rfl, hb4⟩
              have b4 := belT b3 hb4 (Nat.le_refl _)
              have p4 := keepC hb4 z3' p3
              have q4 := keepC hb4 z3 q3
              have z4 := Nat.lt_of_lt_of_le z3 hb4.size
              have z4' := Nat.lt_of_lt_of_le z3' hb4.size
              clear p3 q3 z3 z3'
              go_wp2_with fail
              refine (spec_Begins (RV.on r2 b4) (RV.on r1 b4)).mono ?_
              rintro e w5 ⟨rfl, hb5⟩
              have b5 := belT b4 hb5 (Nat.le_refl _)
              have p5 := keepC hb5 z4' p4
              have q5 := keepC hb5 z4 q4
              have z5 := Nat.lt_of_lt_of_le z4 hb5.size
              have z5' := Nat.lt_of_lt_of_le z4' hb5.size
              clear p4 q4 z4 z4'
              go_wp2_with fail
              go_ret
              exact ⟨retB (by first | (rw [HR.out]; done) | (rw [HR.out, bne_iff_ne.mpr hx, bne_iff_ne.mpr hy]; done) | (rw [HR.out, bne_iff_ne.mpr hx, bne_iff_ne.mpr hy]; simp) | (rw [HR.out, beq_false_of_ne hx, beq_false_of_ne hy]; done) | (rw [HR.out, beq_false_of_ne hx, beq_false_of_ne hy]; simp)), b5⟩

set_option maxHeartbeats 8000000 in
theorem impl_Agree {w : World} {cs1 cs2 : List Value} {x y : Outcome} (h1 : RV w cs1 x) (h2 : RV w cs2 y) :
    Calls Try.prog 33 #[.agg cs1.toArray, .agg cs2.toArray] w fun e w' => e = .returned (.bool (Agree x y)) ∧ Below w.heap.size w w' := by
  have r1 := h1
  have r2 := h2
  obtain ⟨a1, c1, rfl, _⟩ := Outcome.form h1
  obtain ⟨a2, c2, rfl, _⟩ := Outcome.form h2
  obtain ⟨W, hW⟩ : ∃ W, W = (w.alloc (Obj.cells #[Value.int .i64 x.kind, Value.int .i64 x.n, Value.slice a1 x.trace.length c1, Value.int .i64 x.steps] 42)).alloc (Obj.cells #[Value.int .i64 y.kind, Value.int .i64 y.n, Value.slice a2 y.trace.length c2, Value.int .i64 y.steps] 42) := ⟨_, rfl⟩
  have b0 : Below w.heap.size w W := by rw [hW]; exact belA (belA (bel0 _) (Nat.le_refl _) _) (Nat.le_refl _) _
  have z0 : w.heap.size + 1 < W.heap.size := by rw [hW]; simp
  have p0 : ∀ j, W.cell? ⟨w.heap.size, j, none⟩ = (#[Value.int .i64 x.kind, Value.int .i64 x.n, Value.slice a1 x.trace.length c1, Value.int .i64 x.steps]).toList[j]? := by rw [hW]; exact keepC (belA (bel0 _) (Nat.le_refl _) _) (by simp) (Blk.new w 42 #[Value.int .i64 x.kind, Value.int .i64 x.n, Value.slice a1 x.trace.length c1, Value.int .i64 x.steps]).cells
  have q0 : ∀ j, W.cell? ⟨w.heap.size + 1, j, none⟩ = (#[Value.int .i64 y.kind, Value.int .i64 y.n, Value.slice a2 y.trace.length c2, Value.int .i64 y.steps]).toList[j]? := by rw [hW]; have := (Blk.new (w.alloc (Obj.cells #[Value.int .i64 x.kind, Value.int .i64 x.n, Value.slice a1 x.trace.length c1, Value.int .i64 x.steps] 42)) 42 #[Value.int .i64 y.kind, Value.int .i64 y.n, Value.slice a2 y.trace.length c2, Value.int .i64 y.steps]).cells; simpa only [World.size_alloc] using this
  have z0' : w.heap.size < W.heap.size := by omega
  cases hA : Alike x y
  case true =>
    have HR := Lib.hid (show Agree x y = true by simp [Agree, hA])
    go_enter Try.func33, Try.ntmps33
    go_wp2_with fail
    rw [← hW]
    clear hW
    refine (impl_Alike (RV.on r1 b0) (RV.on r2 b0)).mono ?_
    rintro e w1 ⟨rfl, hb1⟩
    have b1 := belT b0 hb1 (Nat.le_refl _)
    have p1 := keepC hb1 z0' p0
    have q1 := keepC hb1 z0 q0
    have z1 := Nat.lt_of_lt_of_le z0 hb1.size
    have z1' := Nat.lt_of_lt_of_le z0' hb1.size
    clear p0 q0 z0 z0'
    go_wp2_with fail
    go_ret
    exact ⟨retB (by first | (rw [HR.out]; done) | (rw [HR.out, bne_iff_ne.mpr hx, bne_iff_ne.mpr hy]; done) | (rw [HR.out, bne_iff_ne.mpr hx, bne_iff_ne.mpr hy]; simp) | (rw [HR.out, beq_false_of_ne hx, beq_false_of_ne hy]; done) | (rw [HR.out, beq_false_of_ne hx, beq_false_of_ne hy]; simp)), b1⟩
  case false =>
    cases hE1 : Ends x
    case false =>
      by_cases hx : x.kind = 4
      · have HR := Lib.hid (show Agree x y = false by simp [Agree, hA, hE1, hx])
        rw [hx] at r1 p0 hW ⊢
        have HXx := Lib.hid hx; clear hx h1 h2
        go_enter Try.func33, Try.ntmps33
        go_wp2_with fail
        rw [← hW]
        clear hW
        refine (impl_Alike (RV.on r1 b0) (RV.on r2 b0)).mono ?_
        rintro e w1 ⟨rfl, hb1⟩
        have b1 := belT b0 hb1 (Nat.le_refl _)
        have p1 := keepC hb1 z0' p0
        have q1 := keepC hb1 z0 q0
        have z1 := Nat.lt_of_lt_of_le z0 hb1.size
        have z1' := Nat.lt_of_lt_of_le z0' hb1.size
        clear p0 q0 z0 z0'
        go_wp2_with fail
        obtain ⟨w2, hv⟩ : ∃ v, v = w1.alloc (Obj.cells #[Value.int .i64 4, Value.int .i64 y.kind] 3) := ⟨_, rfl⟩
        rw [← hv]
        have hb2 : Below w1.heap.size w1 w2 := by rw [hv]; exact belA (bel0 _) (Nat.le_refl _) _
        have sc := (Blk.new w1 3 #[Value.int .i64 4, Value.int .i64 y.kind]).cells
        rw [← hv] at sc
        have zs : w1.heap.size < w2.heap.size := by rw [hv]; simp
        clear hv
        have b2 := belT b1 hb2 (Nat.le_refl _)
        have p2 := keepC hb2 z1' p1
        have q2 := keepC hb2 z1 q1
        have z2 := Nat.lt_of_lt_of_le z1 hb2.size
        have z2' := Nat.lt_of_lt_of_le z1' hb2.size
        clear p1 q1 z1 z1'
        refine (impl_Ends (RV.on r1 b2)).mono ?_
        rintro e w3 ⟨rfl, hb3⟩
        have b3 := belT b2 hb3 (Nat.le_refl _)
        have p3 := keepC hb3 z2' p2
        have q3 := keepC hb3 z2 q2
        have z3 := Nat.lt_of_lt_of_le z2 hb3.size
        have z3' := Nat.lt_of_lt_of_le z2' hb3.size
        clear p2 q2 z2 z2'
        replace sc := keepC hb3 zs sc
        replace zs := Nat.lt_of_lt_of_le zs hb3.size
        go_wp2_with fail
        refine (impl_Contains2 zs _ _ _ _ (sc 0) (sc 1)).mono ?_
        rintro e w4 ⟨rfl, hb4⟩
        have b4 := belT b3 hb4 (Nat.le_refl _)
        have p4 := keepC hb4 z3' p3
        have q4 := keepC hb4 z3 q3
        have z4 := Nat.lt_of_lt_of_le z3 hb4.size
        have z4' := Nat.lt_of_lt_of_le z3' hb4.size
        clear p3 q3 z3 z3'
        replace sc := keepC hb4 zs sc
        replace zs := Nat.lt_of_lt_of_le zs hb4.size
        go_wp2_with fail
        go_ret
        exact ⟨retB (by first | (rw [HR.out]; done) | (rw [HR.out, bne_iff_ne.mpr hx, bne_iff_ne.mpr hy]; done) | (rw [HR.out, bne_iff_ne.mpr hx, bne_iff_ne.mpr hy]; simp) | (rw [HR.out, beq_false_of_ne hx, beq_false_of_ne hy]; done) | (rw [HR.out, beq_false_of_ne hx, beq_false_of_ne hy]; simp)), b4⟩
      · skip
        by_cases hy : y.kind = 4
        · have HR := Lib.hid (show Agree x y = false by simp [Agree, hA, hE1, hy])
          rw [hy] at r2 q0 hW ⊢
          have HXy := Lib.hid hy; clear hy h1 h2
          go_enter Try.func33, Try.ntmps33
          go_wp2_with fail
          rw [← hW]
          clear hW
          refine (impl_Alike (RV.on r1 b0) (RV.on r2 b0)).mono ?_
          rintro e w1 ⟨rfl, hb1⟩
          have b1 := belT b0 hb1 (Nat.le_refl _)
          have p1 := keepC hb1 z0' p0
          have q1 := keepC hb1 z0 q0
          have z1 := Nat.lt_of_lt_of_le z0 hb1.size
          have z1' := Nat.lt_of_lt_of_le z0' hb1.size
          clear p0 q0 z0 z0'
          go_wp2_with fail
          obtain ⟨w2, hv⟩ : ∃ v, v = w1.alloc (Obj.cells #[Value.int .i64 x.kind, Value.int .i64 4] 3) := ⟨_, rfl⟩
          rw [← hv]
          have hb2 : Below w1.heap.size w1 w2 := by rw [hv]; exact belA (bel0 _) (Nat.le_refl _) _
          have sc := (Blk.new w1 3 #[Value.int .i64 x.kind, Value.int .i64 4]).cells
          rw [← hv] at sc
          have zs : w1.heap.size < w2.heap.size := by rw [hv]; simp
          clear hv
          have b2 := belT b1 hb2 (Nat.le_refl _)
          have p2 := keepC hb2 z1' p1
          have q2 := keepC hb2 z1 q1
          have z2 := Nat.lt_of_lt_of_le z1 hb2.size
          have z2' := Nat.lt_of_lt_of_le z1' hb2.size
          clear p1 q1 z1 z1'
          refine (impl_Ends (RV.on r1 b2)).mono ?_
          rintro e w3 ⟨rfl, hb3⟩
          have b3 := belT b2 hb3 (Nat.le_refl _)
          have p3 := keepC hb3 z2' p2
          have q3 := keepC hb3 z2 q2
          have z3 := Nat.lt_of_lt_of_le z2 hb3.size
          have z3' := Nat.lt_of_lt_of_le z2' hb3.size
          clear p2 q2 z2 z2'
          replace sc := keepC hb3 zs sc
          replace zs := Nat.lt_of_lt_of_le zs hb3.size
          go_wp2_with fail
          refine (impl_Contains2 zs _ _ _ _ (sc 0) (sc 1)).mono ?_
          rintro e w4 ⟨rfl, hb4⟩
          have b4 := belT b3 hb4 (Nat.le_refl _)
          have p4 := keepC hb4 z3' p3
          have q4 := keepC hb4 z3 q3
          have z4 := Nat.lt_of_lt_of_le z3 hb4.size
          have z4' := Nat.lt_of_lt_of_le z3' hb4.size
          clear p3 q3 z3 z3'
          replace sc := keepC hb4 zs sc
          replace zs := Nat.lt_of_lt_of_le zs hb4.size
          go_wp2_with fail
          go_ret
          exact ⟨retB (by first | (rw [HR.out]; done) | (rw [HR.out, bne_iff_ne.mpr hx, bne_iff_ne.mpr hy]; done) | (rw [HR.out, bne_iff_ne.mpr hx, bne_iff_ne.mpr hy]; simp) | (rw [HR.out, beq_false_of_ne hx, beq_false_of_ne hy]; done) | (rw [HR.out, beq_false_of_ne hx, beq_false_of_ne hy]; simp)), b4⟩
        · skip
          cases hB : Begins x y
          case true =>
            have HR := Lib.hid (show Agree x y = true by unfold Agree; rw [hA, hE1, bne_iff_ne.mpr hx, bne_iff_ne.mpr hy, hB]; simp)
            go_enter Try.func33, Try.ntmps33
            go_wp2_with fail
            rw [← hW]
            clear hW
            refine (impl_Alike (RV.on r1 b0) (RV.on r2 b0)).mono ?_
            rintro e w1 ⟨rfl, hb1⟩
            have b1 := belT b0 hb1 (Nat.le_refl _)
            have p1 := keepC hb1 z0' p0
            have q1 := keepC hb1 z0 q0
            have z1 := Nat.lt_of_lt_of_le z0 hb1.size
            have z1' := Nat.lt_of_lt_of_le z0' hb1.size
            clear p0 q0 z0 z0'
            go_wp2_with fail
            obtain ⟨w2, hv⟩ : ∃ v, v = w1.alloc (Obj.cells #[Value.int .i64 x.kind, Value.int .i64 y.kind] 3) := ⟨_, rfl⟩
            rw [← hv]
            have hb2 : Below w1.heap.size w1 w2 := by rw [hv]; exact belA (bel0 _) (Nat.le_refl _) _
            have sc := (Blk.new w1 3 #[Value.int .i64 x.kind, Value.int .i64 y.kind]).cells
            rw [← hv] at sc
            have zs : w1.heap.size < w2.heap.size := by rw [hv]; simp
            clear hv
            have b2 := belT b1 hb2 (Nat.le_refl _)
            have p2 := keepC hb2 z1' p1
            have q2 := keepC hb2 z1 q1
            have z2 := Nat.lt_of_lt_of_le z1 hb2.size
            have z2' := Nat.lt_of_lt_of_le z1' hb2.size
            clear p1 q1 z1 z1'
            refine (impl_Ends (RV.on r1 b2)).mono ?_
            rintro e w3 ⟨rfl, hb3⟩
            have b3 := belT b2 hb3 (Nat.le_refl _)
            have p3 := keepC hb3 z2' p2
            have q3 := keepC hb3 z2 q2
            have z3 := Nat.lt_of_lt_of_le z2 hb3.size
            have z3' := Nat.lt_of_lt_of_le z2' hb3.size
            clear p2 q2 z2 z2'
            replace sc := keepC hb3 zs sc
            replace zs := Nat.lt_of_lt_of_le zs hb3.size
            go_wp2_with fail
            refine (impl_Contains2 zs _ _ _ _ (sc 0) (sc 1)).mono ?_
            rintro e w4 ⟨rfl, hb4⟩
            have b4 := belT b3 hb4 (Nat.le_refl _)
            have p4 := keepC hb4 z3' p3
            have q4 := keepC hb4 z3 q3
            have z4 := Nat.lt_of_lt_of_le z3 hb4.size
            have z4' := Nat.lt_of_lt_of_le z3' hb4.size
            clear p3 q3 z3 z3'
            replace sc := keepC hb4 zs sc
            replace zs := Nat.lt_of_lt_of_le zs hb4.size
            go_wp2_with fail
            refine (impl_Begins (RV.on r1 b4) (RV.on r2 b4)).mono ?_
            rintro e w5 ⟨rfl, hb5⟩
            have b5 := belT b4 hb5 (Nat.le_refl _)
            have p5 := keepC hb5 z4' p4
            have q5 := keepC hb5 z4 q4
            have z5 := Nat.lt_of_lt_of_le z4 hb5.size
            have z5' := Nat.lt_of_lt_of_le z4' hb5.size
            clear p4 q4 z4 z4'
            replace sc := keepC hb5 zs sc
            replace zs := Nat.lt_of_lt_of_le zs hb5.size
            go_wp2_with fail
            go_ret
            exact ⟨retB (by first | (rw [HR.out]; done) | (rw [HR.out, bne_iff_ne.mpr hx, bne_iff_ne.mpr hy]; done) | (rw [HR.out, bne_iff_ne.mpr hx, bne_iff_ne.mpr hy]; simp) | (rw [HR.out, beq_false_of_ne hx, beq_false_of_ne hy]; done) | (rw [HR.out, beq_false_of_ne hx, beq_false_of_ne hy]; simp)), b5⟩
          case false =>
            have HR := Lib.hid (show Agree x y = Begins y x by unfold Agree; rw [hA, hE1, bne_iff_ne.mpr hx, bne_iff_ne.mpr hy, hB]; simp)
            go_enter Try.func33, Try.ntmps33
            go_wp2_with fail
            rw [← hW]
            clear hW
            refine (impl_Alike (RV.on r1 b0) (RV.on r2 b0)).mono ?_
            rintro e w1 ⟨rfl, hb1⟩
            have b1 := belT b0 hb1 (Nat.le_refl _)
            have p1 := keepC hb1 z0' p0
            have q1 := keepC hb1 z0 q0
            have z1 := Nat.lt_of_lt_of_le z0 hb1.size
            have z1' := Nat.lt_of_lt_of_le z0' hb1.size
            clear p0 q0 z0 z0'
            go_wp2_with fail
            obtain ⟨w2, hv⟩ : ∃ v, v = w1.alloc (Obj.cells #[Value.int .i64 x.kind, Value.int .i64 y.kind] 3) := ⟨_, rfl⟩
            rw [← hv]
            have hb2 : Below w1.heap.size w1 w2 := by rw [hv]; exact belA (bel0 _) (Nat.le_refl _) _
            have sc := (Blk.new w1 3 #[Value.int .i64 x.kind, Value.int .i64 y.kind]).cells
            rw [← hv] at sc
            have zs : w1.heap.size < w2.heap.size := by rw [hv]; simp
            clear hv
            have b2 := belT b1 hb2 (Nat.le_refl _)
            have p2 := keepC hb2 z1' p1
            have q2 := keepC hb2 z1 q1
            have z2 := Nat.lt_of_lt_of_le z1 hb2.size
            have z2' := Nat.lt_of_lt_of_le z1' hb2.size
            clear p1 q1 z1 z1'
            refine (impl_Ends (RV.on r1 b2)).mono ?_
            rintro e w3 ⟨rfl, hb3⟩
            have b3 := belT b2 hb3 (Nat.le_refl _)
            have p3 := keepC hb3 z2' p2
            have q3 := keepC hb3 z2 q2
            have z3 := Nat.lt_of_lt_of_le z2 hb3.size
            have z3' := Nat.lt_of_lt_of_le z2' hb3.size
            clear p2 q2 z2 z2'
            replace sc := keepC hb3 zs sc
            replace zs := Nat.lt_of_lt_of_le zs hb3.size
            go_wp2_with fail
            refine (impl_Contains2 zs _ _ _ _ (sc 0) (sc 1)).mono ?_
            rintro e w4 ⟨rfl, hb4⟩
            have b4 := belT b3 hb4 (Nat.le_refl _)
            have p4 := keepC hb4 z3' p3
            have q4 := keepC hb4 z3 q3
            have z4 := Nat.lt_of_lt_of_le z3 hb4.size
            have z4' := Nat.lt_of_lt_of_le z3' hb4.size
            clear p3 q3 z3 z3'
            replace sc := keepC hb4 zs sc
            replace zs := Nat.lt_of_lt_of_le zs hb4.size
            go_wp2_with fail
            refine (impl_Begins (RV.on r1 b4) (RV.on r2 b4)).mono ?_
            rintro e w5 ⟨rfl, hb5⟩
            have b5 := belT b4 hb5 (Nat.le_refl _)
            have p5 := keepC hb5 z4' p4
            have q5 := keepC hb5 z4 q4
            have z5 := Nat.lt_of_lt_of_le z4 hb5.size
            have z5' := Nat.lt_of_lt_of_le z4' hb5.size
            clear p4 q4 z4 z4'
            replace sc := keepC hb5 zs sc
            replace zs := Nat.lt_of_lt_of_le zs hb5.size
            go_wp2_with fail
            refine (impl_Begins (RV.on r2 b5) (RV.on r1 b5)).mono ?_
            rintro e w6 ⟨rfl, hb6⟩
            have b6 := belT b5 hb6 (Nat.le_refl _)
            have p6 := keepC hb6 z5' p5
            have q6 := keepC hb6 z5 q5
            have z6 := Nat.lt_of_lt_of_le z5 hb6.size
            have z6' := Nat.lt_of_lt_of_le z5' hb6.size
            clear p5 q5 z5 z5'
            replace sc := keepC hb6 zs sc
            replace zs := Nat.lt_of_lt_of_le zs hb6.size
            go_wp2_with fail
            go_ret
            exact ⟨retB (by first | (rw [HR.out]; done) | (rw [HR.out, bne_iff_ne.mpr hx, bne_iff_ne.mpr hy]; done) | (rw [HR.out, bne_iff_ne.mpr hx, bne_iff_ne.mpr hy]; simp) | (rw [HR.out, beq_false_of_ne hx, beq_false_of_ne hy]; done) | (rw [HR.out, beq_false_of_ne hx, beq_false_of_ne hy]; simp)), b6⟩
    case true =>
      cases hE2 : Ends y
      case true =>
        have HR := Lib.hid (show Agree x y = false by simp [Agree, hA, hE1, hE2])
        go_enter Try.func33, Try.ntmps33
        go_wp2_with fail
        rw [← hW]
        clear hW
        refine (impl_Alike (RV.on r1 b0) (RV.on r2 b0)).mono ?_
        rintro e w1 ⟨rfl, hb1⟩
        have b1 := belT b0 hb1 (Nat.le_refl _)
        have p1 := keepC hb1 z0' p0
        have q1 := keepC hb1 z0 q0
        have z1 := Nat.lt_of_lt_of_le z0 hb1.size
        have z1' := Nat.lt_of_lt_of_le z0' hb1.size
        clear p0 q0 z0 z0'
        go_wp2_with fail
        obtain ⟨w2, hv⟩ : ∃ v, v = w1.alloc (Obj.cells #[Value.int .i64 x.kind, Value.int .i64 y.kind] 3) := ⟨_, rfl⟩
        rw [← hv]
        have hb2 : Below w1.heap.size w1 w2 := by rw [hv]; exact belA (bel0 _) (Nat.le_refl _) _
        have sc := (Blk.new w1 3 #[Value.int .i64 x.kind, Value.int .i64 y.kind]).cells
        rw [← hv] at sc
        have zs : w1.heap.size < w2.heap.size := by rw [hv]; simp
        clear hv
        have b2 := belT b1 hb2 (Nat.le_refl _)
        have p2 := keepC hb2 z1' p1
        have q2 := keepC hb2 z1 q1
        have z2 := Nat.lt_of_lt_of_le z1 hb2.size
        have z2' := Nat.lt_of_lt_of_le z1' hb2.size
        clear p1 q1 z1 z1'
        refine (impl_Ends (RV.on r1 b2)).mono ?_
        rintro e w3 ⟨rfl, hb3⟩
        have b3 := belT b2 hb3 (Nat.le_refl _)
        have p3 := keepC hb3 z2' p2
        have q3 := keepC hb3 z2 q2
        have z3 := Nat.lt_of_lt_of_le z2 hb3.size
        have z3' := Nat.lt_of_lt_of_le z2' hb3.size
        clear p2 q2 z2 z2'
        replace sc := keepC hb3 zs sc
        replace zs := Nat.lt_of_lt_of_le zs hb3.size
        go_wp2_with fail
        refine (impl_Ends (RV.on r2 b3)).mono ?_
        rintro e w4 ⟨rfl, hb4⟩
        have b4 := belT b3 hb4 (Nat.le_refl _)
        have p4 := keepC hb4 z3' p3
        have q4 := keepC hb4 z3 q3
        have z4 := Nat.lt_of_lt_of_le z3 hb4.size
        have z4' := Nat.lt_of_lt_of_le z3' hb4.size
        clear p3 q3 z3 z3'
        replace sc := keepC hb4 zs sc
        replace zs := Nat.lt_of_lt_of_le zs hb4.size
        go_wp2_with fail
        go_ret
        exact ⟨retB (by first | (rw [HR.out]; done) | (rw [HR.out, bne_iff_ne.mpr hx, bne_iff_ne.mpr hy]; done) | (rw [HR.out, bne_iff_ne.mpr hx, bne_iff_ne.mpr hy]; simp) | (rw [HR.out, beq_false_of_ne hx, beq_false_of_ne hy]; done) | (rw [HR.out, beq_false_of_ne hx, beq_false_of_ne hy]; simp)), b4⟩
      case false =>
        by_cases hx : x.kind = 4
        · have HR := Lib.hid (show Agree x y = false by simp [Agree, hA, hE1, hE2, hx])
          rw [hx] at r1 p0 hW ⊢
          have HXx := Lib.hid hx; clear hx h1 h2
          go_enter Try.func33, Try.ntmps33
          go_wp2_with fail
          rw [← hW]
          clear hW
          refine (impl_Alike (RV.on r1 b0) (RV.on r2 b0)).mono ?_
          rintro e w1 ⟨rfl, hb1⟩
          have b1 := belT b0 hb1 (Nat.le_refl _)
          have p1 := keepC hb1 z0' p0
          have q1 := keepC hb1 z0 q0
          have z1 := Nat.lt_of_lt_of_le z0 hb1.size
          have z1' := Nat.lt_of_lt_of_le z0' hb1.size
          clear p0 q0 z0 z0'
          go_wp2_with fail
          obtain ⟨w2, hv⟩ : ∃ v, v = w1.alloc (Obj.cells #[Value.int .i64 4, Value.int .i64 y.kind] 3) := ⟨_, rfl⟩
          rw [← hv]
          have hb2 : Below w1.heap.size w1 w2 := by rw [hv]; exact belA (bel0 _) (Nat.le_refl _) _
          have sc := (Blk.new w1 3 #[Value.int .i64 4, Value.int .i64 y.kind]).cells
          rw [← hv] at sc
          have zs : w1.heap.size < w2.heap.size := by rw [hv]; simp
          clear hv
          have b2 := belT b1 hb2 (Nat.le_refl _)
          have p2 := keepC hb2 z1' p1
          have q2 := keepC hb2 z1 q1
          have z2 := Nat.lt_of_lt_of_le z1 hb2.size
          have z2' := Nat.lt_of_lt_of_le z1' hb2.size
          clear p1 q1 z1 z1'
          refine (impl_Ends (RV.on r1 b2)).mono ?_
          rintro e w3 ⟨rfl, hb3⟩
          have b3 := belT b2 hb3 (Nat.le_refl _)
          have p3 := keepC hb3 z2' p2
          have q3 := keepC hb3 z2 q2
          have z3 := Nat.lt_of_lt_of_le z2 hb3.size
          have z3' := Nat.lt_of_lt_of_le z2' hb3.size
          clear p2 q2 z2 z2'
          replace sc := keepC hb3 zs sc
          replace zs := Nat.lt_of_lt_of_le zs hb3.size
          go_wp2_with fail
          refine (impl_Ends (RV.on r2 b3)).mono ?_
          rintro e w4 ⟨rfl, hb4⟩
          have b4 := belT b3 hb4 (Nat.le_refl _)
          have p4 := keepC hb4 z3' p3
          have q4 := keepC hb4 z3 q3
          have z4 := Nat.lt_of_lt_of_le z3 hb4.size
          have z4' := Nat.lt_of_lt_of_le z3' hb4.size
          clear p3 q3 z3 z3'
          replace sc := keepC hb4 zs sc
          replace zs := Nat.lt_of_lt_of_le zs hb4.size
          go_wp2_with fail
          refine (impl_Contains2 zs _ _ _ _ (sc 0) (sc 1)).mono ?_
          rintro e w5 ⟨rfl, hb5⟩
          have b5 := belT b4 hb5 (Nat.le_refl _)
          have p5 := keepC hb5 z4' p4
          have q5 := keepC hb5 z4 q4
          have z5 := Nat.lt_of_lt_of_le z4 hb5.size
          have z5' := Nat.lt_of_lt_of_le z4' hb5.size
          clear p4 q4 z4 z4'
          replace sc := keepC hb5 zs sc
          replace zs := Nat.lt_of_lt_of_le zs hb5.size
          go_wp2_with fail
          go_ret
          exact ⟨retB (by first | (rw [HR.out]; done) | (rw [HR.out, bne_iff_ne.mpr hx, bne_iff_ne.mpr hy]; done) | (rw [HR.out, bne_iff_ne.mpr hx, bne_iff_ne.mpr hy]; simp) | (rw [HR.out, beq_false_of_ne hx, beq_false_of_ne hy]; done) | (rw [HR.out, beq_false_of_ne hx, beq_false_of_ne hy]; simp)), b5⟩
        · skip
          by_cases hy : y.kind = 4
          · have HR := Lib.hid (show Agree x y = false by simp [Agree, hA, hE1, hE2, hy])
            rw [hy] at r2 q0 hW ⊢
            have HXy := Lib.hid hy; clear hy h1 h2
            go_enter Try.func33, Try.ntmps33
            go_wp2_with fail
            rw [← hW]
            clear hW
            refine (impl_Alike (RV.on r1 b0) (RV.on r2 b0)).mono ?_
            rintro e w1 ⟨rfl, hb1⟩
            have b1 := belT b0 hb1 (Nat.le_refl _)
            have p1 := keepC hb1 z0' p0
            have q1 := keepC hb1 z0 q0
            have z1 := Nat.lt_of_lt_of_le z0 hb1.size
            have z1' := Nat.lt_of_lt_of_le z0' hb1.size
            clear p0 q0 z0 z0'
            go_wp2_with fail
            obtain ⟨w2, hv⟩ : ∃ v, v = w1.alloc (Obj.cells #[Value.int .i64 x.kind, Value.int .i64 4] 3) := ⟨_, rfl⟩
            rw [← hv]
            have hb2 : Below w1.heap.size w1 w2 := by rw [hv]; exact belA (bel0 _) (Nat.le_refl _) _
            have sc := (Blk.new w1 3 #[Value.int .i64 x.kind, Value.int .i64 4]).cells
            rw [← hv] at sc
            have zs : w1.heap.size < w2.heap.size := by rw [hv]; simp
            clear hv
            have b2 := belT b1 hb2 (Nat.le_refl _)
            have p2 := keepC hb2 z1' p1
            have q2 := keepC hb2 z1 q1
            have z2 := Nat.lt_of_lt_of_le z1 hb2.size
            have z2' := Nat.lt_of_lt_of_le z1' hb2.size
            clear p1 q1 z1 z1'
            refine (impl_Ends (RV.on r1 b2)).mono ?_
            rintro e w3 ⟨rfl, hb3⟩
            have b3 := belT b2 hb3 (Nat.le_refl _)
            have p3 := keepC hb3 z2' p2
            have q3 := keepC hb3 z2 q2
            have z3 := Nat.lt_of_lt_of_le z2 hb3.size
            have z3' := Nat.lt_of_lt_of_le z2' hb3.size
            clear p2 q2 z2 z2'
            replace sc := keepC hb3 zs sc
            replace zs := Nat.lt_of_lt_of_le zs hb3.size
            go_wp2_with fail
            refine (impl_Ends (RV.on r2 b3)).mono ?_
            rintro e w4 ⟨rfl, hb4⟩
            have b4 := belT b3 hb4 (Nat.le_refl _)
            have p4 := keepC hb4 z3' p3
            have q4 := keepC hb4 z3 q3
            have z4 := Nat.lt_of_lt_of_le z3 hb4.size
            have z4' := Nat.lt_of_lt_of_le z3' hb4.size
            clear p3 q3 z3 z3'
            replace sc := keepC hb4 zs sc
            replace zs := Nat.lt_of_lt_of_le zs hb4.size
            go_wp2_with fail
            refine (impl_Contains2 zs _ _ _ _ (sc 0) (sc 1)).mono ?_
            rintro e w5 ⟨rfl, hb5⟩
            have b5 := belT b4 hb5 (Nat.le_refl _)
            have p5 := keepC hb5 z4' p4
            have q5 := keepC hb5 z4 q4
            have z5 := Nat.lt_of_lt_of_le z4 hb5.size
            have z5' := Nat.lt_of_lt_of_le z4' hb5.size
            clear p4 q4 z4 z4'
            replace sc := keepC hb5 zs sc
            replace zs := Nat.lt_of_lt_of_le zs hb5.size
            go_wp2_with fail
            go_ret
            exact ⟨retB (by first | (rw [HR.out]; done) | (rw [HR.out, bne_iff_ne.mpr hx, bne_iff_ne.mpr hy]; done) | (rw [HR.out, bne_iff_ne.mpr hx, bne_iff_ne.mpr hy]; simp) | (rw [HR.out, beq_false_of_ne hx, beq_false_of_ne hy]; done) | (rw [HR.out, beq_false_of_ne hx, beq_false_of_ne hy]; simp)), b5⟩
          · skip
            cases hB : Begins x y
            case true =>
              have HR := Lib.hid (show Agree x y = true by unfold Agree; rw [hA, hE1, hE2, bne_iff_ne.mpr hx, bne_iff_ne.mpr hy, hB]; simp)
              go_enter Try.func33, Try.ntmps33
              go_wp2_with fail
              rw [← hW]
              clear hW
              refine (impl_Alike (RV.on r1 b0) (RV.on r2 b0)).mono ?_
              rintro e w1 ⟨rfl, hb1⟩
              have b1 := belT b0 hb1 (Nat.le_refl _)
              have p1 := keepC hb1 z0' p0
              have q1 := keepC hb1 z0 q0
              have z1 := Nat.lt_of_lt_of_le z0 hb1.size
              have z1' := Nat.lt_of_lt_of_le z0' hb1.size
              clear p0 q0 z0 z0'
              go_wp2_with fail
              obtain ⟨w2, hv⟩ : ∃ v, v = w1.alloc (Obj.cells #[Value.int .i64 x.kind, Value.int .i64 y.kind] 3) := ⟨_, rfl⟩
              rw [← hv]
              have hb2 : Below w1.heap.size w1 w2 := by rw [hv]; exact belA (bel0 _) (Nat.le_refl _) _
              have sc := (Blk.new w1 3 #[Value.int .i64 x.kind, Value.int .i64 y.kind]).cells
              rw [← hv] at sc
              have zs : w1.heap.size < w2.heap.size := by rw [hv]; simp
              clear hv
              have b2 := belT b1 hb2 (Nat.le_refl _)
              have p2 := keepC hb2 z1' p1
              have q2 := keepC hb2 z1 q1
              have z2 := Nat.lt_of_lt_of_le z1 hb2.size
              have z2' := Nat.lt_of_lt_of_le z1' hb2.size
              clear p1 q1 z1 z1'
              refine (impl_Ends (RV.on r1 b2)).mono ?_
              rintro e w3 ⟨rfl, hb3⟩
              have b3 := belT b2 hb3 (Nat.le_refl _)
              have p3 := keepC hb3 z2' p2
              have q3 := keepC hb3 z2 q2
              have z3 := Nat.lt_of_lt_of_le z2 hb3.size
              have z3' := Nat.lt_of_lt_of_le z2' hb3.size
              clear p2 q2 z2 z2'
              replace sc := keepC hb3 zs sc
              replace zs := Nat.lt_of_lt_of_le zs hb3.size
              go_wp2_with fail
              refine (impl_Ends (RV.on r2 b3)).mono ?_
              rintro e w4 ⟨rfl, hb4⟩
              have b4 := belT b3 hb4 (Nat.le_refl _)
              have p4 := keepC hb4 z3' p3
              have q4 := keepC hb4 z3 q3
              have z4 := Nat.lt_of_lt_of_le z3 hb4.size
              have z4' := Nat.lt_of_lt_of_le z3' hb4.size
              clear p3 q3 z3 z3'
              replace sc := keepC hb4 zs sc
              replace zs := Nat.lt_of_lt_of_le zs hb4.size
              go_wp2_with fail
              refine (impl_Contains2 zs _ _ _ _ (sc 0) (sc 1)).mono ?_
              rintro e w5 ⟨rfl, hb5⟩
              have b5 := belT b4 hb5 (Nat.le_refl _)
              have p5 := keepC hb5 z4' p4
              have q5 := keepC hb5 z4 q4
              have z5 := Nat.lt_of_lt_of_le z4 hb5.size
              have z5' := Nat.lt_of_lt_of_le z4' hb5.size
              clear p4 q4 z4 z4'
              replace sc := keepC hb5 zs sc
              replace zs := Nat.lt_of_lt_of_le zs hb5.size
              go_wp2_with fail
              refine (impl_Begins (RV.on r1 b5) (RV.on r2 b5)).mono ?_
              rintro e w6 ⟨rfl, hb6⟩
              have b6 := belT b5 hb6 (Nat.le_refl _)
              have p6 := keepC hb6 z5' p5
              have q6 := keepC hb6 z5 q5
              have z6 := Nat.lt_of_lt_of_le z5 hb6.size
              have z6' := Nat.lt_of_lt_of_le z5' hb6.size
              clear p5 q5 z5 z5'
              replace sc := keepC hb6 zs sc
              replace zs := Nat.lt_of_lt_of_le zs hb6.size
              go_wp2_with fail
              go_ret
              exact ⟨retB (by first | (rw [HR.out]; done) | (rw [HR.out, bne_iff_ne.mpr hx, bne_iff_ne.mpr hy]; done) | (rw [HR.out, bne_iff_ne.mpr hx, bne_iff_ne.mpr hy]; simp) | (rw [HR.out, beq_false_of_ne hx, beq_false_of_ne hy]; done) | (rw [HR.out, beq_false_of_ne hx, beq_false_of_ne hy]; simp)), b6⟩
            case false =>
              have HR := Lib.hid (show Agree x y = Begins y x by unfold Agree; rw [hA, hE1, hE2, bne_iff_ne.mpr hx, bne_iff_ne.mpr hy, hB]; simp)
              go_enter Try.func33, Try.ntmps33
              go_wp2_with fail
              rw [← hW]
              clear hW
              refine (impl_Alike (RV.on r1 b0) (RV.on r2 b0)).mono ?_
              rintro e w1 ⟨rfl, hb1⟩
              have b1 := belT b0 hb1 (Nat.le_refl _)
              have p1 := keepC hb1 z0' p0
              have q1 := keepC hb1 z0 q0
              have z1 := Nat.lt_of_lt_of_le z0 hb1.size
              have z1' := Nat.lt_of_lt_of_le z0' hb1.size
              clear p0 q0 z0 z0'
              go_wp2_with fail
              obtain ⟨w2, hv⟩ : ∃ v, v = w1.alloc (Obj.cells #[Value.int .i64 x.kind, Value.int .i64 y.kind] 3) := ⟨_, rfl⟩
              rw [← hv]
              have hb2 : Below w1.heap.size w1 w2 := by rw [hv]; exact belA (bel0 _) (Nat.le_refl _) _
              have sc := (Blk.new w1 3 #[Value.int .i64 x.kind, Value.int .i64 y.kind]).cells
              rw [← hv] at sc
              have zs : w1.heap.size < w2.heap.size := by rw [hv]; simp
              clear hv
              have b2 := belT b1 hb2 (Nat.le_refl _)
              have p2 := keepC hb2 z1' p1
              have q2 := keepC hb2 z1 q1
              have z2 := Nat.lt_of_lt_of_le z1 hb2.size
              have z2' := Nat.lt_of_lt_of_le z1' hb2.size
              clear p1 q1 z1 z1'
              refine (impl_Ends (RV.on r1 b2)).mono ?_
              rintro e w3 ⟨rfl, hb3⟩
              have b3 := belT b2 hb3 (Nat.le_refl _)
              have p3 := keepC hb3 z2' p2
              have q3 := keepC hb3 z2 q2
              have z3 := Nat.lt_of_lt_of_le z2 hb3.size
              have z3' := Nat.lt_of_lt_of_le z2' hb3.size
              clear p2 q2 z2 z2'
              replace sc := keepC hb3 zs sc
              replace zs := Nat.lt_of_lt_of_le zs hb3.size
              go_wp2_with fail
              refine (impl_Ends (RV.on r2 b3)).mono ?_
              rintro e w4 ⟨rfl, hb4⟩
              have b4 := belT b3 hb4 (Nat.le_refl _)
              have p4 := keepC hb4 z3' p3
              have q4 := keepC hb4 z3 q3
              have z4 := Nat.lt_of_lt_of_le z3 hb4.size
              have z4' := Nat.lt_of_lt_of_le z3' hb4.size
              clear p3 q3 z3 z3'
              replace sc := keepC hb4 zs sc
              replace zs := Nat.lt_of_lt_of_le zs hb4.size
              go_wp2_with fail
              refine (impl_Contains2 zs _ _ _ _ (sc 0) (sc 1)).mono ?_
              rintro e w5 ⟨rfl, hb5⟩
              have b5 := belT b4 hb5 (Nat.le_refl _)
              have p5 := keepC hb5 z4' p4
              have q5 := keepC hb5 z4 q4
              have z5 := Nat.lt_of_lt_of_le z4 hb5.size
              have z5' := Nat.lt_of_lt_of_le z4' hb5.size
              clear p4 q4 z4 z4'
              replace sc := keepC hb5 zs sc
              replace zs := Nat.lt_of_lt_of_le zs hb5.size
              go_wp2_with fail
              refine (impl_Begins (RV.on r1 b5) (RV.on r2 b5)).mono ?_
              rintro e w6 ⟨rfl, hb6⟩
              have b6 := belT b5 hb6 (Nat.le_refl _)
              have p6 := keepC hb6 z5' p5
              have q6 := keepC hb6 z5 q5
              have z6 := Nat.lt_of_lt_of_le z5 hb6.size
              have z6' := Nat.lt_of_lt_of_le z5' hb6.size
              clear p5 q5 z5 z5'
              replace sc := keepC hb6 zs sc
              replace zs := Nat.lt_of_lt_of_le zs hb6.size
              go_wp2_with fail
              refine (impl_Begins (RV.on r2 b6) (RV.on r1 b6)).mono ?_
              rintro e w7 ⟨rfl, hb7⟩
              have b7 := belT b6 hb7 (Nat.le_refl _)
              have p7 := keepC hb7 z6' p6
              have q7 := keepC hb7 z6 q6
              have z7 := Nat.lt_of_lt_of_le z6 hb7.size
              have z7' := Nat.lt_of_lt_of_le z6' hb7.size
              clear p6 q6 z6 z6'
              replace sc := keepC hb7 zs sc
              replace zs := Nat.lt_of_lt_of_le zs hb7.size
              go_wp2_with fail
              go_ret
              exact ⟨retB (by first | (rw [HR.out]; done) | (rw [HR.out, bne_iff_ne.mpr hx, bne_iff_ne.mpr hy]; done) | (rw [HR.out, bne_iff_ne.mpr hx, bne_iff_ne.mpr hy]; simp) | (rw [HR.out, beq_false_of_ne hx, beq_false_of_ne hy]; done) | (rw [HR.out, beq_false_of_ne hx, beq_false_of_ne hy]; simp)), b7⟩

end Go.Proofs.Ytbgphlpiknnajaa
