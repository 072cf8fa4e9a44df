/-
  THE LAW FnExactHit, by its abstract text: it returns true. Conditions: the arguments' bulk is at most 1048576. Printed by ownlaw.py.
-/
import Derived.Test.YtfdkgbejhdmpbaaPackM
import Derived.Test.YtfdkgbejhdmpbaaHitE
import Derived.Test.YtfdkgbejhdmpbaaDRange
import Derived.Test.YtfdkgbejhdmpbaaIrLHit
set_option linter.unusedVariables false
set_option linter.unusedSimpArgs false
set_option maxRecDepth 100000
namespace Go.Proofs.Ytfdkgbejhdmpbaa
open Go.RowKit Go.Proofs.Ytfdkgbejhdmpbaa.Av Go.Proofs.Ytfdkgbejhdmpbaa.Ml
open Go.Proofs.Ytfdkgbejhdmpbaa.Av.AVal (av)
open OVal (ov oh on)
open Mk (mkv cnt)

set_option maxHeartbeats 4000000 in
theorem lawHit_ok (y0 : Pat) (hk0 : Bulk.bulk y0 ≤ 1048576) (y1 : Data) (hk1 : Bulk.bulk y1 ≤ 1048576) : CallsF Try.prog 4 [av y0, av y1] (.bool true) := by
  have hb0 : Bulk.bulk y0.nodes + 1 ≤ 1048576 := hk0
  have hb1 : Bulk.bulk y1.nodes + 1 ≤ 1048576 := hk1
  refine callsF_given (∀ n ∈ y1.nodes, -9223372036854775808 ≤ n.n ∧ n.n ≤ 9223372036854775807) (by kernel_rfl) (by simp; exact ⟨AVal.clean y0, AVal.clean y1⟩) (fun S w vs h => (let ⟨_, h1⟩ := vrs_at h (i := 1) rfl; data_range h1)) (fun hq => ?_)
  refine fun_laws_FnExactHit rfl (by simp; exact ⟨AVal.clean y0, AVal.clean y1⟩) (AvPure.bool _) ?_
  have T0 := toPat_ok y0 hk0
  have E0 := eqPat_ok y0 hk0
  rw [av_Pat] at T0 E0
  have B0 := MkB.le y0
  have T1 := toData_ok y1 hk1
  have E1 := eqData_ok y1 hk1
  rw [av_Data] at T1 E1
  have B1 := MkB.le y1
  have CS := specHitO_ok y0.nodes y1.nodes (by omega) (by omega) hq
  have CI := fun nm (hnm : nm < 9000) => implHitO_ok nm y0.nodes y1.nodes (by omega) (by omega)
  obtain ⟨R0, hR0⟩ : ∃ R, R = hitL y0.nodes y1.nodes := ⟨_, rfl⟩
  have hR1 := hitL_bulk (q := y0.nodes) (d := y1.nodes)
  rw [← hR0] at hR1
  have hRe : ∀ x ∈ R0, Bulk.bulk x ≤ 1048576 := fun x hx => by have := hR1.2 x hx; omega
  have hRb := bulk_le_len hRe
  have hRl := hR1.1
  rw [← hR0] at CS CI
  have EL0 := eqDataS_big R0 (by omega) hRe
  have BL0 := MkB.le R0
  try simp only [av_Data, av_Pat] at CS CI
  simp +contextual -dsimp (maxSteps := 2000000) only [↓SD, SU, SB, Nat.reduceAdd, Nat.reduceBEq, Nat.reduceEqDiff, Nat.reduceLeDiff, Nat.reduceLT, Nat.reduceSub, ↓reduceIte, zA, zI, zN, reduceCtorEq, Int.reduceToNat, zE, Int.reduceEq, Int.reduceLT, Int.reduceLE, Int.reduceNeg, Int.reduceAdd, Int.reduceSub, ir_laws_FnExactHit, rs_laws_FnExactHit, av_Data, av_Pat, map_len, false_and, ov_Data, ov_Pat, ov_list]
  have Z0 := fun n h1 h2 => szPat_ok y0 n hk0 h1 h2
  rw [av_Pat] at Z0
  refine aCallH_of [] (Z0 _ (by omega) (by omega)) (by simp +contextual -dsimp only [↓SD, SU, SB, Nat.reduceAdd, Nat.reduceBEq, Nat.reduceEqDiff, Nat.reduceLeDiff, Nat.reduceLT, Nat.reduceSub, ↓reduceIte, zA, zI, zN, reduceCtorEq, Int.reduceToNat, zE]) ?_
  rintro r hp' ⟨m0, rfl, rfl, a0, b0⟩
  by_cases hm0 : m0 < 0
  · simp +contextual -dsimp (maxSteps := 2000000) only [↓SD, SU, SB, Nat.reduceAdd, Nat.reduceBEq, Nat.reduceEqDiff, Nat.reduceLeDiff, Nat.reduceLT, Nat.reduceSub, ↓reduceIte, zA, zI, zN, reduceCtorEq, Int.reduceToNat, zE, Int.reduceEq, Int.reduceLT, Int.reduceLE, Int.reduceNeg, Int.reduceAdd, Int.reduceSub, hm0]
  simp +contextual -dsimp (maxSteps := 2000000) only [↓SD, SU, SB, Nat.reduceAdd, Nat.reduceBEq, Nat.reduceEqDiff, Nat.reduceLeDiff, Nat.reduceLT, Nat.reduceSub, ↓reduceIte, zA, zI, zN, reduceCtorEq, Int.reduceToNat, zE, Int.reduceEq, Int.reduceLT, Int.reduceLE, Int.reduceNeg, Int.reduceAdd, Int.reduceSub, av_Data, av_Pat, map_len, false_and, ov_Data, ov_Pat, ov_list, low_beq, hm0]
  repeat intro _
  have Z1 := fun n h1 h2 => szData_ok y1 n hk1 h1 h2
  rw [av_Data] at Z1
  refine aCallH_of [] (Z1 _ (by omega) (by omega)) (by simp +contextual -dsimp only [↓SD, SU, SB, Nat.reduceAdd, Nat.reduceBEq, Nat.reduceEqDiff, Nat.reduceLeDiff, Nat.reduceLT, Nat.reduceSub, ↓reduceIte, zA, zI, zN, reduceCtorEq, Int.reduceToNat, zE]) ?_
  rintro r hp' ⟨m1, rfl, rfl, a1, b1⟩
  by_cases hm1 : m1 < 0
  · simp +contextual -dsimp (maxSteps := 2000000) only [↓SD, SU, SB, Nat.reduceAdd, Nat.reduceBEq, Nat.reduceEqDiff, Nat.reduceLeDiff, Nat.reduceLT, Nat.reduceSub, ↓reduceIte, zA, zI, zN, reduceCtorEq, Int.reduceToNat, zE, Int.reduceEq, Int.reduceLT, Int.reduceLE, Int.reduceNeg, Int.reduceAdd, Int.reduceSub, hm1]
  simp +contextual -dsimp (maxSteps := 2000000) only [↓SD, SU, SB, Nat.reduceAdd, Nat.reduceBEq, Nat.reduceEqDiff, Nat.reduceLeDiff, Nat.reduceLT, Nat.reduceSub, ↓reduceIte, zA, zI, zN, reduceCtorEq, Int.reduceToNat, zE, Int.reduceEq, Int.reduceLT, Int.reduceLE, Int.reduceNeg, Int.reduceAdd, Int.reduceSub, av_Data, av_Pat, map_len, false_and, ov_Data, ov_Pat, ov_list, low_beq, hm1]
  repeat intro _
  refine aCallK_of _ T0 ?_
  simp +contextual -dsimp (maxSteps := 2000000) only [↓SD, SU, SB, Nat.reduceAdd, Nat.reduceBEq, Nat.reduceEqDiff, Nat.reduceLeDiff, Nat.reduceLT, Nat.reduceSub, ↓reduceIte, zA, zI, zN, reduceCtorEq, Int.reduceToNat, zE, Int.reduceEq, Int.reduceLT, Int.reduceLE, Int.reduceNeg, Int.reduceAdd, Int.reduceSub, av_Data, av_Pat, map_len, false_and, ov_Data, ov_Pat, ov_list, low_beq]
  repeat intro _
  refine aCallK_of _ T1 ?_
  simp +contextual -dsimp (maxSteps := 2000000) only [↓SD, SU, SB, Nat.reduceAdd, Nat.reduceBEq, Nat.reduceEqDiff, Nat.reduceLeDiff, Nat.reduceLT, Nat.reduceSub, ↓reduceIte, zA, zI, zN, reduceCtorEq, Int.reduceToNat, zE, Int.reduceEq, Int.reduceLT, Int.reduceLE, Int.reduceNeg, Int.reduceAdd, Int.reduceSub, av_Data, av_Pat, map_len, false_and, ov_Data, ov_Pat, ov_list, low_beq]
  repeat intro _
  refine aCallK_of _ CS ?_
  simp +contextual -dsimp (maxSteps := 2000000) only [↓SD, SU, SB, Nat.reduceAdd, Nat.reduceBEq, Nat.reduceEqDiff, Nat.reduceLeDiff, Nat.reduceLT, Nat.reduceSub, ↓reduceIte, zA, zI, zN, reduceCtorEq, Int.reduceToNat, zE, Int.reduceEq, Int.reduceLT, Int.reduceLE, Int.reduceNeg, Int.reduceAdd, Int.reduceSub, av_Data, av_Pat, map_len, false_and, ov_Data, ov_Pat, ov_list, low_beq]
  repeat intro _
  have O0 := toPat_own 1001 y0 hk0
  rw [av_Pat] at O0
  refine aCallH_gen [] O0 (by simp +contextual -dsimp only [↓SD, SU, SB, Nat.reduceAdd, Nat.reduceBEq, Nat.reduceEqDiff, Nat.reduceLeDiff, Nat.reduceLT, Nat.reduceSub, ↓reduceIte, zA, zI, zN, reduceCtorEq, Int.reduceToNat, zE]) ?_
  rintro r hp' ⟨v0, rfl, rfl⟩ H1 hH1
  rw [hrest_no] at hH1
  have l0 : hpLe H1 (oh 1001 v0 y0) := by rw [hH1]; exact hpLe_l (OVal.self _ _ _)
  have o1 := old_app hH1 (by omega)
  have q1 := hpLe_root (show hpLe _ (oh (sub 1001 0) v0 y0.nodes) from l0)
  simp +contextual -dsimp (maxSteps := 2000000) only [↓SD, SU, SB, Nat.reduceAdd, Nat.reduceBEq, Nat.reduceEqDiff, Nat.reduceLeDiff, Nat.reduceLT, Nat.reduceSub, ↓reduceIte, zA, zI, zN, reduceCtorEq, Int.reduceToNat, zE, Int.reduceEq, Int.reduceLT, Int.reduceLE, Int.reduceNeg, Int.reduceAdd, Int.reduceSub, av_Data, av_Pat, map_len, false_and, ov_Data, ov_Pat, ov_list, low_beq, q1, o1]
  repeat intro _
  have O1 := toData_own 1002 y1 hk1
  rw [av_Data] at O1
  refine aCallH_gen [] O1 (by simp +contextual -dsimp only [↓SD, SU, SB, Nat.reduceAdd, Nat.reduceBEq, Nat.reduceEqDiff, Nat.reduceLeDiff, Nat.reduceLT, Nat.reduceSub, ↓reduceIte, zA, zI, zN, reduceCtorEq, Int.reduceToNat, zE]) ?_
  rintro r hp' ⟨v1, rfl, rfl⟩ H2 hH2
  rw [hrest_no] at hH2
  have l2 : hpLe H2 (oh 1002 v1 y1) := by rw [hH2]; exact hpLe_l (OVal.self _ _ _)
  have l3 : hpLe H2 (oh 1001 v0 y0) := keep_app hH2 (fun k hk => apart_names (by omega) (by omega) (by omega) hk) (by repeat (first | exact l0 | refine hpLe_skip (fun h => by have := h.le; omega) ?_))
  have o2 := old_app hH2 (by omega)
  have q4 := hpLe_root (show hpLe _ (oh (sub 1001 0) v0 y0.nodes) from l3)
  have q5 := hpLe_root (show hpLe _ (oh (sub 1002 0) v1 y1.nodes) from l2)
  simp +contextual -dsimp (maxSteps := 2000000) only [↓SD, SU, SB, Nat.reduceAdd, Nat.reduceBEq, Nat.reduceEqDiff, Nat.reduceLeDiff, Nat.reduceLT, Nat.reduceSub, ↓reduceIte, zA, zI, zN, reduceCtorEq, Int.reduceToNat, zE, Int.reduceEq, Int.reduceLT, Int.reduceLE, Int.reduceNeg, Int.reduceAdd, Int.reduceSub, av_Data, av_Pat, map_len, false_and, ov_Data, ov_Pat, ov_list, low_beq, q4, q5, o1, o2]
  repeat intro _
  refine aCallHL_gen (on 1001 y0 ++ on 1002 y1) (CI 1010 (by omega)) (map_cons_eq (lend2a (by repeat (first | exact l3 | refine hpLe_skip (fun h => by have := h.le; omega) ?_)) (fun k hk => apart_names (by omega) (by omega) (by omega) hk)) (map_cons_eq (lend2b (by repeat (first | exact l2 | refine hpLe_skip (fun h => by have := h.le; omega) ?_)) (fun k hk => apart_names (by omega) (by omega) (by omega) hk)) (rfl))) ?_
  rintro r hp' ⟨vg, rfl, rfl⟩
  refine ⟨⟨by simp only [AV.free, List.all_cons, List.all_nil, ov_free0]; rfl, oh_hfree _ _ _⟩, ?_⟩
  intro H3 hH3
  have l6 : hpLe H3 (oh 1010 vg R0) := by rw [hH3]; exact hpLe_l (OVal.self _ _ _)
  have l7 : hpLe H3 (oh 1001 v0 y0) := keep_app hH3 (fun k hk => apart_names (by omega) (by omega) (by omega) hk) (by repeat (first | exact l3 | refine hpLe_skip (fun h => by have := h.le; omega) ?_))
  have l8 : hpLe H3 (oh 1002 v1 y1) := keep_app hH3 (fun k hk => apart_names (by omega) (by omega) (by omega) hk) (by repeat (first | exact l2 | refine hpLe_skip (fun h => by have := h.le; omega) ?_))
  have o3 := old_app hH3 (by omega)
  have q9 := hpLe_root (show hpLe _ (oh (sub 1001 0) v0 y0.nodes) from l7)
  have q10 := hpLe_root (show hpLe _ (oh (sub 1002 0) v1 y1.nodes) from l8)
  have q11 := hpLe_root l6
  simp +contextual -dsimp (maxSteps := 2000000) only [↓SD, SU, SB, Nat.reduceAdd, Nat.reduceBEq, Nat.reduceEqDiff, Nat.reduceLeDiff, Nat.reduceLT, Nat.reduceSub, ↓reduceIte, zA, zI, zN, reduceCtorEq, Int.reduceToNat, zE, Int.reduceEq, Int.reduceLT, Int.reduceLE, Int.reduceNeg, Int.reduceAdd, Int.reduceSub, av_Data, av_Pat, map_len, false_and, ov_Data, ov_Pat, ov_list, low_beq, q9, q10, q11, o1, o2, o3]
  repeat intro _
  refine aCallL_of (on 1010 R0) EL0 rfl (map_cons_eq (lend1 (nm := 1010) (vs := vg) (y := R0) (by repeat (first | exact l6 | refine hpLe_skip (fun h => by have := h.le; omega) ?_))) (map_cons_eq rfl (rfl))) ?_
  simp +contextual -dsimp (maxSteps := 2000000) only [↓SD, SU, SB, Nat.reduceAdd, Nat.reduceBEq, Nat.reduceEqDiff, Nat.reduceLeDiff, Nat.reduceLT, Nat.reduceSub, ↓reduceIte, zA, zI, zN, reduceCtorEq, Int.reduceToNat, zE, Int.reduceEq, Int.reduceLT, Int.reduceLE, Int.reduceNeg, Int.reduceAdd, Int.reduceSub, av_Data, av_Pat, map_len, false_and, ov_Data, ov_Pat, ov_list, low_beq, q9, q10, q11, o1, o2, o3, beq_self_eq_true]
  repeat intro _
  refine aCallK_of _ T0 ?_
  simp +contextual -dsimp (maxSteps := 2000000) only [↓SD, SU, SB, Nat.reduceAdd, Nat.reduceBEq, Nat.reduceEqDiff, Nat.reduceLeDiff, Nat.reduceLT, Nat.reduceSub, ↓reduceIte, zA, zI, zN, reduceCtorEq, Int.reduceToNat, zE, Int.reduceEq, Int.reduceLT, Int.reduceLE, Int.reduceNeg, Int.reduceAdd, Int.reduceSub, av_Data, av_Pat, map_len, false_and, ov_Data, ov_Pat, ov_list, low_beq, q9, q10, q11, o1, o2, o3]
  repeat intro _
  refine aCallL_of (on 1001 y0) E0 rfl (map_cons_eq (lend1 (nm := 1001) (vs := v0) (y := y0) (by repeat (first | exact l7 | refine hpLe_skip (fun h => by have := h.le; omega) ?_))) (map_cons_eq rfl (rfl))) ?_
  simp +contextual -dsimp (maxSteps := 2000000) only [↓SD, SU, SB, Nat.reduceAdd, Nat.reduceBEq, Nat.reduceEqDiff, Nat.reduceLeDiff, Nat.reduceLT, Nat.reduceSub, ↓reduceIte, zA, zI, zN, reduceCtorEq, Int.reduceToNat, zE, Int.reduceEq, Int.reduceLT, Int.reduceLE, Int.reduceNeg, Int.reduceAdd, Int.reduceSub, av_Data, av_Pat, map_len, false_and, ov_Data, ov_Pat, ov_list, low_beq, q9, q10, q11, o1, o2, o3, beq_self_eq_true]
  repeat intro _
  refine aCallK_of _ T1 ?_
  simp +contextual -dsimp (maxSteps := 2000000) only [↓SD, SU, SB, Nat.reduceAdd, Nat.reduceBEq, Nat.reduceEqDiff, Nat.reduceLeDiff, Nat.reduceLT, Nat.reduceSub, ↓reduceIte, zA, zI, zN, reduceCtorEq, Int.reduceToNat, zE, Int.reduceEq, Int.reduceLT, Int.reduceLE, Int.reduceNeg, Int.reduceAdd, Int.reduceSub, av_Data, av_Pat, map_len, false_and, ov_Data, ov_Pat, ov_list, low_beq, q9, q10, q11, o1, o2, o3]
  repeat intro _
  refine aCallL_of (on 1002 y1) E1 rfl (map_cons_eq (lend1 (nm := 1002) (vs := v1) (y := y1) (by repeat (first | exact l8 | refine hpLe_skip (fun h => by have := h.le; omega) ?_))) (map_cons_eq rfl (rfl))) ?_
  simp +contextual -dsimp (maxSteps := 2000000) only [↓SD, SU, SB, Nat.reduceAdd, Nat.reduceBEq, Nat.reduceEqDiff, Nat.reduceLeDiff, Nat.reduceLT, Nat.reduceSub, ↓reduceIte, zA, zI, zN, reduceCtorEq, Int.reduceToNat, zE, Int.reduceEq, Int.reduceLT, Int.reduceLE, Int.reduceNeg, Int.reduceAdd, Int.reduceSub, av_Data, av_Pat, map_len, false_and, ov_Data, ov_Pat, ov_list, low_beq, q9, q10, q11, o1, o2, o3, beq_self_eq_true]
  repeat intro _
  refine aCallH_gen (on 1001 y0) (markPat_own 1001 v0 y0 _ (by omega) (by omega)) (hsel_on (by repeat (first | exact l7 | refine hpLe_skip (fun h => by have := h.le; omega) ?_))) ?_
  rintro r hp' ⟨rfl, rfl⟩ H4 hH4
  have l12 : hpLe H4 (oh 1001 v0 (mkv (1) y0)) := part_done hH4
  have l13 : hpLe H4 (oh 1002 v1 y1) := part_other hH4 (fun k hk => apart_names (by omega) (by omega) (by omega) hk) (by repeat (first | exact l8 | refine hpLe_skip (fun h => by have := h.le; omega) ?_))
  have l14 : hpLe H4 (oh 1010 vg R0) := part_other hH4 (fun k hk => apart_names (by omega) (by omega) (by omega) hk) (by repeat (first | exact l6 | refine hpLe_skip (fun h => by have := h.le; omega) ?_))
  have o4 := old_part hH4 (by omega)
  have q15 := hpLe_root (show hpLe _ (oh (sub 1001 0) v0 ((mkv (1) y0)).nodes) from l12)
  have q16 := hpLe_root (show hpLe _ (oh (sub 1002 0) v1 y1.nodes) from l13)
  have q17 := hpLe_root l14
  simp +contextual -dsimp (maxSteps := 2000000) only [↓SD, SU, SB, Nat.reduceAdd, Nat.reduceBEq, Nat.reduceEqDiff, Nat.reduceLeDiff, Nat.reduceLT, Nat.reduceSub, ↓reduceIte, zA, zI, zN, reduceCtorEq, Int.reduceToNat, zE, Int.reduceEq, Int.reduceLT, Int.reduceLE, Int.reduceNeg, Int.reduceAdd, Int.reduceSub, av_Data, av_Pat, map_len, false_and, ov_Data, ov_Pat, ov_list, low_beq, q15, q16, q17, o1, o2, o3, o4]
  repeat intro _
  refine aCallH_gen (on 1002 y1) (markData_own 1002 v1 y1 _ (by omega) (by omega)) (hsel_on (by repeat (first | exact l13 | refine hpLe_skip (fun h => by have := h.le; omega) ?_))) ?_
  rintro r hp' ⟨rfl, rfl⟩ H5 hH5
  have l18 : hpLe H5 (oh 1001 v0 (mkv (1) y0)) := part_other hH5 (fun k hk => apart_names (by omega) (by omega) (by omega) hk) (by repeat (first | exact l12 | refine hpLe_skip (fun h => by have := h.le; omega) ?_))
  have l19 : hpLe H5 (oh 1002 v1 (mkv (1 + (cnt y0 : Int)) y1)) := part_done hH5
  have l20 : hpLe H5 (oh 1010 vg R0) := part_other hH5 (fun k hk => apart_names (by omega) (by omega) (by omega) hk) (by repeat (first | exact l14 | refine hpLe_skip (fun h => by have := h.le; omega) ?_))
  have o5 := old_part hH5 (by omega)
  have q21 := hpLe_root (show hpLe _ (oh (sub 1001 0) v0 ((mkv (1) y0)).nodes) from l18)
  have q22 := hpLe_root (show hpLe _ (oh (sub 1002 0) v1 ((mkv (1 + (cnt y0 : Int)) y1)).nodes) from l19)
  have q23 := hpLe_root l20
  have hg : ¬ 1 + (cnt y0 : Int) + (cnt y1 : Int) < 0 := by omega
  simp +contextual -dsimp (maxSteps := 2000000) only [↓SD, SU, SB, Nat.reduceAdd, Nat.reduceBEq, Nat.reduceEqDiff, Nat.reduceLeDiff, Nat.reduceLT, Nat.reduceSub, ↓reduceIte, zA, zI, zN, reduceCtorEq, Int.reduceToNat, zE, Int.reduceEq, Int.reduceLT, Int.reduceLE, Int.reduceNeg, Int.reduceAdd, Int.reduceSub, av_Data, av_Pat, map_len, false_and, ov_Data, ov_Pat, ov_list, low_beq, q21, q22, q23, o1, o2, o3, o4, o5, hg]
  repeat intro _
  refine aCallL_of (on 1010 R0) EL0 rfl (map_cons_eq (lend1 (nm := 1010) (vs := vg) (y := R0) (by repeat (first | exact l20 | refine hpLe_skip (fun h => by have := h.le; omega) ?_))) (map_cons_eq rfl (rfl))) ?_
  simp +contextual -dsimp (maxSteps := 2000000) only [↓SD, SU, SB, Nat.reduceAdd, Nat.reduceBEq, Nat.reduceEqDiff, Nat.reduceLeDiff, Nat.reduceLT, Nat.reduceSub, ↓reduceIte, zA, zI, zN, reduceCtorEq, Int.reduceToNat, zE, Int.reduceEq, Int.reduceLT, Int.reduceLE, Int.reduceNeg, Int.reduceAdd, Int.reduceSub, av_Data, av_Pat, map_len, false_and, ov_Data, ov_Pat, ov_list, low_beq, q21, q22, q23, o1, o2, o3, o4, o5, beq_self_eq_true]
  repeat intro _
  refine aCallH_gen (on 1010 R0) (markDataS_own 1010 vg R0 _ (by omega) (by omega)) (hsel_on (by repeat (first | exact l20 | refine hpLe_skip (fun h => by have := h.le; omega) ?_))) ?_
  rintro r hp' ⟨rfl, rfl⟩ H6 hH6
  have l24 : hpLe H6 (oh 1001 v0 (mkv (1) y0)) := part_other hH6 (fun k hk => apart_names (by omega) (by omega) (by omega) hk) (by repeat (first | exact l18 | refine hpLe_skip (fun h => by have := h.le; omega) ?_))
  have l25 : hpLe H6 (oh 1002 v1 (mkv (1 + (cnt y0 : Int)) y1)) := part_other hH6 (fun k hk => apart_names (by omega) (by omega) (by omega) hk) (by repeat (first | exact l19 | refine hpLe_skip (fun h => by have := h.le; omega) ?_))
  have l26 : hpLe H6 (oh 1010 vg (mkv (1) R0)) := part_done hH6
  have o6 := old_part hH6 (by omega)
  have q27 := hpLe_root (show hpLe _ (oh (sub 1001 0) v0 ((mkv (1) y0)).nodes) from l24)
  have q28 := hpLe_root (show hpLe _ (oh (sub 1002 0) v1 ((mkv (1 + (cnt y0 : Int)) y1)).nodes) from l25)
  have q29 := hpLe_root l26
  simp +contextual -dsimp (maxSteps := 2000000) only [↓SD, SU, SB, Nat.reduceAdd, Nat.reduceBEq, Nat.reduceEqDiff, Nat.reduceLeDiff, Nat.reduceLT, Nat.reduceSub, ↓reduceIte, zA, zI, zN, reduceCtorEq, Int.reduceToNat, zE, Int.reduceEq, Int.reduceLT, Int.reduceLE, Int.reduceNeg, Int.reduceAdd, Int.reduceSub, av_Data, av_Pat, map_len, false_and, ov_Data, ov_Pat, ov_list, low_beq, q27, q28, q29, o1, o2, o3, o4, o5, o6]
  repeat intro _
  have hh30 := heldDataS_own R0 (1) (by omega) (by omega)
  have hh30g : ¬ 1 + (cnt R0 : Int) < 0 := by omega
  rw [← cnt_list] at hh30
  refine aCallL_of (on 1010 ((mkv (1) R0))) hh30 rfl (map_cons_eq (lend1e (nm := 1010) (vs := vg) (y := ((mkv (1) R0))) (by rw [ov_list, mk_list, mkL_len]) (by repeat (first | exact l26 | refine hpLe_skip (fun h => by have := h.le; omega) ?_))) (map_cons_eq rfl (rfl))) ?_
  simp +contextual -dsimp (maxSteps := 2000000) only [↓SD, SU, SB, Nat.reduceAdd, Nat.reduceBEq, Nat.reduceEqDiff, Nat.reduceLeDiff, Nat.reduceLT, Nat.reduceSub, ↓reduceIte, zA, zI, zN, reduceCtorEq, Int.reduceToNat, zE, Int.reduceEq, Int.reduceLT, Int.reduceLE, Int.reduceNeg, Int.reduceAdd, Int.reduceSub, av_Data, av_Pat, map_len, false_and, ov_Data, ov_Pat, ov_list, low_beq, q27, q28, q29, o1, o2, o3, o4, o5, o6, hh30g, beq_self_eq_true]
  repeat intro _
  refine aCallK_of _ T0 ?_
  simp +contextual -dsimp (maxSteps := 2000000) only [↓SD, SU, SB, Nat.reduceAdd, Nat.reduceBEq, Nat.reduceEqDiff, Nat.reduceLeDiff, Nat.reduceLT, Nat.reduceSub, ↓reduceIte, zA, zI, zN, reduceCtorEq, Int.reduceToNat, zE, Int.reduceEq, Int.reduceLT, Int.reduceLE, Int.reduceNeg, Int.reduceAdd, Int.reduceSub, av_Data, av_Pat, map_len, false_and, ov_Data, ov_Pat, ov_list, low_beq, q27, q28, q29, o1, o2, o3, o4, o5, o6]
  repeat intro _
  refine aCallK_of _ T1 ?_
  simp +contextual -dsimp (maxSteps := 2000000) only [↓SD, SU, SB, Nat.reduceAdd, Nat.reduceBEq, Nat.reduceEqDiff, Nat.reduceLeDiff, Nat.reduceLT, Nat.reduceSub, ↓reduceIte, zA, zI, zN, reduceCtorEq, Int.reduceToNat, zE, Int.reduceEq, Int.reduceLT, Int.reduceLE, Int.reduceNeg, Int.reduceAdd, Int.reduceSub, av_Data, av_Pat, map_len, false_and, ov_Data, ov_Pat, ov_list, low_beq, q27, q28, q29, o1, o2, o3, o4, o5, o6]
  repeat intro _
  refine aCallH_gen [] (CI 1020 (by omega)) (by simp +contextual -dsimp only [↓SD, SU, SB, Nat.reduceAdd, Nat.reduceBEq, Nat.reduceEqDiff, Nat.reduceLeDiff, Nat.reduceLT, Nat.reduceSub, ↓reduceIte, zA, zI, zN, reduceCtorEq, Int.reduceToNat, zE]) ?_
  rintro r hp' ⟨vh, rfl, rfl⟩ H7 hH7
  rw [hrest_no] at hH7
  have l31 : hpLe H7 (oh 1020 vh R0) := by rw [hH7]; exact hpLe_l (OVal.self _ _ _)
  have l32 : hpLe H7 (oh 1001 v0 (mkv (1) y0)) := keep_app hH7 (fun k hk => apart_names (by omega) (by omega) (by omega) hk) (by repeat (first | exact l24 | refine hpLe_skip (fun h => by have := h.le; omega) ?_))
  have l33 : hpLe H7 (oh 1002 v1 (mkv (1 + (cnt y0 : Int)) y1)) := keep_app hH7 (fun k hk => apart_names (by omega) (by omega) (by omega) hk) (by repeat (first | exact l25 | refine hpLe_skip (fun h => by have := h.le; omega) ?_))
  have l34 : hpLe H7 (oh 1010 vg (mkv (1) R0)) := keep_app hH7 (fun k hk => apart_names (by omega) (by omega) (by omega) hk) (by repeat (first | exact l26 | refine hpLe_skip (fun h => by have := h.le; omega) ?_))
  have o7 := old_app hH7 (by omega)
  have q35 := hpLe_root (show hpLe _ (oh (sub 1001 0) v0 ((mkv (1) y0)).nodes) from l32)
  have q36 := hpLe_root (show hpLe _ (oh (sub 1002 0) v1 ((mkv (1 + (cnt y0 : Int)) y1)).nodes) from l33)
  have q37 := hpLe_root l34
  have q38 := hpLe_root l31
  simp +contextual -dsimp (maxSteps := 2000000) only [↓SD, SU, SB, Nat.reduceAdd, Nat.reduceBEq, Nat.reduceEqDiff, Nat.reduceLeDiff, Nat.reduceLT, Nat.reduceSub, ↓reduceIte, zA, zI, zN, reduceCtorEq, Int.reduceToNat, zE, Int.reduceEq, Int.reduceLT, Int.reduceLE, Int.reduceNeg, Int.reduceAdd, Int.reduceSub, av_Data, av_Pat, map_len, false_and, ov_Data, ov_Pat, ov_list, low_beq, q35, q36, q37, q38, o1, o2, o3, o4, o5, o6, o7]
  repeat intro _
  refine aCallL_of (on 1020 R0) EL0 rfl (map_cons_eq (lend1 (nm := 1020) (vs := vh) (y := R0) (by repeat (first | exact l31 | refine hpLe_skip (fun h => by have := h.le; omega) ?_))) (map_cons_eq rfl (rfl))) ?_
  simp +contextual -dsimp (maxSteps := 2000000) only [↓SD, SU, SB, Nat.reduceAdd, Nat.reduceBEq, Nat.reduceEqDiff, Nat.reduceLeDiff, Nat.reduceLT, Nat.reduceSub, ↓reduceIte, zA, zI, zN, reduceCtorEq, Int.reduceToNat, zE, Int.reduceEq, Int.reduceLT, Int.reduceLE, Int.reduceNeg, Int.reduceAdd, Int.reduceSub, av_Data, av_Pat, map_len, false_and, ov_Data, ov_Pat, ov_list, low_beq, q35, q36, q37, q38, o1, o2, o3, o4, o5, o6, o7, beq_self_eq_true]
  repeat intro _
  have hh39 := heldDataS_own R0 (1) (by omega) (by omega)
  have hh39g : ¬ 1 + (cnt R0 : Int) < 0 := by omega
  rw [← cnt_list] at hh39
  refine aCallL_of (on 1010 ((mkv (1) R0))) hh39 rfl (map_cons_eq (lend1e (nm := 1010) (vs := vg) (y := ((mkv (1) R0))) (by rw [ov_list, mk_list, mkL_len]) (by repeat (first | exact l34 | refine hpLe_skip (fun h => by have := h.le; omega) ?_))) (map_cons_eq rfl (rfl))) ?_
  simp +contextual -dsimp (maxSteps := 2000000) only [↓SD, SU, SB, Nat.reduceAdd, Nat.reduceBEq, Nat.reduceEqDiff, Nat.reduceLeDiff, Nat.reduceLT, Nat.reduceSub, ↓reduceIte, zA, zI, zN, reduceCtorEq, Int.reduceToNat, zE, Int.reduceEq, Int.reduceLT, Int.reduceLE, Int.reduceNeg, Int.reduceAdd, Int.reduceSub, av_Data, av_Pat, map_len, false_and, ov_Data, ov_Pat, ov_list, low_beq, q35, q36, q37, q38, o1, o2, o3, o4, o5, o6, o7, hh39g, beq_self_eq_true]
  repeat intro _
end Go.Proofs.Ytfdkgbejhdmpbaa
