/-
  THE LAW FnExactHeights, by its abstract text: it returns true. Conditions: the arguments' bulk is at most 1048576. Printed by ownlaw.py.
-/
import Derived.Test.YtabifanjbckchaaGreatOCode
import Derived.Test.YtabifanjbckchaaGreatHgtE
import Derived.Test.YtabifanjbckchaaGreatGiven
import Derived.Test.YtabifanjbckchaaGreatIrLHeights
set_option linter.unusedVariables false
set_option linter.unusedSimpArgs false
set_option maxRecDepth 100000
namespace Go.Proofs.YtabifanjbckchaaGreat
open Go.RowKit Go.Proofs.YtabifanjbckchaaGreat.Av Go.Proofs.YtabifanjbckchaaGreat.Ml
open Go.Proofs.YtabifanjbckchaaGreat.Av.AVal (av)
open OVal (ov oh on)
open Mk (mkv cnt)

set_option maxHeartbeats 4000000 in
theorem lawHeights_ok (y0 : Code) (hk0 : Bulk.bulk y0 ≤ 1048576) : CallsF Tryz.prog 3 [av y0] (.bool true) := by
  have hb0 : Bulk.bulk y0.ins + Bulk.bulk y0.pats + 1 ≤ 1048576 := hk0
  refine callsF_given (∀ i ∈ y0.ins, -9223372036854775808 ≤ i.a ∧ i.a ≤ 9223372036854775807) (by kernel_rfl) (by simp; exact AVal.clean y0) (fun S w vs h => code_range h) (fun hq => ?_)
  refine fun_laws_FnExactHeights rfl (by simp; exact AVal.clean y0) (AvPure.bool _) ?_
  have T0 := toCode_ok y0 hk0
  have E0 := eqCode_ok y0 hk0
  rw [av_Code] at T0 E0
  have B0 := MkB.le y0
  have CS := specHeightsS_ok y0 (by omega) hq
  have CI := fun nm (hnm : 1000 ≤ nm ∧ nm < 9000) => implHeights_ok nm (by omega) y0 (by omega)
  obtain ⟨R0, hR0⟩ : ∃ R, R = hgtsV y0 := ⟨_, rfl⟩
  obtain ⟨R1, hR1⟩ : ∃ R, R = hgtsE y0 := ⟨_, rfl⟩
  have hRl0 := hgtsV_len y0
  have hRl1 := hgtsE_len y0
  have hIn := bulk_length y0.ins
  rw [← hR0] at hRl0
  rw [← hR1] at hRl1
  have hRb0 := bulk_len_int R0
  have hRb1 := bulk_len_int R1
  rw [← hR0, ← hR1] at CS CI
  have EL0 := eqIntS_ok R0 (by omega)
  have BL0 := MkB.le R0
  have EL1 := eqIntS_ok R1 (by omega)
  have BL1 := MkB.le R1
  try simp only [av_Code] at CS CI
  simp +contextual -dsimp (maxSteps := 2000000) only [↓SD, SU, SB, Nat.reduceAdd, Nat.reduceBEq, Nat.reduceEqDiff, Nat.reduceLeDiff, Nat.reduceLT, Nat.reduceSub, ↓reduceIte, zA, zI, zN, reduceCtorEq, Int.reduceToNat, zE, Int.reduceEq, Int.reduceLT, Int.reduceLE, Int.reduceNeg, Int.reduceAdd, Int.reduceSub, ir_laws_FnExactHeights, rs_laws_FnExactHeights, av_Code, map_len, false_and, ov_Code, ov_list]
  have Z0 := fun n h1 h2 => szCode_ok y0 n hk0 h1 h2
  rw [av_Code] at Z0
  refine aCallH_of [] (Z0 _ (by omega) (by omega)) (by simp +contextual -dsimp only [↓SD, SU, SB, Nat.reduceAdd, Nat.reduceBEq, Nat.reduceEqDiff, Nat.reduceLeDiff, Nat.reduceLT, Nat.reduceSub, ↓reduceIte, zA, zI, zN, reduceCtorEq, Int.reduceToNat, zE]) ?_
  rintro r hp' ⟨m0, rfl, rfl, a0, b0⟩
  by_cases hm0 : m0 < 0
  · simp +contextual -dsimp (maxSteps := 2000000) only [↓SD, SU, SB, Nat.reduceAdd, Nat.reduceBEq, Nat.reduceEqDiff, Nat.reduceLeDiff, Nat.reduceLT, Nat.reduceSub, ↓reduceIte, zA, zI, zN, reduceCtorEq, Int.reduceToNat, zE, Int.reduceEq, Int.reduceLT, Int.reduceLE, Int.reduceNeg, Int.reduceAdd, Int.reduceSub, hm0]
  simp +contextual -dsimp (maxSteps := 2000000) only [↓SD, SU, SB, Nat.reduceAdd, Nat.reduceBEq, Nat.reduceEqDiff, Nat.reduceLeDiff, Nat.reduceLT, Nat.reduceSub, ↓reduceIte, zA, zI, zN, reduceCtorEq, Int.reduceToNat, zE, Int.reduceEq, Int.reduceLT, Int.reduceLE, Int.reduceNeg, Int.reduceAdd, Int.reduceSub, av_Code, map_len, false_and, ov_Code, ov_list, low_beq, hm0]
  repeat intro _
  refine aCallK_of _ T0 ?_
  simp +contextual -dsimp (maxSteps := 2000000) only [↓SD, SU, SB, Nat.reduceAdd, Nat.reduceBEq, Nat.reduceEqDiff, Nat.reduceLeDiff, Nat.reduceLT, Nat.reduceSub, ↓reduceIte, zA, zI, zN, reduceCtorEq, Int.reduceToNat, zE, Int.reduceEq, Int.reduceLT, Int.reduceLE, Int.reduceNeg, Int.reduceAdd, Int.reduceSub, av_Code, map_len, false_and, ov_Code, ov_list, low_beq]
  repeat intro _
  refine aCallK_of _ CS ?_
  simp +contextual -dsimp (maxSteps := 2000000) only [↓SD, SU, SB, Nat.reduceAdd, Nat.reduceBEq, Nat.reduceEqDiff, Nat.reduceLeDiff, Nat.reduceLT, Nat.reduceSub, ↓reduceIte, zA, zI, zN, reduceCtorEq, Int.reduceToNat, zE, Int.reduceEq, Int.reduceLT, Int.reduceLE, Int.reduceNeg, Int.reduceAdd, Int.reduceSub, av_Code, map_len, false_and, ov_Code, ov_list, low_beq]
  repeat intro _
  have O0 := toCode_own 1001 y0 hk0
  rw [av_Code] at O0
  refine aCallH_gen [] O0 (by simp +contextual -dsimp only [↓SD, SU, SB, Nat.reduceAdd, Nat.reduceBEq, Nat.reduceEqDiff, Nat.reduceLeDiff, Nat.reduceLT, Nat.reduceSub, ↓reduceIte, zA, zI, zN, reduceCtorEq, Int.reduceToNat, zE]) ?_
  rintro r hp' ⟨v0, rfl, rfl⟩ H1 hH1
  rw [hrest_no] at hH1
  have l0 : hpLe H1 (oh 1001 v0 y0) := by rw [hH1]; exact hpLe_l (OVal.self _ _ _)
  have o1 := old_app hH1 (by omega)
  have q1 := hpLe_root (hpLe_app.1 (show hpLe _ (oh (sub 1001 0) v0 y0.ins ++ oh (sub 1001 1) v0 y0.pats) from l0)).1
  have q2 := hpLe_root (hpLe_app.1 (show hpLe _ (oh (sub 1001 0) v0 y0.ins ++ oh (sub 1001 1) v0 y0.pats) from l0)).2
  simp +contextual -dsimp (maxSteps := 2000000) only [↓SD, SU, SB, Nat.reduceAdd, Nat.reduceBEq, Nat.reduceEqDiff, Nat.reduceLeDiff, Nat.reduceLT, Nat.reduceSub, ↓reduceIte, zA, zI, zN, reduceCtorEq, Int.reduceToNat, zE, Int.reduceEq, Int.reduceLT, Int.reduceLE, Int.reduceNeg, Int.reduceAdd, Int.reduceSub, av_Code, map_len, false_and, ov_Code, ov_list, low_beq, q1, q2, o1]
  repeat intro _
  refine aCallHL_gen (on 1001 y0) (CI 1010 (by omega)) (map_cons_eq (lend1 (nm := 1001) (vs := v0) (y := y0) (by repeat (first | exact l0 | refine hpLe_skip (fun h => by have := h.le; omega) ?_))) (rfl)) ?_
  rintro r hp' ⟨vg, rfl, rfl⟩
  refine ⟨⟨by simp only [AV.free, List.all_cons, List.all_nil, ov_free0]; rfl, hfree_app (oh_hfree _ _ _) (oh_hfree _ _ _)⟩, ?_⟩
  intro H2 hH2
  rw [List.append_assoc] at hH2
  have l3 : hpLe H2 (oh 1010 vg R0) := by rw [hH2]; exact hpLe_l (OVal.self _ _ _)
  have l4 : hpLe H2 (oh 1011 vg R1) := keep_app hH2 (fun k hk => apart_names (by omega) (by omega) (by omega) hk) (hpLe_l (OVal.self _ _ _))
  have l5 : hpLe H2 (oh 1001 v0 y0) := keep_app hH2 (fun k hk => apart_names (by omega) (by omega) (by omega) hk) (keep_app rfl (fun k hk => apart_names (by omega) (by omega) (by omega) hk) (by repeat (first | exact l0 | refine hpLe_skip (fun h => by have := h.le; omega) ?_)))
  have o2 := fun (q : Nat) (hq : q < 1000) => (old_app hH2 (by omega) q hq).trans (old_app (nm := 1011) (vs := vg) (y := R1) rfl (by omega) q hq)
  have q6 := hpLe_root (hpLe_app.1 (show hpLe _ (oh (sub 1001 0) v0 y0.ins ++ oh (sub 1001 1) v0 y0.pats) from l5)).1
  have q7 := hpLe_root (hpLe_app.1 (show hpLe _ (oh (sub 1001 0) v0 y0.ins ++ oh (sub 1001 1) v0 y0.pats) from l5)).2
  have q8 := hpLe_root l3
  have q9 := hpLe_root l4
  simp +contextual -dsimp (maxSteps := 2000000) only [↓SD, SU, SB, Nat.reduceAdd, Nat.reduceBEq, Nat.reduceEqDiff, Nat.reduceLeDiff, Nat.reduceLT, Nat.reduceSub, ↓reduceIte, zA, zI, zN, reduceCtorEq, Int.reduceToNat, zE, Int.reduceEq, Int.reduceLT, Int.reduceLE, Int.reduceNeg, Int.reduceAdd, Int.reduceSub, av_Code, map_len, false_and, ov_Code, ov_list, low_beq, q6, q7, q8, q9, o1, o2]
  repeat intro _
  refine aCallL_of (on 1010 R0) EL0 rfl (map_cons_eq (lend1 (nm := 1010) (vs := vg) (y := R0) (by repeat (first | exact l3 | refine hpLe_skip (fun h => by have := h.le; omega) ?_))) (map_cons_eq rfl (rfl))) ?_
  simp +contextual -dsimp (maxSteps := 2000000) only [↓SD, SU, SB, Nat.reduceAdd, Nat.reduceBEq, Nat.reduceEqDiff, Nat.reduceLeDiff, Nat.reduceLT, Nat.reduceSub, ↓reduceIte, zA, zI, zN, reduceCtorEq, Int.reduceToNat, zE, Int.reduceEq, Int.reduceLT, Int.reduceLE, Int.reduceNeg, Int.reduceAdd, Int.reduceSub, av_Code, map_len, false_and, ov_Code, ov_list, low_beq, q6, q7, q8, q9, o1, o2, beq_self_eq_true]
  repeat intro _
  refine aCallL_of (on 1011 R1) EL1 rfl (map_cons_eq (lend1 (nm := 1011) (vs := vg) (y := R1) (by repeat (first | exact l4 | refine hpLe_skip (fun h => by have := h.le; omega) ?_))) (map_cons_eq rfl (rfl))) ?_
  simp +contextual -dsimp (maxSteps := 2000000) only [↓SD, SU, SB, Nat.reduceAdd, Nat.reduceBEq, Nat.reduceEqDiff, Nat.reduceLeDiff, Nat.reduceLT, Nat.reduceSub, ↓reduceIte, zA, zI, zN, reduceCtorEq, Int.reduceToNat, zE, Int.reduceEq, Int.reduceLT, Int.reduceLE, Int.reduceNeg, Int.reduceAdd, Int.reduceSub, av_Code, map_len, false_and, ov_Code, ov_list, low_beq, q6, q7, q8, q9, o1, o2, beq_self_eq_true]
  repeat intro _
  refine aCallK_of _ T0 ?_
  simp +contextual -dsimp (maxSteps := 2000000) only [↓SD, SU, SB, Nat.reduceAdd, Nat.reduceBEq, Nat.reduceEqDiff, Nat.reduceLeDiff, Nat.reduceLT, Nat.reduceSub, ↓reduceIte, zA, zI, zN, reduceCtorEq, Int.reduceToNat, zE, Int.reduceEq, Int.reduceLT, Int.reduceLE, Int.reduceNeg, Int.reduceAdd, Int.reduceSub, av_Code, map_len, false_and, ov_Code, ov_list, low_beq, q6, q7, q8, q9, o1, o2]
  repeat intro _
  refine aCallL_of (on 1001 y0) E0 rfl (map_cons_eq (lend1 (nm := 1001) (vs := v0) (y := y0) (by repeat (first | exact l5 | refine hpLe_skip (fun h => by have := h.le; omega) ?_))) (map_cons_eq rfl (rfl))) ?_
  simp +contextual -dsimp (maxSteps := 2000000) only [↓SD, SU, SB, Nat.reduceAdd, Nat.reduceBEq, Nat.reduceEqDiff, Nat.reduceLeDiff, Nat.reduceLT, Nat.reduceSub, ↓reduceIte, zA, zI, zN, reduceCtorEq, Int.reduceToNat, zE, Int.reduceEq, Int.reduceLT, Int.reduceLE, Int.reduceNeg, Int.reduceAdd, Int.reduceSub, av_Code, map_len, false_and, ov_Code, ov_list, low_beq, q6, q7, q8, q9, o1, o2, beq_self_eq_true]
  repeat intro _
  refine aCallH_gen (on 1001 y0) (markCode_own 1001 v0 y0 _ (by omega) (by omega)) (hsel_on (by repeat (first | exact l5 | refine hpLe_skip (fun h => by have := h.le; omega) ?_))) ?_
  rintro r hp' ⟨rfl, rfl⟩ H3 hH3
  have l10 : hpLe H3 (oh 1001 v0 (mkv (1) y0)) := part_done hH3
  have l11 : hpLe H3 (oh 1010 vg R0) := part_other hH3 (fun k hk => apart_names (by omega) (by omega) (by omega) hk) (by repeat (first | exact l3 | refine hpLe_skip (fun h => by have := h.le; omega) ?_))
  have l12 : hpLe H3 (oh 1011 vg R1) := part_other hH3 (fun k hk => apart_names (by omega) (by omega) (by omega) hk) (by repeat (first | exact l4 | refine hpLe_skip (fun h => by have := h.le; omega) ?_))
  have o3 := old_part hH3 (by omega)
  have q13 := hpLe_root (hpLe_app.1 (show hpLe _ (oh (sub 1001 0) v0 ((mkv (1) y0)).ins ++ oh (sub 1001 1) v0 ((mkv (1) y0)).pats) from l10)).1
  have q14 := hpLe_root (hpLe_app.1 (show hpLe _ (oh (sub 1001 0) v0 ((mkv (1) y0)).ins ++ oh (sub 1001 1) v0 ((mkv (1) y0)).pats) from l10)).2
  have q15 := hpLe_root l11
  have q16 := hpLe_root l12
  have hg : ¬ 1 + (cnt y0 : Int) < 0 := by omega
  simp +contextual -dsimp (maxSteps := 2000000) only [↓SD, SU, SB, Nat.reduceAdd, Nat.reduceBEq, Nat.reduceEqDiff, Nat.reduceLeDiff, Nat.reduceLT, Nat.reduceSub, ↓reduceIte, zA, zI, zN, reduceCtorEq, Int.reduceToNat, zE, Int.reduceEq, Int.reduceLT, Int.reduceLE, Int.reduceNeg, Int.reduceAdd, Int.reduceSub, av_Code, map_len, false_and, ov_Code, ov_list, low_beq, q13, q14, q15, q16, o1, o2, o3, hg]
  repeat intro _
  refine aCallL_of (on 1010 R0) EL0 rfl (map_cons_eq (lend1 (nm := 1010) (vs := vg) (y := R0) (by repeat (first | exact l11 | refine hpLe_skip (fun h => by have := h.le; omega) ?_))) (map_cons_eq rfl (rfl))) ?_
  simp +contextual -dsimp (maxSteps := 2000000) only [↓SD, SU, SB, Nat.reduceAdd, Nat.reduceBEq, Nat.reduceEqDiff, Nat.reduceLeDiff, Nat.reduceLT, Nat.reduceSub, ↓reduceIte, zA, zI, zN, reduceCtorEq, Int.reduceToNat, zE, Int.reduceEq, Int.reduceLT, Int.reduceLE, Int.reduceNeg, Int.reduceAdd, Int.reduceSub, av_Code, map_len, false_and, ov_Code, ov_list, low_beq, q13, q14, q15, q16, o1, o2, o3, beq_self_eq_true]
  repeat intro _
  refine aCallL_of (on 1011 R1) EL1 rfl (map_cons_eq (lend1 (nm := 1011) (vs := vg) (y := R1) (by repeat (first | exact l12 | refine hpLe_skip (fun h => by have := h.le; omega) ?_))) (map_cons_eq rfl (rfl))) ?_
  simp +contextual -dsimp (maxSteps := 2000000) only [↓SD, SU, SB, Nat.reduceAdd, Nat.reduceBEq, Nat.reduceEqDiff, Nat.reduceLeDiff, Nat.reduceLT, Nat.reduceSub, ↓reduceIte, zA, zI, zN, reduceCtorEq, Int.reduceToNat, zE, Int.reduceEq, Int.reduceLT, Int.reduceLE, Int.reduceNeg, Int.reduceAdd, Int.reduceSub, av_Code, map_len, false_and, ov_Code, ov_list, low_beq, q13, q14, q15, q16, o1, o2, o3, beq_self_eq_true]
  repeat intro _
  refine aCallH_gen (on 1010 R0) (markIntS_own 1010 vg R0 _ (by omega) (by omega)) (hsel_on (by repeat (first | exact l11 | refine hpLe_skip (fun h => by have := h.le; omega) ?_))) ?_
  rintro r hp' ⟨rfl, rfl⟩ H4 hH4
  have l17 : hpLe H4 (oh 1001 v0 (mkv (1) y0)) := part_other hH4 (fun k hk => apart_names (by omega) (by omega) (by omega) hk) (by repeat (first | exact l10 | refine hpLe_skip (fun h => by have := h.le; omega) ?_))
  have l18 : hpLe H4 (oh 1010 vg (mkv (1) R0)) := part_done hH4
  have l19 : hpLe H4 (oh 1011 vg R1) := part_other hH4 (fun k hk => apart_names (by omega) (by omega) (by omega) hk) (by repeat (first | exact l12 | refine hpLe_skip (fun h => by have := h.le; omega) ?_))
  have o4 := old_part hH4 (by omega)
  have q20 := hpLe_root (hpLe_app.1 (show hpLe _ (oh (sub 1001 0) v0 ((mkv (1) y0)).ins ++ oh (sub 1001 1) v0 ((mkv (1) y0)).pats) from l17)).1
  have q21 := hpLe_root (hpLe_app.1 (show hpLe _ (oh (sub 1001 0) v0 ((mkv (1) y0)).ins ++ oh (sub 1001 1) v0 ((mkv (1) y0)).pats) from l17)).2
  have q22 := hpLe_root l18
  have q23 := hpLe_root l19
  simp +contextual -dsimp (maxSteps := 2000000) only [↓SD, SU, SB, Nat.reduceAdd, Nat.reduceBEq, Nat.reduceEqDiff, Nat.reduceLeDiff, Nat.reduceLT, Nat.reduceSub, ↓reduceIte, zA, zI, zN, reduceCtorEq, Int.reduceToNat, zE, Int.reduceEq, Int.reduceLT, Int.reduceLE, Int.reduceNeg, Int.reduceAdd, Int.reduceSub, av_Code, map_len, false_and, ov_Code, ov_list, low_beq, q20, q21, q22, q23, o1, o2, o3, o4]
  repeat intro _
  refine aCallH_gen (on 1011 R1) (markIntS_own 1011 vg R1 _ (by omega) (by omega)) (hsel_on (by repeat (first | exact l19 | refine hpLe_skip (fun h => by have := h.le; omega) ?_))) ?_
  rintro r hp' ⟨rfl, rfl⟩ H5 hH5
  have l24 : hpLe H5 (oh 1001 v0 (mkv (1) y0)) := part_other hH5 (fun k hk => apart_names (by omega) (by omega) (by omega) hk) (by repeat (first | exact l17 | refine hpLe_skip (fun h => by have := h.le; omega) ?_))
  have l25 : hpLe H5 (oh 1010 vg (mkv (1) R0)) := part_other hH5 (fun k hk => apart_names (by omega) (by omega) (by omega) hk) (by repeat (first | exact l18 | refine hpLe_skip (fun h => by have := h.le; omega) ?_))
  have l26 : hpLe H5 (oh 1011 vg (mkv (1 + (cnt R0 : Int)) R1)) := part_done hH5
  have o5 := old_part hH5 (by omega)
  have q27 := hpLe_root (hpLe_app.1 (show hpLe _ (oh (sub 1001 0) v0 ((mkv (1) y0)).ins ++ oh (sub 1001 1) v0 ((mkv (1) y0)).pats) from l24)).1
  have q28 := hpLe_root (hpLe_app.1 (show hpLe _ (oh (sub 1001 0) v0 ((mkv (1) y0)).ins ++ oh (sub 1001 1) v0 ((mkv (1) y0)).pats) from l24)).2
  have q29 := hpLe_root l25
  have q30 := hpLe_root l26
  simp +contextual -dsimp (maxSteps := 2000000) only [↓SD, SU, SB, Nat.reduceAdd, Nat.reduceBEq, Nat.reduceEqDiff, Nat.reduceLeDiff, Nat.reduceLT, Nat.reduceSub, ↓reduceIte, zA, zI, zN, reduceCtorEq, Int.reduceToNat, zE, Int.reduceEq, Int.reduceLT, Int.reduceLE, Int.reduceNeg, Int.reduceAdd, Int.reduceSub, av_Code, map_len, false_and, ov_Code, ov_list, low_beq, q27, q28, q29, q30, o1, o2, o3, o4, o5]
  repeat intro _
  have hh31 := heldIntS_own R0 (1) (by omega) (by omega)
  have hh31g : ¬ 1 + (cnt R0 : Int) < 0 := by omega
  rw [← cnt_list] at hh31
  refine aCallL_of (on 1010 ((mkv (1) R0))) hh31 rfl (map_cons_eq (lend1e (nm := 1010) (vs := vg) (y := ((mkv (1) R0))) (by rw [ov_list, mk_list, mkL_len]) (by repeat (first | exact l25 | refine hpLe_skip (fun h => by have := h.le; omega) ?_))) (map_cons_eq rfl (rfl))) ?_
  simp +contextual -dsimp (maxSteps := 2000000) only [↓SD, SU, SB, Nat.reduceAdd, Nat.reduceBEq, Nat.reduceEqDiff, Nat.reduceLeDiff, Nat.reduceLT, Nat.reduceSub, ↓reduceIte, zA, zI, zN, reduceCtorEq, Int.reduceToNat, zE, Int.reduceEq, Int.reduceLT, Int.reduceLE, Int.reduceNeg, Int.reduceAdd, Int.reduceSub, av_Code, map_len, false_and, ov_Code, ov_list, low_beq, q27, q28, q29, q30, o1, o2, o3, o4, o5, hh31g, beq_self_eq_true]
  repeat intro _
  have hh32 := heldIntS_own R1 (1 + (cnt R0 : Int)) (by omega) (by omega)
  have hh32g : ¬ 1 + (cnt R0 : Int) + (cnt R1 : Int) < 0 := by omega
  rw [← cnt_list] at hh32
  refine aCallL_of (on 1011 ((mkv (1 + (cnt R0 : Int)) R1))) hh32 rfl (map_cons_eq (lend1e (nm := 1011) (vs := vg) (y := ((mkv (1 + (cnt R0 : Int)) R1))) (by rw [ov_list, mk_list, mkL_len]) (by repeat (first | exact l26 | refine hpLe_skip (fun h => by have := h.le; omega) ?_))) (map_cons_eq rfl (rfl))) ?_
  simp +contextual -dsimp (maxSteps := 2000000) only [↓SD, SU, SB, Nat.reduceAdd, Nat.reduceBEq, Nat.reduceEqDiff, Nat.reduceLeDiff, Nat.reduceLT, Nat.reduceSub, ↓reduceIte, zA, zI, zN, reduceCtorEq, Int.reduceToNat, zE, Int.reduceEq, Int.reduceLT, Int.reduceLE, Int.reduceNeg, Int.reduceAdd, Int.reduceSub, av_Code, map_len, false_and, ov_Code, ov_list, low_beq, q27, q28, q29, q30, o1, o2, o3, o4, o5, hh32g, beq_self_eq_true]
  repeat intro _
  refine aCallK_of _ T0 ?_
  simp +contextual -dsimp (maxSteps := 2000000) only [↓SD, SU, SB, Nat.reduceAdd, Nat.reduceBEq, Nat.reduceEqDiff, Nat.reduceLeDiff, Nat.reduceLT, Nat.reduceSub, ↓reduceIte, zA, zI, zN, reduceCtorEq, Int.reduceToNat, zE, Int.reduceEq, Int.reduceLT, Int.reduceLE, Int.reduceNeg, Int.reduceAdd, Int.reduceSub, av_Code, map_len, false_and, ov_Code, ov_list, low_beq, q27, q28, q29, q30, o1, o2, o3, o4, o5]
  repeat intro _
  refine aCallH_gen [] (CI 1020 (by omega)) (by simp +contextual -dsimp only [↓SD, SU, SB, Nat.reduceAdd, Nat.reduceBEq, Nat.reduceEqDiff, Nat.reduceLeDiff, Nat.reduceLT, Nat.reduceSub, ↓reduceIte, zA, zI, zN, reduceCtorEq, Int.reduceToNat, zE]) ?_
  rintro r hp' ⟨vh, rfl, rfl⟩ H6 hH6
  rw [hrest_no] at hH6
  rw [List.append_assoc] at hH6
  have l33 : hpLe H6 (oh 1020 vh R0) := by rw [hH6]; exact hpLe_l (OVal.self _ _ _)
  have l34 : hpLe H6 (oh 1021 vh R1) := keep_app hH6 (fun k hk => apart_names (by omega) (by omega) (by omega) hk) (hpLe_l (OVal.self _ _ _))
  have l35 : hpLe H6 (oh 1001 v0 (mkv (1) y0)) := keep_app hH6 (fun k hk => apart_names (by omega) (by omega) (by omega) hk) (keep_app rfl (fun k hk => apart_names (by omega) (by omega) (by omega) hk) (by repeat (first | exact l24 | refine hpLe_skip (fun h => by have := h.le; omega) ?_)))
  have l36 : hpLe H6 (oh 1010 vg (mkv (1) R0)) := keep_app hH6 (fun k hk => apart_names (by omega) (by omega) (by omega) hk) (keep_app rfl (fun k hk => apart_names (by omega) (by omega) (by omega) hk) (by repeat (first | exact l25 | refine hpLe_skip (fun h => by have := h.le; omega) ?_)))
  have l37 : hpLe H6 (oh 1011 vg (mkv (1 + (cnt R0 : Int)) R1)) := keep_app hH6 (fun k hk => apart_names (by omega) (by omega) (by omega) hk) (keep_app rfl (fun k hk => apart_names (by omega) (by omega) (by omega) hk) (by repeat (first | exact l26 | refine hpLe_skip (fun h => by have := h.le; omega) ?_)))
  have o6 := fun (q : Nat) (hq : q < 1000) => (old_app hH6 (by omega) q hq).trans (old_app (nm := 1021) (vs := vh) (y := R1) rfl (by omega) q hq)
  have q38 := hpLe_root (hpLe_app.1 (show hpLe _ (oh (sub 1001 0) v0 ((mkv (1) y0)).ins ++ oh (sub 1001 1) v0 ((mkv (1) y0)).pats) from l35)).1
  have q39 := hpLe_root (hpLe_app.1 (show hpLe _ (oh (sub 1001 0) v0 ((mkv (1) y0)).ins ++ oh (sub 1001 1) v0 ((mkv (1) y0)).pats) from l35)).2
  have q40 := hpLe_root l36
  have q41 := hpLe_root l37
  have q42 := hpLe_root l33
  have q43 := hpLe_root l34
  simp +contextual -dsimp (maxSteps := 2000000) only [↓SD, SU, SB, Nat.reduceAdd, Nat.reduceBEq, Nat.reduceEqDiff, Nat.reduceLeDiff, Nat.reduceLT, Nat.reduceSub, ↓reduceIte, zA, zI, zN, reduceCtorEq, Int.reduceToNat, zE, Int.reduceEq, Int.reduceLT, Int.reduceLE, Int.reduceNeg, Int.reduceAdd, Int.reduceSub, av_Code, map_len, false_and, ov_Code, ov_list, low_beq, q38, q39, q40, q41, q42, q43, o1, o2, o3, o4, o5, o6]
  repeat intro _
  refine aCallL_of (on 1020 R0) EL0 rfl (map_cons_eq (lend1 (nm := 1020) (vs := vh) (y := R0) (by repeat (first | exact l33 | refine hpLe_skip (fun h => by have := h.le; omega) ?_))) (map_cons_eq rfl (rfl))) ?_
  simp +contextual -dsimp (maxSteps := 2000000) only [↓SD, SU, SB, Nat.reduceAdd, Nat.reduceBEq, Nat.reduceEqDiff, Nat.reduceLeDiff, Nat.reduceLT, Nat.reduceSub, ↓reduceIte, zA, zI, zN, reduceCtorEq, Int.reduceToNat, zE, Int.reduceEq, Int.reduceLT, Int.reduceLE, Int.reduceNeg, Int.reduceAdd, Int.reduceSub, av_Code, map_len, false_and, ov_Code, ov_list, low_beq, q38, q39, q40, q41, q42, q43, o1, o2, o3, o4, o5, o6, beq_self_eq_true]
  repeat intro _
  refine aCallL_of (on 1021 R1) EL1 rfl (map_cons_eq (lend1 (nm := 1021) (vs := vh) (y := R1) (by repeat (first | exact l34 | refine hpLe_skip (fun h => by have := h.le; omega) ?_))) (map_cons_eq rfl (rfl))) ?_
  simp +contextual -dsimp (maxSteps := 2000000) only [↓SD, SU, SB, Nat.reduceAdd, Nat.reduceBEq, Nat.reduceEqDiff, Nat.reduceLeDiff, Nat.reduceLT, Nat.reduceSub, ↓reduceIte, zA, zI, zN, reduceCtorEq, Int.reduceToNat, zE, Int.reduceEq, Int.reduceLT, Int.reduceLE, Int.reduceNeg, Int.reduceAdd, Int.reduceSub, av_Code, map_len, false_and, ov_Code, ov_list, low_beq, q38, q39, q40, q41, q42, q43, o1, o2, o3, o4, o5, o6, beq_self_eq_true]
  repeat intro _
  have hh44 := heldIntS_own R0 (1) (by omega) (by omega)
  have hh44g : ¬ 1 + (cnt R0 : Int) < 0 := by omega
  rw [← cnt_list] at hh44
  refine aCallL_of (on 1010 ((mkv (1) R0))) hh44 rfl (map_cons_eq (lend1e (nm := 1010) (vs := vg) (y := ((mkv (1) R0))) (by rw [ov_list, mk_list, mkL_len]) (by repeat (first | exact l36 | refine hpLe_skip (fun h => by have := h.le; omega) ?_))) (map_cons_eq rfl (rfl))) ?_
  simp +contextual -dsimp (maxSteps := 2000000) only [↓SD, SU, SB, Nat.reduceAdd, Nat.reduceBEq, Nat.reduceEqDiff, Nat.reduceLeDiff, Nat.reduceLT, Nat.reduceSub, ↓reduceIte, zA, zI, zN, reduceCtorEq, Int.reduceToNat, zE, Int.reduceEq, Int.reduceLT, Int.reduceLE, Int.reduceNeg, Int.reduceAdd, Int.reduceSub, av_Code, map_len, false_and, ov_Code, ov_list, low_beq, q38, q39, q40, q41, q42, q43, o1, o2, o3, o4, o5, o6, hh44g, beq_self_eq_true]
  repeat intro _
  have hh45 := heldIntS_own R1 (1 + (cnt R0 : Int)) (by omega) (by omega)
  have hh45g : ¬ 1 + (cnt R0 : Int) + (cnt R1 : Int) < 0 := by omega
  rw [← cnt_list] at hh45
  refine aCallL_of (on 1011 ((mkv (1 + (cnt R0 : Int)) R1))) hh45 rfl (map_cons_eq (lend1e (nm := 1011) (vs := vg) (y := ((mkv (1 + (cnt R0 : Int)) R1))) (by rw [ov_list, mk_list, mkL_len]) (by repeat (first | exact l37 | refine hpLe_skip (fun h => by have := h.le; omega) ?_))) (map_cons_eq rfl (rfl))) ?_
  simp +contextual -dsimp (maxSteps := 2000000) only [↓SD, SU, SB, Nat.reduceAdd, Nat.reduceBEq, Nat.reduceEqDiff, Nat.reduceLeDiff, Nat.reduceLT, Nat.reduceSub, ↓reduceIte, zA, zI, zN, reduceCtorEq, Int.reduceToNat, zE, Int.reduceEq, Int.reduceLT, Int.reduceLE, Int.reduceNeg, Int.reduceAdd, Int.reduceSub, av_Code, map_len, false_and, ov_Code, ov_list, low_beq, q38, q39, q40, q41, q42, q43, o1, o2, o3, o4, o5, o6, hh45g, beq_self_eq_true]
  repeat intro _
end Go.Proofs.YtabifanjbckchaaGreat
