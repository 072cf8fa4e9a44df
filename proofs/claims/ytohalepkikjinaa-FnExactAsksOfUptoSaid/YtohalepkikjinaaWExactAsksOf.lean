/-
  THE LAW FnExactAsksOf, by its abstract text: it returns true. Conditions: the arguments' bulk is at most 1048576. Printed by ownlaw.py.
-/
import Derived.Test.YtohalepkikjinaaOPat
import Derived.Test.YtohalepkikjinaaPackM
import Derived.Test.YtohalepkikjinaaPlanT
import Derived.Test.YtohalepkikjinaaIrLAsksOf
set_option linter.unusedVariables false
set_option linter.unusedSimpArgs false
set_option maxRecDepth 100000
namespace Go.Proofs.Ytohalepkikjinaa
open Go.RowKit Go.Proofs.Ytohalepkikjinaa.Av Go.Proofs.Ytohalepkikjinaa.Ml
open Go.Proofs.Ytohalepkikjinaa.Av.AVal (av)
open OVal (ov oh on)
open Mk (mkv cnt)

set_option maxHeartbeats 4000000 in
theorem lawAsksOf_ok (y0 : List Pat) (hk0 : Bulk.bulk y0 ≤ 1048576) : CallsF Try.prog 3 [.sl (y0.map av)] (.bool true) := by
  have hl0 := bulk_length y0
  refine fun_laws_FnExactAsksOf rfl (by simp; exact lav_clean y0) (AvPure.bool _) ?_
  have T0 := toPatS_ok y0 hk0
  have E0 := eqPatS_ok y0 hk0
  have B0 := MkB.le y0
  have CS := specAsksO_ok y0 hk0
  have CI := fun nm (hnm : nm < 9000) => implAsksO_ok nm y0 hk0
  obtain ⟨R0, hR0⟩ : ∃ R, R = asksR y0 := ⟨_, rfl⟩
  have hRb := asksR_bulk y0
  rw [← hR0] at hRb
  rw [← hR0] at CS CI
  have EL0 := eqAsks_ok R0 (by omega)
  have BL0 := MkB.le R0
  rw [av_Asks] at EL0
  simp +contextual -dsimp (maxSteps := 2000000) only [↓SD, SU, SB, Nat.reduceAdd, Nat.reduceBEq, Nat.reduceEqDiff, Nat.reduceLeDiff, Nat.reduceLT, Nat.reduceSub, ↓reduceIte, zA, zI, zN, reduceCtorEq, Int.reduceToNat, zE, Int.reduceEq, Int.reduceLT, Int.reduceLE, Int.reduceNeg, Int.reduceAdd, Int.reduceSub, ir_laws_FnExactAsksOf, rs_laws_FnExactAsksOf, map_len, false_and, ov_Asks, ov_list, av_Asks]
  refine aCallH_of [] (szPatS_ok y0 _ hk0 (by omega) (by omega)) (by simp +contextual -dsimp only [↓SD, SU, SB, Nat.reduceAdd, Nat.reduceBEq, Nat.reduceEqDiff, Nat.reduceLeDiff, Nat.reduceLT, Nat.reduceSub, ↓reduceIte, zA, zI, zN, reduceCtorEq, Int.reduceToNat, zE]) ?_
  rintro r hp' ⟨m0, rfl, rfl, a0, b0⟩
  by_cases hm0 : m0 < 0
  · simp +contextual -dsimp (maxSteps := 2000000) only [↓SD, SU, SB, Nat.reduceAdd, Nat.reduceBEq, Nat.reduceEqDiff, Nat.reduceLeDiff, Nat.reduceLT, Nat.reduceSub, ↓reduceIte, zA, zI, zN, reduceCtorEq, Int.reduceToNat, zE, Int.reduceEq, Int.reduceLT, Int.reduceLE, Int.reduceNeg, Int.reduceAdd, Int.reduceSub, hm0]
  simp +contextual -dsimp (maxSteps := 2000000) only [↓SD, SU, SB, Nat.reduceAdd, Nat.reduceBEq, Nat.reduceEqDiff, Nat.reduceLeDiff, Nat.reduceLT, Nat.reduceSub, ↓reduceIte, zA, zI, zN, reduceCtorEq, Int.reduceToNat, zE, Int.reduceEq, Int.reduceLT, Int.reduceLE, Int.reduceNeg, Int.reduceAdd, Int.reduceSub, map_len, false_and, ov_Asks, ov_list, av_Asks, low_beq, hm0]
  repeat intro _
  refine aCallK_of _ T0 ?_
  simp +contextual -dsimp (maxSteps := 2000000) only [↓SD, SU, SB, Nat.reduceAdd, Nat.reduceBEq, Nat.reduceEqDiff, Nat.reduceLeDiff, Nat.reduceLT, Nat.reduceSub, ↓reduceIte, zA, zI, zN, reduceCtorEq, Int.reduceToNat, zE, Int.reduceEq, Int.reduceLT, Int.reduceLE, Int.reduceNeg, Int.reduceAdd, Int.reduceSub, map_len, false_and, ov_Asks, ov_list, av_Asks, low_beq]
  repeat intro _
  refine aCallK_of _ CS ?_
  simp +contextual -dsimp (maxSteps := 2000000) only [↓SD, SU, SB, Nat.reduceAdd, Nat.reduceBEq, Nat.reduceEqDiff, Nat.reduceLeDiff, Nat.reduceLT, Nat.reduceSub, ↓reduceIte, zA, zI, zN, reduceCtorEq, Int.reduceToNat, zE, Int.reduceEq, Int.reduceLT, Int.reduceLE, Int.reduceNeg, Int.reduceAdd, Int.reduceSub, map_len, false_and, ov_Asks, ov_list, av_Asks, low_beq]
  repeat intro _
  have O0 := toPatS_own 1001 y0 hk0
  refine aCallH_gen [] O0 (by simp +contextual -dsimp only [↓SD, SU, SB, Nat.reduceAdd, Nat.reduceBEq, Nat.reduceEqDiff, Nat.reduceLeDiff, Nat.reduceLT, Nat.reduceSub, ↓reduceIte, zA, zI, zN, reduceCtorEq, Int.reduceToNat, zE]) ?_
  rintro r hp' ⟨v0, rfl, rfl⟩ H1 hH1
  rw [hrest_no] at hH1
  have l0 : hpLe H1 (oh 1001 v0 y0) := by rw [hH1]; exact hpLe_l (OVal.self _ _ _)
  have o1 := old_app hH1 (by omega)
  have q1 := hpLe_root l0
  simp +contextual -dsimp (maxSteps := 2000000) only [↓SD, SU, SB, Nat.reduceAdd, Nat.reduceBEq, Nat.reduceEqDiff, Nat.reduceLeDiff, Nat.reduceLT, Nat.reduceSub, ↓reduceIte, zA, zI, zN, reduceCtorEq, Int.reduceToNat, zE, Int.reduceEq, Int.reduceLT, Int.reduceLE, Int.reduceNeg, Int.reduceAdd, Int.reduceSub, map_len, false_and, ov_Asks, ov_list, av_Asks, low_beq, q1, o1]
  repeat intro _
  refine aCallHL_gen (on 1001 y0) (CI 1010 (by omega)) (map_cons_eq (lend1 (nm := 1001) (vs := v0) (y := y0) (by repeat (first | exact l0 | refine hpLe_skip (fun h => by have := h.le; omega) ?_))) (rfl)) ?_
  rintro r hp' ⟨vg, rfl, rfl⟩
  refine ⟨⟨by simp only [AV.free, List.all_cons, List.all_nil, ov_free0]; rfl, oh_hfree _ _ _⟩, ?_⟩
  intro H2 hH2
  have l2 : hpLe H2 (oh 1010 vg R0) := by rw [hH2]; exact hpLe_l (OVal.self _ _ _)
  have l3 : hpLe H2 (oh 1001 v0 y0) := keep_app hH2 (fun k hk => apart_names (by omega) (by omega) (by omega) hk) (by repeat (first | exact l0 | refine hpLe_skip (fun h => by have := h.le; omega) ?_))
  have o2 := old_app hH2 (by omega)
  have q4 := hpLe_root l3
  have q5 := hpLe_root (show hpLe _ (oh (sub 1010 0) vg R0.nodes) from l2)
  simp +contextual -dsimp (maxSteps := 2000000) only [↓SD, SU, SB, Nat.reduceAdd, Nat.reduceBEq, Nat.reduceEqDiff, Nat.reduceLeDiff, Nat.reduceLT, Nat.reduceSub, ↓reduceIte, zA, zI, zN, reduceCtorEq, Int.reduceToNat, zE, Int.reduceEq, Int.reduceLT, Int.reduceLE, Int.reduceNeg, Int.reduceAdd, Int.reduceSub, map_len, false_and, ov_Asks, ov_list, av_Asks, low_beq, q4, q5, o1, o2]
  repeat intro _
  refine aCallL_of (on 1010 R0) EL0 rfl (map_cons_eq (lend1 (nm := 1010) (vs := vg) (y := R0) (by repeat (first | exact l2 | refine hpLe_skip (fun h => by have := h.le; omega) ?_))) (map_cons_eq rfl (rfl))) ?_
  simp +contextual -dsimp (maxSteps := 2000000) only [↓SD, SU, SB, Nat.reduceAdd, Nat.reduceBEq, Nat.reduceEqDiff, Nat.reduceLeDiff, Nat.reduceLT, Nat.reduceSub, ↓reduceIte, zA, zI, zN, reduceCtorEq, Int.reduceToNat, zE, Int.reduceEq, Int.reduceLT, Int.reduceLE, Int.reduceNeg, Int.reduceAdd, Int.reduceSub, map_len, false_and, ov_Asks, ov_list, av_Asks, low_beq, q4, q5, o1, o2, beq_self_eq_true]
  repeat intro _
  refine aCallK_of _ T0 ?_
  simp +contextual -dsimp (maxSteps := 2000000) only [↓SD, SU, SB, Nat.reduceAdd, Nat.reduceBEq, Nat.reduceEqDiff, Nat.reduceLeDiff, Nat.reduceLT, Nat.reduceSub, ↓reduceIte, zA, zI, zN, reduceCtorEq, Int.reduceToNat, zE, Int.reduceEq, Int.reduceLT, Int.reduceLE, Int.reduceNeg, Int.reduceAdd, Int.reduceSub, map_len, false_and, ov_Asks, ov_list, av_Asks, low_beq, q4, q5, o1, o2]
  repeat intro _
  refine aCallL_of (on 1001 y0) E0 rfl (map_cons_eq (lend1 (nm := 1001) (vs := v0) (y := y0) (by repeat (first | exact l3 | refine hpLe_skip (fun h => by have := h.le; omega) ?_))) (map_cons_eq rfl (rfl))) ?_
  simp +contextual -dsimp (maxSteps := 2000000) only [↓SD, SU, SB, Nat.reduceAdd, Nat.reduceBEq, Nat.reduceEqDiff, Nat.reduceLeDiff, Nat.reduceLT, Nat.reduceSub, ↓reduceIte, zA, zI, zN, reduceCtorEq, Int.reduceToNat, zE, Int.reduceEq, Int.reduceLT, Int.reduceLE, Int.reduceNeg, Int.reduceAdd, Int.reduceSub, map_len, false_and, ov_Asks, ov_list, av_Asks, low_beq, q4, q5, o1, o2, beq_self_eq_true]
  repeat intro _
  refine aCallH_gen (on 1001 y0) (markPatS_own 1001 v0 y0 _ (by omega) (by omega)) (hsel_on (by repeat (first | exact l3 | refine hpLe_skip (fun h => by have := h.le; omega) ?_))) ?_
  rintro r hp' ⟨rfl, rfl⟩ H3 hH3
  have l6 : hpLe H3 (oh 1001 v0 (mkv (1) y0)) := part_done hH3
  have l7 : hpLe H3 (oh 1010 vg R0) := part_other hH3 (fun k hk => apart_names (by omega) (by omega) (by omega) hk) (by repeat (first | exact l2 | refine hpLe_skip (fun h => by have := h.le; omega) ?_))
  have o3 := old_part hH3 (by omega)
  have q8 := hpLe_root l6
  have q9 := hpLe_root (show hpLe _ (oh (sub 1010 0) vg R0.nodes) from l7)
  have hg : ¬ 1 + (cnt y0 : Int) < 0 := by omega
  simp +contextual -dsimp (maxSteps := 2000000) only [↓SD, SU, SB, Nat.reduceAdd, Nat.reduceBEq, Nat.reduceEqDiff, Nat.reduceLeDiff, Nat.reduceLT, Nat.reduceSub, ↓reduceIte, zA, zI, zN, reduceCtorEq, Int.reduceToNat, zE, Int.reduceEq, Int.reduceLT, Int.reduceLE, Int.reduceNeg, Int.reduceAdd, Int.reduceSub, map_len, false_and, ov_Asks, ov_list, av_Asks, low_beq, q8, q9, o1, o2, o3, hg]
  repeat intro _
  refine aCallL_of (on 1010 R0) EL0 rfl (map_cons_eq (lend1 (nm := 1010) (vs := vg) (y := R0) (by repeat (first | exact l7 | refine hpLe_skip (fun h => by have := h.le; omega) ?_))) (map_cons_eq rfl (rfl))) ?_
  simp +contextual -dsimp (maxSteps := 2000000) only [↓SD, SU, SB, Nat.reduceAdd, Nat.reduceBEq, Nat.reduceEqDiff, Nat.reduceLeDiff, Nat.reduceLT, Nat.reduceSub, ↓reduceIte, zA, zI, zN, reduceCtorEq, Int.reduceToNat, zE, Int.reduceEq, Int.reduceLT, Int.reduceLE, Int.reduceNeg, Int.reduceAdd, Int.reduceSub, map_len, false_and, ov_Asks, ov_list, av_Asks, low_beq, q8, q9, o1, o2, o3, beq_self_eq_true]
  repeat intro _
  refine aCallH_gen (on 1010 R0) (markAsks_own 1010 vg R0 _ (by omega) (by omega)) (hsel_on (by repeat (first | exact l7 | refine hpLe_skip (fun h => by have := h.le; omega) ?_))) ?_
  rintro r hp' ⟨rfl, rfl⟩ H4 hH4
  have l10 : hpLe H4 (oh 1001 v0 (mkv (1) y0)) := part_other hH4 (fun k hk => apart_names (by omega) (by omega) (by omega) hk) (by repeat (first | exact l6 | refine hpLe_skip (fun h => by have := h.le; omega) ?_))
  have l11 : hpLe H4 (oh 1010 vg (mkv (1) R0)) := part_done hH4
  have o4 := old_part hH4 (by omega)
  have q12 := hpLe_root l10
  have q13 := hpLe_root (show hpLe _ (oh (sub 1010 0) vg ((mkv (1) R0)).nodes) from l11)
  simp +contextual -dsimp (maxSteps := 2000000) only [↓SD, SU, SB, Nat.reduceAdd, Nat.reduceBEq, Nat.reduceEqDiff, Nat.reduceLeDiff, Nat.reduceLT, Nat.reduceSub, ↓reduceIte, zA, zI, zN, reduceCtorEq, Int.reduceToNat, zE, Int.reduceEq, Int.reduceLT, Int.reduceLE, Int.reduceNeg, Int.reduceAdd, Int.reduceSub, map_len, false_and, ov_Asks, ov_list, av_Asks, low_beq, q12, q13, o1, o2, o3, o4]
  repeat intro _
  have hh14 := heldAsks_own R0 (1) (by omega) (by omega)
  have hh14g : ¬ 1 + (cnt R0 : Int) < 0 := by omega
  refine aCallL_of (on 1010 ((mkv (1) R0))) hh14 rfl (map_cons_eq (lend1e (nm := 1010) (vs := vg) (y := ((mkv (1) R0))) (by rw [mk_Asks, ov_Asks]; simp only [mkL_len]) (by repeat (first | exact l11 | refine hpLe_skip (fun h => by have := h.le; omega) ?_))) (map_cons_eq rfl (rfl))) ?_
  simp +contextual -dsimp (maxSteps := 2000000) only [↓SD, SU, SB, Nat.reduceAdd, Nat.reduceBEq, Nat.reduceEqDiff, Nat.reduceLeDiff, Nat.reduceLT, Nat.reduceSub, ↓reduceIte, zA, zI, zN, reduceCtorEq, Int.reduceToNat, zE, Int.reduceEq, Int.reduceLT, Int.reduceLE, Int.reduceNeg, Int.reduceAdd, Int.reduceSub, map_len, false_and, ov_Asks, ov_list, av_Asks, low_beq, q12, q13, o1, o2, o3, o4, hh14g, beq_self_eq_true]
  repeat intro _
  refine aCallK_of _ T0 ?_
  simp +contextual -dsimp (maxSteps := 2000000) only [↓SD, SU, SB, Nat.reduceAdd, Nat.reduceBEq, Nat.reduceEqDiff, Nat.reduceLeDiff, Nat.reduceLT, Nat.reduceSub, ↓reduceIte, zA, zI, zN, reduceCtorEq, Int.reduceToNat, zE, Int.reduceEq, Int.reduceLT, Int.reduceLE, Int.reduceNeg, Int.reduceAdd, Int.reduceSub, map_len, false_and, ov_Asks, ov_list, av_Asks, low_beq, q12, q13, o1, o2, o3, o4]
  repeat intro _
  refine aCallH_gen [] (CI 1020 (by omega)) (by simp +contextual -dsimp only [↓SD, SU, SB, Nat.reduceAdd, Nat.reduceBEq, Nat.reduceEqDiff, Nat.reduceLeDiff, Nat.reduceLT, Nat.reduceSub, ↓reduceIte, zA, zI, zN, reduceCtorEq, Int.reduceToNat, zE]) ?_
  rintro r hp' ⟨vh, rfl, rfl⟩ H5 hH5
  rw [hrest_no] at hH5
  have l15 : hpLe H5 (oh 1020 vh R0) := by rw [hH5]; exact hpLe_l (OVal.self _ _ _)
  have l16 : hpLe H5 (oh 1001 v0 (mkv (1) y0)) := keep_app hH5 (fun k hk => apart_names (by omega) (by omega) (by omega) hk) (by repeat (first | exact l10 | refine hpLe_skip (fun h => by have := h.le; omega) ?_))
  have l17 : hpLe H5 (oh 1010 vg (mkv (1) R0)) := keep_app hH5 (fun k hk => apart_names (by omega) (by omega) (by omega) hk) (by repeat (first | exact l11 | refine hpLe_skip (fun h => by have := h.le; omega) ?_))
  have o5 := old_app hH5 (by omega)
  have q18 := hpLe_root l16
  have q19 := hpLe_root (show hpLe _ (oh (sub 1010 0) vg ((mkv (1) R0)).nodes) from l17)
  have q20 := hpLe_root (show hpLe _ (oh (sub 1020 0) vh R0.nodes) from l15)
  simp +contextual -dsimp (maxSteps := 2000000) only [↓SD, SU, SB, Nat.reduceAdd, Nat.reduceBEq, Nat.reduceEqDiff, Nat.reduceLeDiff, Nat.reduceLT, Nat.reduceSub, ↓reduceIte, zA, zI, zN, reduceCtorEq, Int.reduceToNat, zE, Int.reduceEq, Int.reduceLT, Int.reduceLE, Int.reduceNeg, Int.reduceAdd, Int.reduceSub, map_len, false_and, ov_Asks, ov_list, av_Asks, low_beq, q18, q19, q20, o1, o2, o3, o4, o5]
  repeat intro _
  refine aCallL_of (on 1020 R0) EL0 rfl (map_cons_eq (lend1 (nm := 1020) (vs := vh) (y := R0) (by repeat (first | exact l15 | refine hpLe_skip (fun h => by have := h.le; omega) ?_))) (map_cons_eq rfl (rfl))) ?_
  simp +contextual -dsimp (maxSteps := 2000000) only [↓SD, SU, SB, Nat.reduceAdd, Nat.reduceBEq, Nat.reduceEqDiff, Nat.reduceLeDiff, Nat.reduceLT, Nat.reduceSub, ↓reduceIte, zA, zI, zN, reduceCtorEq, Int.reduceToNat, zE, Int.reduceEq, Int.reduceLT, Int.reduceLE, Int.reduceNeg, Int.reduceAdd, Int.reduceSub, map_len, false_and, ov_Asks, ov_list, av_Asks, low_beq, q18, q19, q20, o1, o2, o3, o4, o5, beq_self_eq_true]
  repeat intro _
  have hh21 := heldAsks_own R0 (1) (by omega) (by omega)
  have hh21g : ¬ 1 + (cnt R0 : Int) < 0 := by omega
  refine aCallL_of (on 1010 ((mkv (1) R0))) hh21 rfl (map_cons_eq (lend1e (nm := 1010) (vs := vg) (y := ((mkv (1) R0))) (by rw [mk_Asks, ov_Asks]; simp only [mkL_len]) (by repeat (first | exact l17 | refine hpLe_skip (fun h => by have := h.le; omega) ?_))) (map_cons_eq rfl (rfl))) ?_
  simp +contextual -dsimp (maxSteps := 2000000) only [↓SD, SU, SB, Nat.reduceAdd, Nat.reduceBEq, Nat.reduceEqDiff, Nat.reduceLeDiff, Nat.reduceLT, Nat.reduceSub, ↓reduceIte, zA, zI, zN, reduceCtorEq, Int.reduceToNat, zE, Int.reduceEq, Int.reduceLT, Int.reduceLE, Int.reduceNeg, Int.reduceAdd, Int.reduceSub, map_len, false_and, ov_Asks, ov_list, av_Asks, low_beq, q18, q19, q20, o1, o2, o3, o4, o5, hh21g, beq_self_eq_true]
  repeat intro _
end Go.Proofs.Ytohalepkikjinaa
