/-
  THE LAW FnExactNames, by its abstract text: it returns true. Conditions: the arguments' bulk is at most 1048576. Printed by ownlaw.py.
-/
import Derived.Test.YtbcifdnfhoikiaaGreatPackM
import Derived.Test.YtbcifdnfhoikiaaGreatPackN
import Derived.Test.YtbcifdnfhoikiaaGreatIrLNames
set_option linter.unusedVariables false
set_option linter.unusedSimpArgs false
set_option maxRecDepth 100000
namespace Go.Proofs.YtbcifdnfhoikiaaGreat
open Go.RowKit Go.Proofs.YtbcifdnfhoikiaaGreat.Av Go.Proofs.YtbcifdnfhoikiaaGreat.Ml
open Go.Proofs.YtbcifdnfhoikiaaGreat.Av.AVal (av)
open OVal (ov oh on)
open Mk (mkv cnt)

set_option maxHeartbeats 4000000 in
theorem lawNames_ok (y0 : Program) (hk0 : Bulk.bulk y0 ≤ 1048576) : CallsF Tryz.prog 3 [av y0] (.bool true) := by
  have hb0 : Bulk.bulk y0.types + Bulk.bulk y0.nodes + 1 ≤ 1048576 := hk0
  refine fun_laws_FnExactNames rfl (by simp; exact AVal.clean y0) (AvPure.bool _) ?_
  have T0 := toProgram_ok y0 hk0
  have E0 := eqProgram_ok y0 hk0
  rw [av_Program] at T0 E0
  have B0 := MkB.le y0
  have CS := specNamesO_ok y0 hk0
  have CI := fun nm (hnm : nm < 9000) => implNamesO_ok nm y0 hk0
  obtain ⟨R0, hR0⟩ : ∃ R, R = namesO y0 := ⟨_, rfl⟩
  have hRl := namesO_bulk y0
  rw [← hR0] at hRl
  have hRn := bulk_length R0
  rw [← hR0] at CS CI
  have EL0 := eqStringS_ok R0 (by omega)
  have BL0 := MkB.le R0
  try simp only [av_Program] at CS CI
  simp +contextual -dsimp (maxSteps := 2000000) only [↓SD, SU, SB, Nat.reduceAdd, Nat.reduceBEq, Nat.reduceEqDiff, Nat.reduceLeDiff, Nat.reduceLT, Nat.reduceSub, ↓reduceIte, zA, zI, zN, reduceCtorEq, Int.reduceToNat, zE, Int.reduceEq, Int.reduceLT, Int.reduceLE, Int.reduceNeg, Int.reduceAdd, Int.reduceSub, ir_laws_FnExactNames, rs_laws_FnExactNames, av_Program, map_len, false_and, ov_Program, ov_list]
  have Z0 := fun n h1 h2 => szProgram_ok y0 n hk0 h1 h2
  rw [av_Program] at Z0
  refine aCallH_of [] (Z0 _ (by omega) (by omega)) (by simp +contextual -dsimp only [↓SD, SU, SB, Nat.reduceAdd, Nat.reduceBEq, Nat.reduceEqDiff, Nat.reduceLeDiff, Nat.reduceLT, Nat.reduceSub, ↓reduceIte, zA, zI, zN, reduceCtorEq, Int.reduceToNat, zE]) ?_
  rintro r hp' ⟨m0, rfl, rfl, a0, b0⟩
  by_cases hm0 : m0 < 0
  · simp +contextual -dsimp (maxSteps := 2000000) only [↓SD, SU, SB, Nat.reduceAdd, Nat.reduceBEq, Nat.reduceEqDiff, Nat.reduceLeDiff, Nat.reduceLT, Nat.reduceSub, ↓reduceIte, zA, zI, zN, reduceCtorEq, Int.reduceToNat, zE, Int.reduceEq, Int.reduceLT, Int.reduceLE, Int.reduceNeg, Int.reduceAdd, Int.reduceSub, hm0]
  simp +contextual -dsimp (maxSteps := 2000000) only [↓SD, SU, SB, Nat.reduceAdd, Nat.reduceBEq, Nat.reduceEqDiff, Nat.reduceLeDiff, Nat.reduceLT, Nat.reduceSub, ↓reduceIte, zA, zI, zN, reduceCtorEq, Int.reduceToNat, zE, Int.reduceEq, Int.reduceLT, Int.reduceLE, Int.reduceNeg, Int.reduceAdd, Int.reduceSub, av_Program, map_len, false_and, ov_Program, ov_list, low_beq, hm0]
  repeat intro _
  refine aCallK_of _ T0 ?_
  simp +contextual -dsimp (maxSteps := 2000000) only [↓SD, SU, SB, Nat.reduceAdd, Nat.reduceBEq, Nat.reduceEqDiff, Nat.reduceLeDiff, Nat.reduceLT, Nat.reduceSub, ↓reduceIte, zA, zI, zN, reduceCtorEq, Int.reduceToNat, zE, Int.reduceEq, Int.reduceLT, Int.reduceLE, Int.reduceNeg, Int.reduceAdd, Int.reduceSub, av_Program, map_len, false_and, ov_Program, ov_list, low_beq]
  repeat intro _
  refine aCallK_of _ CS ?_
  simp +contextual -dsimp (maxSteps := 2000000) only [↓SD, SU, SB, Nat.reduceAdd, Nat.reduceBEq, Nat.reduceEqDiff, Nat.reduceLeDiff, Nat.reduceLT, Nat.reduceSub, ↓reduceIte, zA, zI, zN, reduceCtorEq, Int.reduceToNat, zE, Int.reduceEq, Int.reduceLT, Int.reduceLE, Int.reduceNeg, Int.reduceAdd, Int.reduceSub, av_Program, map_len, false_and, ov_Program, ov_list, low_beq]
  repeat intro _
  have O0 := toProgram_own 1001 y0 hk0
  rw [av_Program] at O0
  refine aCallH_gen [] O0 (by simp +contextual -dsimp only [↓SD, SU, SB, Nat.reduceAdd, Nat.reduceBEq, Nat.reduceEqDiff, Nat.reduceLeDiff, Nat.reduceLT, Nat.reduceSub, ↓reduceIte, zA, zI, zN, reduceCtorEq, Int.reduceToNat, zE]) ?_
  rintro r hp' ⟨v0, rfl, rfl⟩ H1 hH1
  rw [hrest_no] at hH1
  have l0 : hpLe H1 (oh 1001 v0 y0) := by rw [hH1]; exact hpLe_l (OVal.self _ _ _)
  have o1 := old_app hH1 (by omega)
  have q1 := hpLe_root (hpLe_app.1 (show hpLe _ (oh (sub 1001 0) v0 y0.types ++ oh (sub 1001 1) v0 y0.nodes) from l0)).1
  have q2 := hpLe_root (hpLe_app.1 (show hpLe _ (oh (sub 1001 0) v0 y0.types ++ oh (sub 1001 1) v0 y0.nodes) from l0)).2
  simp +contextual -dsimp (maxSteps := 2000000) only [↓SD, SU, SB, Nat.reduceAdd, Nat.reduceBEq, Nat.reduceEqDiff, Nat.reduceLeDiff, Nat.reduceLT, Nat.reduceSub, ↓reduceIte, zA, zI, zN, reduceCtorEq, Int.reduceToNat, zE, Int.reduceEq, Int.reduceLT, Int.reduceLE, Int.reduceNeg, Int.reduceAdd, Int.reduceSub, av_Program, map_len, false_and, ov_Program, ov_list, low_beq, q1, q2, o1]
  repeat intro _
  refine aCallHL_gen (on 1001 y0) (CI 1010 (by omega)) (map_cons_eq (lend1 (nm := 1001) (vs := v0) (y := y0) (by repeat (first | exact l0 | refine hpLe_skip (fun h => by have := h.le; omega) ?_))) (rfl)) ?_
  rintro r hp' ⟨vg, rfl, rfl⟩
  refine ⟨⟨ov_free _ _ _, oh_hfree _ _ _⟩, ?_⟩
  intro H2 hH2
  have l3 : hpLe H2 (oh 1010 vg R0) := by rw [hH2]; exact hpLe_l (OVal.self _ _ _)
  have l4 : hpLe H2 (oh 1001 v0 y0) := keep_app hH2 (fun k hk => apart_names (by omega) (by omega) (by omega) hk) (by repeat (first | exact l0 | refine hpLe_skip (fun h => by have := h.le; omega) ?_))
  have o2 := old_app hH2 (by omega)
  have q5 := hpLe_root (hpLe_app.1 (show hpLe _ (oh (sub 1001 0) v0 y0.types ++ oh (sub 1001 1) v0 y0.nodes) from l4)).1
  have q6 := hpLe_root (hpLe_app.1 (show hpLe _ (oh (sub 1001 0) v0 y0.types ++ oh (sub 1001 1) v0 y0.nodes) from l4)).2
  have q7 := hpLe_root l3
  simp +contextual -dsimp (maxSteps := 2000000) only [↓SD, SU, SB, Nat.reduceAdd, Nat.reduceBEq, Nat.reduceEqDiff, Nat.reduceLeDiff, Nat.reduceLT, Nat.reduceSub, ↓reduceIte, zA, zI, zN, reduceCtorEq, Int.reduceToNat, zE, Int.reduceEq, Int.reduceLT, Int.reduceLE, Int.reduceNeg, Int.reduceAdd, Int.reduceSub, av_Program, map_len, false_and, ov_Program, ov_list, low_beq, q5, q6, q7, o1, o2]
  repeat intro _
  refine aCallL_of (on 1010 R0) EL0 rfl (map_cons_eq (lend1 (nm := 1010) (vs := vg) (y := R0) (by repeat (first | exact l3 | refine hpLe_skip (fun h => by have := h.le; omega) ?_))) (map_cons_eq rfl (rfl))) ?_
  simp +contextual -dsimp (maxSteps := 2000000) only [↓SD, SU, SB, Nat.reduceAdd, Nat.reduceBEq, Nat.reduceEqDiff, Nat.reduceLeDiff, Nat.reduceLT, Nat.reduceSub, ↓reduceIte, zA, zI, zN, reduceCtorEq, Int.reduceToNat, zE, Int.reduceEq, Int.reduceLT, Int.reduceLE, Int.reduceNeg, Int.reduceAdd, Int.reduceSub, av_Program, map_len, false_and, ov_Program, ov_list, low_beq, q5, q6, q7, o1, o2, beq_self_eq_true]
  repeat intro _
  refine aCallK_of _ T0 ?_
  simp +contextual -dsimp (maxSteps := 2000000) only [↓SD, SU, SB, Nat.reduceAdd, Nat.reduceBEq, Nat.reduceEqDiff, Nat.reduceLeDiff, Nat.reduceLT, Nat.reduceSub, ↓reduceIte, zA, zI, zN, reduceCtorEq, Int.reduceToNat, zE, Int.reduceEq, Int.reduceLT, Int.reduceLE, Int.reduceNeg, Int.reduceAdd, Int.reduceSub, av_Program, map_len, false_and, ov_Program, ov_list, low_beq, q5, q6, q7, o1, o2]
  repeat intro _
  refine aCallL_of (on 1001 y0) E0 rfl (map_cons_eq (lend1 (nm := 1001) (vs := v0) (y := y0) (by repeat (first | exact l4 | refine hpLe_skip (fun h => by have := h.le; omega) ?_))) (map_cons_eq rfl (rfl))) ?_
  simp +contextual -dsimp (maxSteps := 2000000) only [↓SD, SU, SB, Nat.reduceAdd, Nat.reduceBEq, Nat.reduceEqDiff, Nat.reduceLeDiff, Nat.reduceLT, Nat.reduceSub, ↓reduceIte, zA, zI, zN, reduceCtorEq, Int.reduceToNat, zE, Int.reduceEq, Int.reduceLT, Int.reduceLE, Int.reduceNeg, Int.reduceAdd, Int.reduceSub, av_Program, map_len, false_and, ov_Program, ov_list, low_beq, q5, q6, q7, o1, o2, beq_self_eq_true]
  repeat intro _
  refine aCallH_gen (on 1001 y0) (markProgram_own 1001 v0 y0 _ (by omega) (by omega)) (hsel_on (by repeat (first | exact l4 | refine hpLe_skip (fun h => by have := h.le; omega) ?_))) ?_
  rintro r hp' ⟨rfl, rfl⟩ H3 hH3
  have l8 : hpLe H3 (oh 1001 v0 (mkv (1) y0)) := part_done hH3
  have l9 : hpLe H3 (oh 1010 vg R0) := part_other hH3 (fun k hk => apart_names (by omega) (by omega) (by omega) hk) (by repeat (first | exact l3 | refine hpLe_skip (fun h => by have := h.le; omega) ?_))
  have o3 := old_part hH3 (by omega)
  have q10 := hpLe_root (hpLe_app.1 (show hpLe _ (oh (sub 1001 0) v0 ((mkv (1) y0)).types ++ oh (sub 1001 1) v0 ((mkv (1) y0)).nodes) from l8)).1
  have q11 := hpLe_root (hpLe_app.1 (show hpLe _ (oh (sub 1001 0) v0 ((mkv (1) y0)).types ++ oh (sub 1001 1) v0 ((mkv (1) y0)).nodes) from l8)).2
  have q12 := hpLe_root l9
  have hg : ¬ 1 + (cnt y0 : Int) < 0 := by omega
  simp +contextual -dsimp (maxSteps := 2000000) only [↓SD, SU, SB, Nat.reduceAdd, Nat.reduceBEq, Nat.reduceEqDiff, Nat.reduceLeDiff, Nat.reduceLT, Nat.reduceSub, ↓reduceIte, zA, zI, zN, reduceCtorEq, Int.reduceToNat, zE, Int.reduceEq, Int.reduceLT, Int.reduceLE, Int.reduceNeg, Int.reduceAdd, Int.reduceSub, av_Program, map_len, false_and, ov_Program, ov_list, low_beq, q10, q11, q12, o1, o2, o3, hg]
  repeat intro _
  refine aCallL_of (on 1010 R0) EL0 rfl (map_cons_eq (lend1 (nm := 1010) (vs := vg) (y := R0) (by repeat (first | exact l9 | refine hpLe_skip (fun h => by have := h.le; omega) ?_))) (map_cons_eq rfl (rfl))) ?_
  simp +contextual -dsimp (maxSteps := 2000000) only [↓SD, SU, SB, Nat.reduceAdd, Nat.reduceBEq, Nat.reduceEqDiff, Nat.reduceLeDiff, Nat.reduceLT, Nat.reduceSub, ↓reduceIte, zA, zI, zN, reduceCtorEq, Int.reduceToNat, zE, Int.reduceEq, Int.reduceLT, Int.reduceLE, Int.reduceNeg, Int.reduceAdd, Int.reduceSub, av_Program, map_len, false_and, ov_Program, ov_list, low_beq, q10, q11, q12, o1, o2, o3, beq_self_eq_true]
  repeat intro _
  refine aCallH_gen (on 1010 R0) (markStringS_own 1010 vg R0 _ (by omega) (by omega)) (hsel_on (by repeat (first | exact l9 | refine hpLe_skip (fun h => by have := h.le; omega) ?_))) ?_
  rintro r hp' ⟨rfl, rfl⟩ H4 hH4
  have l13 : hpLe H4 (oh 1001 v0 (mkv (1) y0)) := part_other hH4 (fun k hk => apart_names (by omega) (by omega) (by omega) hk) (by repeat (first | exact l8 | refine hpLe_skip (fun h => by have := h.le; omega) ?_))
  have l14 : hpLe H4 (oh 1010 vg (mkv (1) R0)) := part_done hH4
  have o4 := old_part hH4 (by omega)
  have q15 := hpLe_root (hpLe_app.1 (show hpLe _ (oh (sub 1001 0) v0 ((mkv (1) y0)).types ++ oh (sub 1001 1) v0 ((mkv (1) y0)).nodes) from l13)).1
  have q16 := hpLe_root (hpLe_app.1 (show hpLe _ (oh (sub 1001 0) v0 ((mkv (1) y0)).types ++ oh (sub 1001 1) v0 ((mkv (1) y0)).nodes) from l13)).2
  have q17 := hpLe_root l14
  simp +contextual -dsimp (maxSteps := 2000000) only [↓SD, SU, SB, Nat.reduceAdd, Nat.reduceBEq, Nat.reduceEqDiff, Nat.reduceLeDiff, Nat.reduceLT, Nat.reduceSub, ↓reduceIte, zA, zI, zN, reduceCtorEq, Int.reduceToNat, zE, Int.reduceEq, Int.reduceLT, Int.reduceLE, Int.reduceNeg, Int.reduceAdd, Int.reduceSub, av_Program, map_len, false_and, ov_Program, ov_list, low_beq, q15, q16, q17, o1, o2, o3, o4]
  repeat intro _
  have hh18 := heldStringS_own R0 (1) (by omega) (by omega)
  have hh18g : ¬ 1 + (cnt R0 : Int) < 0 := by omega
  rw [← cnt_list] at hh18
  refine aCallL_of (on 1010 ((mkv (1) R0))) hh18 rfl (map_cons_eq (lend1e (nm := 1010) (vs := vg) (y := ((mkv (1) R0))) (by rw [ov_list, mk_list, mkL_len]) (by repeat (first | exact l14 | refine hpLe_skip (fun h => by have := h.le; omega) ?_))) (map_cons_eq rfl (rfl))) ?_
  simp +contextual -dsimp (maxSteps := 2000000) only [↓SD, SU, SB, Nat.reduceAdd, Nat.reduceBEq, Nat.reduceEqDiff, Nat.reduceLeDiff, Nat.reduceLT, Nat.reduceSub, ↓reduceIte, zA, zI, zN, reduceCtorEq, Int.reduceToNat, zE, Int.reduceEq, Int.reduceLT, Int.reduceLE, Int.reduceNeg, Int.reduceAdd, Int.reduceSub, av_Program, map_len, false_and, ov_Program, ov_list, low_beq, q15, q16, q17, o1, o2, o3, o4, hh18g, beq_self_eq_true]
  repeat intro _
  refine aCallK_of _ T0 ?_
  simp +contextual -dsimp (maxSteps := 2000000) only [↓SD, SU, SB, Nat.reduceAdd, Nat.reduceBEq, Nat.reduceEqDiff, Nat.reduceLeDiff, Nat.reduceLT, Nat.reduceSub, ↓reduceIte, zA, zI, zN, reduceCtorEq, Int.reduceToNat, zE, Int.reduceEq, Int.reduceLT, Int.reduceLE, Int.reduceNeg, Int.reduceAdd, Int.reduceSub, av_Program, map_len, false_and, ov_Program, ov_list, low_beq, q15, q16, q17, o1, o2, o3, o4]
  repeat intro _
  refine aCallH_gen [] (CI 1020 (by omega)) (by simp +contextual -dsimp only [↓SD, SU, SB, Nat.reduceAdd, Nat.reduceBEq, Nat.reduceEqDiff, Nat.reduceLeDiff, Nat.reduceLT, Nat.reduceSub, ↓reduceIte, zA, zI, zN, reduceCtorEq, Int.reduceToNat, zE]) ?_
  rintro r hp' ⟨vh, rfl, rfl⟩ H5 hH5
  rw [hrest_no] at hH5
  have l19 : hpLe H5 (oh 1020 vh R0) := by rw [hH5]; exact hpLe_l (OVal.self _ _ _)
  have l20 : hpLe H5 (oh 1001 v0 (mkv (1) y0)) := keep_app hH5 (fun k hk => apart_names (by omega) (by omega) (by omega) hk) (by repeat (first | exact l13 | refine hpLe_skip (fun h => by have := h.le; omega) ?_))
  have l21 : hpLe H5 (oh 1010 vg (mkv (1) R0)) := keep_app hH5 (fun k hk => apart_names (by omega) (by omega) (by omega) hk) (by repeat (first | exact l14 | refine hpLe_skip (fun h => by have := h.le; omega) ?_))
  have o5 := old_app hH5 (by omega)
  have q22 := hpLe_root (hpLe_app.1 (show hpLe _ (oh (sub 1001 0) v0 ((mkv (1) y0)).types ++ oh (sub 1001 1) v0 ((mkv (1) y0)).nodes) from l20)).1
  have q23 := hpLe_root (hpLe_app.1 (show hpLe _ (oh (sub 1001 0) v0 ((mkv (1) y0)).types ++ oh (sub 1001 1) v0 ((mkv (1) y0)).nodes) from l20)).2
  have q24 := hpLe_root l21
  have q25 := hpLe_root l19
  simp +contextual -dsimp (maxSteps := 2000000) only [↓SD, SU, SB, Nat.reduceAdd, Nat.reduceBEq, Nat.reduceEqDiff, Nat.reduceLeDiff, Nat.reduceLT, Nat.reduceSub, ↓reduceIte, zA, zI, zN, reduceCtorEq, Int.reduceToNat, zE, Int.reduceEq, Int.reduceLT, Int.reduceLE, Int.reduceNeg, Int.reduceAdd, Int.reduceSub, av_Program, map_len, false_and, ov_Program, ov_list, low_beq, q22, q23, q24, q25, o1, o2, o3, o4, o5]
  repeat intro _
  refine aCallL_of (on 1020 R0) EL0 rfl (map_cons_eq (lend1 (nm := 1020) (vs := vh) (y := R0) (by repeat (first | exact l19 | refine hpLe_skip (fun h => by have := h.le; omega) ?_))) (map_cons_eq rfl (rfl))) ?_
  simp +contextual -dsimp (maxSteps := 2000000) only [↓SD, SU, SB, Nat.reduceAdd, Nat.reduceBEq, Nat.reduceEqDiff, Nat.reduceLeDiff, Nat.reduceLT, Nat.reduceSub, ↓reduceIte, zA, zI, zN, reduceCtorEq, Int.reduceToNat, zE, Int.reduceEq, Int.reduceLT, Int.reduceLE, Int.reduceNeg, Int.reduceAdd, Int.reduceSub, av_Program, map_len, false_and, ov_Program, ov_list, low_beq, q22, q23, q24, q25, o1, o2, o3, o4, o5, beq_self_eq_true]
  repeat intro _
  have hh26 := heldStringS_own R0 (1) (by omega) (by omega)
  have hh26g : ¬ 1 + (cnt R0 : Int) < 0 := by omega
  rw [← cnt_list] at hh26
  refine aCallL_of (on 1010 ((mkv (1) R0))) hh26 rfl (map_cons_eq (lend1e (nm := 1010) (vs := vg) (y := ((mkv (1) R0))) (by rw [ov_list, mk_list, mkL_len]) (by repeat (first | exact l21 | refine hpLe_skip (fun h => by have := h.le; omega) ?_))) (map_cons_eq rfl (rfl))) ?_
  simp +contextual -dsimp (maxSteps := 2000000) only [↓SD, SU, SB, Nat.reduceAdd, Nat.reduceBEq, Nat.reduceEqDiff, Nat.reduceLeDiff, Nat.reduceLT, Nat.reduceSub, ↓reduceIte, zA, zI, zN, reduceCtorEq, Int.reduceToNat, zE, Int.reduceEq, Int.reduceLT, Int.reduceLE, Int.reduceNeg, Int.reduceAdd, Int.reduceSub, av_Program, map_len, false_and, ov_Program, ov_list, low_beq, q22, q23, q24, q25, o1, o2, o3, o4, o5, hh26g, beq_self_eq_true]
  repeat intro _
end Go.Proofs.YtbcifdnfhoikiaaGreat
