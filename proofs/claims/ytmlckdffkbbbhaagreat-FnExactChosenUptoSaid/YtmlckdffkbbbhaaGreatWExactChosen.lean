/-
 THE LAW FnExactChosen, by its abstract text: it returns true. Conditions: the arguments' bulk is at most 1048576. Printed by ownlaw.py.
-/
import Derived.Test.YtmlckdffkbbbhaaGreatPackM
import Derived.Test.YtmlckdffkbbbhaaGreatPackZ
import Derived.Test.YtmlckdffkbbbhaaGreatPackC
import Derived.Test.YtmlckdffkbbbhaaGreatIrLChosen
set_option linter.unusedVariables false
set_option linter.unusedSimpArgs false
set_option maxRecDepth 100000
namespace Go.Proofs.YtmlckdffkbbbhaaGreat
open Go.RowKit Go.Proofs.YtmlckdffkbbbhaaGreat.Av Go.Proofs.YtmlckdffkbbbhaaGreat.Ml
open Go.Proofs.YtmlckdffkbbbhaaGreat.Av.AVal (av)
open OVal (ov oh on)
open Mk (mkv cnt)

set_option maxHeartbeats 4000000 in
theorem lawChosen_ok (y0 : Program) (hk0 : Bulk.bulk y0 ≤ 1048576) : CallsF Tryz.prog 4 [av y0] (.bool true) := by
 have hb0 : Bulk.bulk y0.types + Bulk.bulk y0.nodes + 1 ≤ 1048576 := hk0
 refine fun_laws_FnExactChosen rfl (by simp; exact AVal.clean y0) (AvPure.bool _) ?_
 have T0 := toProgram_ok y0 hk0
 have E0 := eqProgram_ok y0 hk0
 rw [av_Program] at T0 E0
 have B0 := MkB.le y0
 have CS := specChosen_ok y0 hk0
 have CI := fun nm (hnm : nm < 9000) => implChosen_ok nm y0 hk0
 obtain ⟨R0, hR0⟩ : ∃ R, R = rewP chosenR y0 := ⟨_, rfl⟩
 have hRf := rewP_facts (R := chosenR) (fun t h => chosenR_rk h) hk0
 rw [← hR0] at hRf
 have hRb := hRf.2.2.2
 rw [← hR0] at CS CI
 have EL0 := eqProgram_big R0 hRf.1 (by have := hRf.2.1; omega) hRf.2.2.1
 have BL0 := MkB.le R0
 rw [av_Program] at EL0
 try simp only [av_Program, av_Program] at CS CI
 simp +contextual -dsimp (maxSteps := 2000000) only [↓SD, SU, SB, simprocAttr, ir_laws_FnExactChosen, rs_laws_FnExactChosen, av_Program, map_len, false_and, ov_Program, ov_list]
 have Z0 := fun n h1 h2 => szProgram_ok y0 n hk0 h1 h2
 rw [av_Program] at Z0
 refine aCallH_of [] (Z0 _ (by omega) (by omega)) (by simp +contextual -dsimp only [↓SD, SU, SB, simprocAttr]) ?_
 rintro r hp' ⟨m0, rfl, rfl, a0, b0⟩
 by_cases hm0 : m0 < 0
 ·simp +contextual -dsimp (maxSteps := 2000000) only [↓SD, SU, SB, simprocAttr, hm0]
 simp +contextual -dsimp (maxSteps := 2000000) only [↓SD, SU, SB, simprocAttr, av_Program, map_len, false_and, ov_Program, ov_list, low_beq, hm0]
 repeat intro _
 refine aCallK_of _ T0 ?_
 simp +contextual -dsimp (maxSteps := 2000000) only [↓SD, SU, SB, simprocAttr, av_Program, map_len, false_and, ov_Program, ov_list, low_beq]
 repeat intro _
 refine aCallK_of _ CS ?_
 simp +contextual -dsimp (maxSteps := 2000000) only [↓SD, SU, SB, simprocAttr, av_Program, map_len, false_and, ov_Program, ov_list, low_beq]
 repeat intro _
 have O0 := toProgram_own 1001 y0 hk0
 rw [av_Program] at O0
 refine aCallH_gen [] O0 (by simp +contextual -dsimp only [↓SD, SU, SB, simprocAttr]) ?_
 rintro r hp' ⟨v0, rfl, rfl⟩ H1 hH1
 rw [hrest_no] at hH1
 have l0 : hpLe H1 (oh 1001 v0 y0) := by rw [hH1]; exact hpLe_l (OVal.self _ _ _)
 have o1 := old_app hH1 (by omega)
 have q1 := hpLe_root (hpLe_app.1 (show hpLe _ (oh (sub 1001 0) v0 y0.types ++ oh (sub 1001 1) v0 y0.nodes) from l0)).1
 have q2 := hpLe_root (hpLe_app.1 (show hpLe _ (oh (sub 1001 0) v0 y0.types ++ oh (sub 1001 1) v0 y0.nodes) from l0)).2
 simp +contextual -dsimp (maxSteps := 2000000) only [↓SD, SU, SB, simprocAttr, av_Program, map_len, false_and, ov_Program, ov_list, low_beq, q1, q2, o1]
 repeat intro _
 refine aCallHL_gen (on 1001 y0) (CI 1010 (by omega)) (map_cons_eq (lend1 (nm := 1001) (vs := v0) (y := y0) (by repeat (first | exact l0 | refine hpLe_skip (fun h => by have := h.le; omega) ?_))) (rfl)) ?_
 rintro r hp' ⟨vg, rfl, rfl⟩
 refine ⟨⟨ov_free _ _ _, oh_hfree _ _ _⟩, ?_⟩
 intro H2 hH2
 have l3 : hpLe H2 (oh 1010 vg R0) := by rw [hH2]; exact hpLe_l (OVal.self _ _ _)
 have l4 : hpLe H2 (oh 1001 v0 y0) := keep_app hH2 (fun k hk => apart_names (by omega) (by omega) (by omega) hk) (by repeat (first | exact l0 | refine hpLe_skip (fun h => by have := h.le; omega) ?_))
 have o2 := old_app hH2 (by omega)
 have q5 := hpLe_root (hpLe_app.1 (show hpLe _ (oh (sub 1001 0) v0 y0.types ++ oh (sub 1001 1) v0 y0.nodes) from l4)).1
 have q6 := hpLe_root (hpLe_app.1 (show hpLe _ (oh (sub 1001 0) v0 y0.types ++ oh (sub 1001 1) v0 y0.nodes) from l4)).2
 have q7 := hpLe_root (hpLe_app.1 (show hpLe _ (oh (sub 1010 0) vg R0.types ++ oh (sub 1010 1) vg R0.nodes) from l3)).1
 have q8 := hpLe_root (hpLe_app.1 (show hpLe _ (oh (sub 1010 0) vg R0.types ++ oh (sub 1010 1) vg R0.nodes) from l3)).2
 simp +contextual -dsimp (maxSteps := 2000000) only [↓SD, SU, SB, simprocAttr, av_Program, map_len, false_and, ov_Program, ov_list, low_beq, q5, q6, q7, q8, o1, o2]
 repeat intro _
 refine aCallL_of (on 1010 R0) EL0 rfl (map_cons_eq (lend1 (nm := 1010) (vs := vg) (y := R0) (by repeat (first | exact l3 | refine hpLe_skip (fun h => by have := h.le; omega) ?_))) (map_cons_eq rfl (rfl))) ?_
 simp +contextual -dsimp (maxSteps := 2000000) only [↓SD, SU, SB, simprocAttr, av_Program, map_len, false_and, ov_Program, ov_list, low_beq, q5, q6, q7, q8, o1, o2, beq_self_eq_true]
 repeat intro _
 refine aCallK_of _ T0 ?_
 simp +contextual -dsimp (maxSteps := 2000000) only [↓SD, SU, SB, simprocAttr, av_Program, map_len, false_and, ov_Program, ov_list, low_beq, q5, q6, q7, q8, o1, o2]
 repeat intro _
 refine aCallL_of (on 1001 y0) E0 rfl (map_cons_eq (lend1 (nm := 1001) (vs := v0) (y := y0) (by repeat (first | exact l4 | refine hpLe_skip (fun h => by have := h.le; omega) ?_))) (map_cons_eq rfl (rfl))) ?_
 simp +contextual -dsimp (maxSteps := 2000000) only [↓SD, SU, SB, simprocAttr, av_Program, map_len, false_and, ov_Program, ov_list, low_beq, q5, q6, q7, q8, o1, o2, beq_self_eq_true]
 repeat intro _
 refine aCallH_gen (on 1001 y0) (markProgram_own 1001 v0 y0 _ (by omega) (by omega)) (hsel_on (by repeat (first | exact l4 | refine hpLe_skip (fun h => by have := h.le; omega) ?_))) ?_
 rintro r hp' ⟨rfl, rfl⟩ H3 hH3
 have l9 : hpLe H3 (oh 1001 v0 (mkv (1) y0)) := part_done hH3
 have l10 : hpLe H3 (oh 1010 vg R0) := part_other hH3 (fun k hk => apart_names (by omega) (by omega) (by omega) hk) (by repeat (first | exact l3 | refine hpLe_skip (fun h => by have := h.le; omega) ?_))
 have o3 := old_part hH3 (by omega)
 have q11 := hpLe_root (hpLe_app.1 (show hpLe _ (oh (sub 1001 0) v0 ((mkv (1) y0)).types ++ oh (sub 1001 1) v0 ((mkv (1) y0)).nodes) from l9)).1
 have q12 := hpLe_root (hpLe_app.1 (show hpLe _ (oh (sub 1001 0) v0 ((mkv (1) y0)).types ++ oh (sub 1001 1) v0 ((mkv (1) y0)).nodes) from l9)).2
 have q13 := hpLe_root (hpLe_app.1 (show hpLe _ (oh (sub 1010 0) vg R0.types ++ oh (sub 1010 1) vg R0.nodes) from l10)).1
 have q14 := hpLe_root (hpLe_app.1 (show hpLe _ (oh (sub 1010 0) vg R0.types ++ oh (sub 1010 1) vg R0.nodes) from l10)).2
 have hg : ¬ 1 + (cnt y0 : Int) < 0 := by omega
 simp +contextual -dsimp (maxSteps := 2000000) only [↓SD, SU, SB, simprocAttr, av_Program, map_len, false_and, ov_Program, ov_list, low_beq, q11, q12, q13, q14, o1, o2, o3, hg]
 repeat intro _
 refine aCallL_of (on 1010 R0) EL0 rfl (map_cons_eq (lend1 (nm := 1010) (vs := vg) (y := R0) (by repeat (first | exact l10 | refine hpLe_skip (fun h => by have := h.le; omega) ?_))) (map_cons_eq rfl (rfl))) ?_
 simp +contextual -dsimp (maxSteps := 2000000) only [↓SD, SU, SB, simprocAttr, av_Program, map_len, false_and, ov_Program, ov_list, low_beq, q11, q12, q13, q14, o1, o2, o3, beq_self_eq_true]
 repeat intro _
 refine aCallH_gen (on 1010 R0) (markProgram_own 1010 vg R0 _ (by omega) (by omega)) (hsel_on (by repeat (first | exact l10 | refine hpLe_skip (fun h => by have := h.le; omega) ?_))) ?_
 rintro r hp' ⟨rfl, rfl⟩ H4 hH4
 have l15 : hpLe H4 (oh 1001 v0 (mkv (1) y0)) := part_other hH4 (fun k hk => apart_names (by omega) (by omega) (by omega) hk) (by repeat (first | exact l9 | refine hpLe_skip (fun h => by have := h.le; omega) ?_))
 have l16 : hpLe H4 (oh 1010 vg (mkv (1) R0)) := part_done hH4
 have o4 := old_part hH4 (by omega)
 have q17 := hpLe_root (hpLe_app.1 (show hpLe _ (oh (sub 1001 0) v0 ((mkv (1) y0)).types ++ oh (sub 1001 1) v0 ((mkv (1) y0)).nodes) from l15)).1
 have q18 := hpLe_root (hpLe_app.1 (show hpLe _ (oh (sub 1001 0) v0 ((mkv (1) y0)).types ++ oh (sub 1001 1) v0 ((mkv (1) y0)).nodes) from l15)).2
 have q19 := hpLe_root (hpLe_app.1 (show hpLe _ (oh (sub 1010 0) vg ((mkv (1) R0)).types ++ oh (sub 1010 1) vg ((mkv (1) R0)).nodes) from l16)).1
 have q20 := hpLe_root (hpLe_app.1 (show hpLe _ (oh (sub 1010 0) vg ((mkv (1) R0)).types ++ oh (sub 1010 1) vg ((mkv (1) R0)).nodes) from l16)).2
 simp +contextual -dsimp (maxSteps := 2000000) only [↓SD, SU, SB, simprocAttr, av_Program, map_len, false_and, ov_Program, ov_list, low_beq, q17, q18, q19, q20, o1, o2, o3, o4]
 repeat intro _
 have hh21 := heldProgram_own R0 (1) (by omega) (by omega)
 have hh21g : ¬ 1 + (cnt R0 : Int) < 0 := by omega
 refine aCallL_of (on 1010 ((mkv (1) R0))) hh21 rfl (map_cons_eq (lend1e (nm := 1010) (vs := vg) (y := ((mkv (1) R0))) (by rw [mk_Program, ov_Program]; simp only [mkL_len]) (by repeat (first | exact l16 | refine hpLe_skip (fun h => by have := h.le; omega) ?_))) (map_cons_eq rfl (rfl))) ?_
 simp +contextual -dsimp (maxSteps := 2000000) only [↓SD, SU, SB, simprocAttr, av_Program, map_len, false_and, ov_Program, ov_list, low_beq, q17, q18, q19, q20, o1, o2, o3, o4, hh21g, beq_self_eq_true]
 repeat intro _
 refine aCallK_of _ T0 ?_
 simp +contextual -dsimp (maxSteps := 2000000) only [↓SD, SU, SB, simprocAttr, av_Program, map_len, false_and, ov_Program, ov_list, low_beq, q17, q18, q19, q20, o1, o2, o3, o4]
 repeat intro _
 refine aCallH_gen [] (CI 1020 (by omega)) (by simp +contextual -dsimp only [↓SD, SU, SB, simprocAttr]) ?_
 rintro r hp' ⟨vh, rfl, rfl⟩ H5 hH5
 rw [hrest_no] at hH5
 have l22 : hpLe H5 (oh 1020 vh R0) := by rw [hH5]; exact hpLe_l (OVal.self _ _ _)
 have l23 : hpLe H5 (oh 1001 v0 (mkv (1) y0)) := keep_app hH5 (fun k hk => apart_names (by omega) (by omega) (by omega) hk) (by repeat (first | exact l15 | refine hpLe_skip (fun h => by have := h.le; omega) ?_))
 have l24 : hpLe H5 (oh 1010 vg (mkv (1) R0)) := keep_app hH5 (fun k hk => apart_names (by omega) (by omega) (by omega) hk) (by repeat (first | exact l16 | refine hpLe_skip (fun h => by have := h.le; omega) ?_))
 have o5 := old_app hH5 (by omega)
 have q25 := hpLe_root (hpLe_app.1 (show hpLe _ (oh (sub 1001 0) v0 ((mkv (1) y0)).types ++ oh (sub 1001 1) v0 ((mkv (1) y0)).nodes) from l23)).1
 have q26 := hpLe_root (hpLe_app.1 (show hpLe _ (oh (sub 1001 0) v0 ((mkv (1) y0)).types ++ oh (sub 1001 1) v0 ((mkv (1) y0)).nodes) from l23)).2
 have q27 := hpLe_root (hpLe_app.1 (show hpLe _ (oh (sub 1010 0) vg ((mkv (1) R0)).types ++ oh (sub 1010 1) vg ((mkv (1) R0)).nodes) from l24)).1
 have q28 := hpLe_root (hpLe_app.1 (show hpLe _ (oh (sub 1010 0) vg ((mkv (1) R0)).types ++ oh (sub 1010 1) vg ((mkv (1) R0)).nodes) from l24)).2
 have q29 := hpLe_root (hpLe_app.1 (show hpLe _ (oh (sub 1020 0) vh R0.types ++ oh (sub 1020 1) vh R0.nodes) from l22)).1
 have q30 := hpLe_root (hpLe_app.1 (show hpLe _ (oh (sub 1020 0) vh R0.types ++ oh (sub 1020 1) vh R0.nodes) from l22)).2
 simp +contextual -dsimp (maxSteps := 2000000) only [↓SD, SU, SB, simprocAttr, av_Program, map_len, false_and, ov_Program, ov_list, low_beq, q25, q26, q27, q28, q29, q30, o1, o2, o3, o4, o5]
 repeat intro _
 refine aCallL_of (on 1020 R0) EL0 rfl (map_cons_eq (lend1 (nm := 1020) (vs := vh) (y := R0) (by repeat (first | exact l22 | refine hpLe_skip (fun h => by have := h.le; omega) ?_))) (map_cons_eq rfl (rfl))) ?_
 simp +contextual -dsimp (maxSteps := 2000000) only [↓SD, SU, SB, simprocAttr, av_Program, map_len, false_and, ov_Program, ov_list, low_beq, q25, q26, q27, q28, q29, q30, o1, o2, o3, o4, o5, beq_self_eq_true]
 repeat intro _
 have hh31 := heldProgram_own R0 (1) (by omega) (by omega)
 have hh31g : ¬ 1 + (cnt R0 : Int) < 0 := by omega
 refine aCallL_of (on 1010 ((mkv (1) R0))) hh31 rfl (map_cons_eq (lend1e (nm := 1010) (vs := vg) (y := ((mkv (1) R0))) (by rw [mk_Program, ov_Program]; simp only [mkL_len]) (by repeat (first | exact l24 | refine hpLe_skip (fun h => by have := h.le; omega) ?_))) (map_cons_eq rfl (rfl))) ?_
 simp +contextual -dsimp (maxSteps := 2000000) only [↓SD, SU, SB, simprocAttr, av_Program, map_len, false_and, ov_Program, ov_list, low_beq, q25, q26, q27, q28, q29, q30, o1, o2, o3, o4, o5, hh31g, beq_self_eq_true]
 repeat intro _
end Go.Proofs.YtmlckdffkbbbhaaGreat
