/-
 THE LAW FnExactEval, by its abstract text: it returns true. Conditions: the arguments' bulk is at most 1099511627776. Printed by ownlaw.py.
-/
import Derived.Test.YtjbcnilllfaipaaGreatYOProg
import Derived.Test.YtjbcnilllfaipaaGreatYJ45
set_option linter.unusedVariables false
set_option linter.unusedSimpArgs false
set_option maxRecDepth 100000
namespace Go.Proofs.YtjbcnilllfaipaaGreat
open Go.RowKit Go.Proofs.YtjbcnilllfaipaaGreat.Av Go.Proofs.YtjbcnilllfaipaaGreat.Ml
open Go.Proofs.YtjbcnilllfaipaaGreat.Av.AVal (av)
open OVal (ov oh on)
open Mk (mkv cnt)

set_option maxHeartbeats 4000000 in
theorem Ws (y0 : Program) (hq0 : Ad.bulk y0 ≤ 1048576) (y1 : List Int) (hq1 : Ad.bulk y1 ≤ 1048576) (n2 : Int) (g2 : -9223372036854775808 ≤ n2 ∧ n2 ≤ 9223372036854775807) : Ap Tryz.prog 3 [av y0, .sl (y1.map av), .int .i64 n2] (.bool true) := by -- 
 have hk0 : Ad.bulk y0 ≤ 1099511627776 := by omega
 have hk1 : Ad.bulk y1 ≤ 1099511627776 := by omega
 have hb0 : Ad.bulk y0.types + Ad.bulk y0.nodes + 1 ≤ 1099511627776 := hk0
 have hl1 := Ao y1
 refine SQ (∀ x ∈ y1, -9223372036854775808 ≤ x ∧ x ≤ 9223372036854775807) (by kernel_rfl) (by simp; exact ⟨AVal.clean y0, Aq y1, BL _⟩) (fun S w vs h => (let ⟨_, h1⟩ := Adi h (i := 1) rfl; WB h1)) (fun hq => ?_)
 refine GC.F rfl (by simp; exact ⟨AVal.clean y0, Aq y1, BL _⟩) (Ac.bool _) ?_
 have T0 := RV y0 hk0
 have E0 := SJ y0 hk0
 rw [Aj] at T0 E0
 have B0 := MkB.le y0
 have T1 := MF y1 hk1
 have E1 := MU y1 hk1
 have B1 := MkB.le y1
 have CS := Th y0 1099511627776 y1 n2 hk0 (fun hb => MI hk0 hb) (fun x hx => WC (hq x hx)) (by omega)
 have CI := fun nm (hnm : nm < 9000) => Uu nm y0 y1 n2 hk0 (fun x hx => WC (hq x hx)) (by omega)
 obtain ⟨R0, hR0⟩ : ∃ R, R = DT y0 y1 n2 := ⟨_, rfl⟩
 have hRf := UU (p := y0) (inp := y1) (m := n2) hk0 (fun x hx => WC (hq x hx)) (by omega)
 rw [← hR0] at hRf
 have hRb := hRf.2
 rw [← hR0] at CS CI
 have EL0 := P8 R0 (by have := hRf.1; omega)
 have BL0 := MkB.le R0
 rw [A4] at EL0
 try simp only [Aj, A4] at CS CI
 have hln1 : ¬ (1048576 : Int) < (y1.length : Int) := by omega -- 
 simp +contextual -dsimp (maxSteps := 2000000) only [↓SD, SU, simprocAttr, GC, Aj, Aa, false_and, Be, Bl, AO, A4, hln1]
 have Z0 := fun n h1 h2 => RZ y0 n hk0 h1 h2
 rw [Aj] at Z0
 refine Ae [] (Z0 _ (by omega) (by omega)) (by simp +contextual -dsimp only [↓SD, SU, simprocAttr]) ?_
 rintro r hp' ⟨m0, rfl, rfl, a0, b0⟩
 by_cases hm0 : m0 < 0
 ·simp +contextual -dsimp (maxSteps := 2000000) only [↓SD, SU, simprocAttr, hm0]
 simp +contextual -dsimp (maxSteps := 2000000) only [↓SD, SU, simprocAttr, Aj, Aa, false_and, Be, Bl, AO, A4, hln1, BH, hm0]
 repeat intro _
 refine Ab _ T0 ?_
 simp +contextual -dsimp (maxSteps := 2000000) only [↓SD, SU, simprocAttr, Aj, Aa, false_and, Be, Bl, AO, A4, hln1, BH]
 repeat intro _
 refine Ab _ T1 ?_
 simp +contextual -dsimp (maxSteps := 2000000) only [↓SD, SU, simprocAttr, Aj, Aa, false_and, Be, Bl, AO, A4, hln1, BH]
 repeat intro _
 refine Ab _ CS ?_
 simp +contextual -dsimp (maxSteps := 2000000) only [↓SD, SU, simprocAttr, Aj, Aa, false_and, Be, Bl, AO, A4, hln1, BH]
 repeat intro _
 have O0 := PY 1001 y0 hk0
 rw [Aj] at O0
 refine Bb [] O0 (by simp +contextual -dsimp only [↓SD, SU, simprocAttr]) ?_
 rintro r hp' ⟨v0, rfl, rfl⟩ H1 hH1
 rw [CK] at hH1
 have l0 : Bg H1 (oh 1001 v0 y0) := by rw [hH1]; exact AX (OVal.self _ _ _)
 have o1 := NU hH1 (by omega)
 have q1 := AH (BI.1 (show Bg _ (oh (sub 1001 0) v0 y0.types ++ oh (sub 1001 1) v0 y0.nodes) from l0)).1
 have q2 := AH (BI.1 (show Bg _ (oh (sub 1001 0) v0 y0.types ++ oh (sub 1001 1) v0 y0.nodes) from l0)).2
 simp +contextual -dsimp (maxSteps := 2000000) only [↓SD, SU, simprocAttr, Aj, Aa, false_and, Be, Bl, AO, A4, hln1, BH, q1, q2, o1]
 repeat intro _
 have O1 := KX 1002 y1 hk1
 refine Bb [] O1 (by simp +contextual -dsimp only [↓SD, SU, simprocAttr]) ?_
 rintro r hp' ⟨v1, rfl, rfl⟩ H2 hH2
 rw [CK] at hH2
 have l3 : Bg H2 (oh 1002 v1 y1) := by rw [hH2]; exact AX (OVal.self _ _ _)
 have l4 : Bg H2 (oh 1001 v0 y0) := Im hH2 (fun k hk => Ck (by omega) (by omega) (by omega) hk) (by repeat (first | exact l0 | refine Ai (fun h => by have := h.le; omega) ?_))
 have o2 := NU hH2 (by omega)
 have q5 := AH (BI.1 (show Bg _ (oh (sub 1001 0) v0 y0.types ++ oh (sub 1001 1) v0 y0.nodes) from l4)).1
 have q6 := AH (BI.1 (show Bg _ (oh (sub 1001 0) v0 y0.types ++ oh (sub 1001 1) v0 y0.nodes) from l4)).2
 have q7 := AH l3
 simp +contextual -dsimp (maxSteps := 2000000) only [↓SD, SU, simprocAttr, Aj, Aa, false_and, Be, Bl, AO, A4, hln1, BH, q5, q6, q7, o1, o2]
 repeat intro _
 refine VH (on 1001 y0 ++ on 1002 y1) (CI 1010 (by omega)) (BX (AdF (by repeat (first | exact l4 | refine Ai (fun h => by have := h.le; omega) ?_)) (fun k hk => Ck (by omega) (by omega) (by omega) hk)) (BX (AdE (by repeat (first | exact l3 | refine Ai (fun h => by have := h.le; omega) ?_)) (fun k hk => Ck (by omega) (by omega) (by omega) hk)) (BX rfl (rfl)))) ?_
 rintro r hp' ⟨vg, rfl, rfl⟩
 refine ⟨⟨Acm _ _ _, AaY _ _ _⟩, ?_⟩
 intro H3 hH3
 have l8 : Bg H3 (oh 1010 vg R0) := by rw [hH3]; exact AX (OVal.self _ _ _)
 have l9 : Bg H3 (oh 1001 v0 y0) := Im hH3 (fun k hk => Ck (by omega) (by omega) (by omega) hk) (by repeat (first | exact l4 | refine Ai (fun h => by have := h.le; omega) ?_))
 have l10 : Bg H3 (oh 1002 v1 y1) := Im hH3 (fun k hk => Ck (by omega) (by omega) (by omega) hk) (by repeat (first | exact l3 | refine Ai (fun h => by have := h.le; omega) ?_))
 have o3 := NU hH3 (by omega)
 have q11 := AH (BI.1 (show Bg _ (oh (sub 1001 0) v0 y0.types ++ oh (sub 1001 1) v0 y0.nodes) from l9)).1
 have q12 := AH (BI.1 (show Bg _ (oh (sub 1001 0) v0 y0.types ++ oh (sub 1001 1) v0 y0.nodes) from l9)).2
 have q13 := AH l10
 have q14 := AH (show Bg _ (oh (sub 1010 0) vg R0.trace) from l8)
 simp +contextual -dsimp (maxSteps := 2000000) only [↓SD, SU, simprocAttr, Aj, Aa, false_and, Be, Bl, AO, A4, hln1, BH, q11, q12, q13, q14, o1, o2, o3]
 repeat intro _
 refine FE (on 1010 R0) EL0 rfl (BX (OS (nm := 1010) (vs := vg) (y := R0) (by repeat (first | exact l8 | refine Ai (fun h => by have := h.le; omega) ?_))) (BX rfl (rfl))) ?_
 simp +contextual -dsimp (maxSteps := 2000000) only [↓SD, SU, simprocAttr, Aj, Aa, false_and, Be, Bl, AO, A4, hln1, BH, q11, q12, q13, q14, o1, o2, o3, beq_self_eq_true]
 repeat intro _
 refine Ab _ T0 ?_
 simp +contextual -dsimp (maxSteps := 2000000) only [↓SD, SU, simprocAttr, Aj, Aa, false_and, Be, Bl, AO, A4, hln1, BH, q11, q12, q13, q14, o1, o2, o3]
 repeat intro _
 refine FE (on 1001 y0) E0 rfl (BX (OS (nm := 1001) (vs := v0) (y := y0) (by repeat (first | exact l9 | refine Ai (fun h => by have := h.le; omega) ?_))) (BX rfl (rfl))) ?_
 simp +contextual -dsimp (maxSteps := 2000000) only [↓SD, SU, simprocAttr, Aj, Aa, false_and, Be, Bl, AO, A4, hln1, BH, q11, q12, q13, q14, o1, o2, o3, beq_self_eq_true]
 repeat intro _
 refine Ab _ T1 ?_
 simp +contextual -dsimp (maxSteps := 2000000) only [↓SD, SU, simprocAttr, Aj, Aa, false_and, Be, Bl, AO, A4, hln1, BH, q11, q12, q13, q14, o1, o2, o3]
 repeat intro _
 refine FE (on 1002 y1) E1 rfl (BX (OS (nm := 1002) (vs := v1) (y := y1) (by repeat (first | exact l10 | refine Ai (fun h => by have := h.le; omega) ?_))) (BX rfl (rfl))) ?_
 simp +contextual -dsimp (maxSteps := 2000000) only [↓SD, SU, simprocAttr, Aj, Aa, false_and, Be, Bl, AO, A4, hln1, BH, q11, q12, q13, q14, o1, o2, o3, beq_self_eq_true]
 repeat intro _
 refine Bb (on 1001 y0) (NI 1001 v0 y0 _ (by omega) (by omega)) (Fm (by repeat (first | exact l9 | refine Ai (fun h => by have := h.le; omega) ?_))) ?_
 rintro r hp' ⟨rfl, rfl⟩ H4 hH4
 have l15 : Bg H4 (oh 1001 v0 (mkv (1) y0)) := DG hH4
 have l16 : Bg H4 (oh 1002 v1 y1) := BB hH4 (fun k hk => Ck (by omega) (by omega) (by omega) hk) (by repeat (first | exact l10 | refine Ai (fun h => by have := h.le; omega) ?_))
 have l17 : Bg H4 (oh 1010 vg R0) := BB hH4 (fun k hk => Ck (by omega) (by omega) (by omega) hk) (by repeat (first | exact l8 | refine Ai (fun h => by have := h.le; omega) ?_))
 have o4 := OD hH4 (by omega)
 have q18 := AH (BI.1 (show Bg _ (oh (sub 1001 0) v0 ((mkv (1) y0)).types ++ oh (sub 1001 1) v0 ((mkv (1) y0)).nodes) from l15)).1
 have q19 := AH (BI.1 (show Bg _ (oh (sub 1001 0) v0 ((mkv (1) y0)).types ++ oh (sub 1001 1) v0 ((mkv (1) y0)).nodes) from l15)).2
 have q20 := AH l16
 have q21 := AH (show Bg _ (oh (sub 1010 0) vg R0.trace) from l17)
 simp +contextual -dsimp (maxSteps := 2000000) only [↓SD, SU, simprocAttr, Aj, Aa, false_and, Be, Bl, AO, A4, hln1, BH, q18, q19, q20, q21, o1, o2, o3, o4]
 repeat intro _
 refine Bb (on 1002 y1) (I1 1002 v1 y1 _ (by omega) (by omega)) (Fm (by repeat (first | exact l16 | refine Ai (fun h => by have := h.le; omega) ?_))) ?_
 rintro r hp' ⟨rfl, rfl⟩ H5 hH5
 have l22 : Bg H5 (oh 1001 v0 (mkv (1) y0)) := BB hH5 (fun k hk => Ck (by omega) (by omega) (by omega) hk) (by repeat (first | exact l15 | refine Ai (fun h => by have := h.le; omega) ?_))
 have l23 : Bg H5 (oh 1002 v1 (mkv (1 + (cnt y0 : Int)) y1)) := DG hH5
 have l24 : Bg H5 (oh 1010 vg R0) := BB hH5 (fun k hk => Ck (by omega) (by omega) (by omega) hk) (by repeat (first | exact l17 | refine Ai (fun h => by have := h.le; omega) ?_))
 have o5 := OD hH5 (by omega)
 have q25 := AH (BI.1 (show Bg _ (oh (sub 1001 0) v0 ((mkv (1) y0)).types ++ oh (sub 1001 1) v0 ((mkv (1) y0)).nodes) from l22)).1
 have q26 := AH (BI.1 (show Bg _ (oh (sub 1001 0) v0 ((mkv (1) y0)).types ++ oh (sub 1001 1) v0 ((mkv (1) y0)).nodes) from l22)).2
 have q27 := AH l23
 have q28 := AH (show Bg _ (oh (sub 1010 0) vg R0.trace) from l24)
 have hg : ¬ 1 + (cnt y0 : Int) + (cnt y1 : Int) < 0 := by omega
 simp +contextual -dsimp (maxSteps := 2000000) only [↓SD, SU, simprocAttr, Aj, Aa, false_and, Be, Bl, AO, A4, hln1, BH, q25, q26, q27, q28, o1, o2, o3, o4, o5, hg]
 repeat intro _
 refine FE (on 1010 R0) EL0 rfl (BX (OS (nm := 1010) (vs := vg) (y := R0) (by repeat (first | exact l24 | refine Ai (fun h => by have := h.le; omega) ?_))) (BX rfl (rfl))) ?_
 simp +contextual -dsimp (maxSteps := 2000000) only [↓SD, SU, simprocAttr, Aj, Aa, false_and, Be, Bl, AO, A4, hln1, BH, q25, q26, q27, q28, o1, o2, o3, o4, o5, beq_self_eq_true]
 repeat intro _
 refine Bb (on 1010 R0) (NJ 1010 vg R0 _ (by omega) (by omega)) (Fm (by repeat (first | exact l24 | refine Ai (fun h => by have := h.le; omega) ?_))) ?_
 rintro r hp' ⟨rfl, rfl⟩ H6 hH6
 have l29 : Bg H6 (oh 1001 v0 (mkv (1) y0)) := BB hH6 (fun k hk => Ck (by omega) (by omega) (by omega) hk) (by repeat (first | exact l22 | refine Ai (fun h => by have := h.le; omega) ?_))
 have l30 : Bg H6 (oh 1002 v1 (mkv (1 + (cnt y0 : Int)) y1)) := BB hH6 (fun k hk => Ck (by omega) (by omega) (by omega) hk) (by repeat (first | exact l23 | refine Ai (fun h => by have := h.le; omega) ?_))
 have l31 : Bg H6 (oh 1010 vg (mkv (1) R0)) := DG hH6
 have o6 := OD hH6 (by omega)
 have q32 := AH (BI.1 (show Bg _ (oh (sub 1001 0) v0 ((mkv (1) y0)).types ++ oh (sub 1001 1) v0 ((mkv (1) y0)).nodes) from l29)).1
 have q33 := AH (BI.1 (show Bg _ (oh (sub 1001 0) v0 ((mkv (1) y0)).types ++ oh (sub 1001 1) v0 ((mkv (1) y0)).nodes) from l29)).2
 have q34 := AH l30
 have q35 := AH (show Bg _ (oh (sub 1010 0) vg ((mkv (1) R0)).trace) from l31)
 simp +contextual -dsimp (maxSteps := 2000000) only [↓SD, SU, simprocAttr, Aj, Aa, false_and, Be, Bl, AO, A4, hln1, BH, q32, q33, q34, q35, o1, o2, o3, o4, o5, o6]
 repeat intro _
 have hh36 := JF R0 (1) (by omega) (by omega)
 have hh36g : ¬ 1 + (cnt R0 : Int) < 0 := by omega
 refine FE (on 1010 ((mkv (1) R0))) hh36 rfl (BX (Abb (nm := 1010) (vs := vg) (y := ((mkv (1) R0))) (by rw [I0, Be]; simp only [DH]) (by repeat (first | exact l31 | refine Ai (fun h => by have := h.le; omega) ?_))) (BX rfl (rfl))) ?_
 simp +contextual -dsimp (maxSteps := 2000000) only [↓SD, SU, simprocAttr, Aj, Aa, false_and, Be, Bl, AO, A4, hln1, BH, q32, q33, q34, q35, o1, o2, o3, o4, o5, o6, hh36g, beq_self_eq_true]
 repeat intro _
 refine Ab _ T0 ?_
 simp +contextual -dsimp (maxSteps := 2000000) only [↓SD, SU, simprocAttr, Aj, Aa, false_and, Be, Bl, AO, A4, hln1, BH, q32, q33, q34, q35, o1, o2, o3, o4, o5, o6]
 repeat intro _
 refine Ab _ T1 ?_
 simp +contextual -dsimp (maxSteps := 2000000) only [↓SD, SU, simprocAttr, Aj, Aa, false_and, Be, Bl, AO, A4, hln1, BH, q32, q33, q34, q35, o1, o2, o3, o4, o5, o6]
 repeat intro _
 refine Bb [] (CI 1020 (by omega)) (by simp +contextual -dsimp only [↓SD, SU, simprocAttr]) ?_
 rintro r hp' ⟨vh, rfl, rfl⟩ H7 hH7
 rw [CK] at hH7
 have l37 : Bg H7 (oh 1020 vh R0) := by rw [hH7]; exact AX (OVal.self _ _ _)
 have l38 : Bg H7 (oh 1001 v0 (mkv (1) y0)) := Im hH7 (fun k hk => Ck (by omega) (by omega) (by omega) hk) (by repeat (first | exact l29 | refine Ai (fun h => by have := h.le; omega) ?_))
 have l39 : Bg H7 (oh 1002 v1 (mkv (1 + (cnt y0 : Int)) y1)) := Im hH7 (fun k hk => Ck (by omega) (by omega) (by omega) hk) (by repeat (first | exact l30 | refine Ai (fun h => by have := h.le; omega) ?_))
 have l40 : Bg H7 (oh 1010 vg (mkv (1) R0)) := Im hH7 (fun k hk => Ck (by omega) (by omega) (by omega) hk) (by repeat (first | exact l31 | refine Ai (fun h => by have := h.le; omega) ?_))
 have o7 := NU hH7 (by omega)
 have q41 := AH (BI.1 (show Bg _ (oh (sub 1001 0) v0 ((mkv (1) y0)).types ++ oh (sub 1001 1) v0 ((mkv (1) y0)).nodes) from l38)).1
 have q42 := AH (BI.1 (show Bg _ (oh (sub 1001 0) v0 ((mkv (1) y0)).types ++ oh (sub 1001 1) v0 ((mkv (1) y0)).nodes) from l38)).2
 have q43 := AH l39
 have q44 := AH (show Bg _ (oh (sub 1010 0) vg ((mkv (1) R0)).trace) from l40)
 have q45 := AH (show Bg _ (oh (sub 1020 0) vh R0.trace) from l37)
 simp +contextual -dsimp (maxSteps := 2000000) only [↓SD, SU, simprocAttr, Aj, Aa, false_and, Be, Bl, AO, A4, hln1, BH, q41, q42, q43, q44, q45, o1, o2, o3, o4, o5, o6, o7]
 repeat intro _
 refine FE (on 1020 R0) EL0 rfl (BX (OS (nm := 1020) (vs := vh) (y := R0) (by repeat (first | exact l37 | refine Ai (fun h => by have := h.le; omega) ?_))) (BX rfl (rfl))) ?_
 simp +contextual -dsimp (maxSteps := 2000000) only [↓SD, SU, simprocAttr, Aj, Aa, false_and, Be, Bl, AO, A4, hln1, BH, q41, q42, q43, q44, q45, o1, o2, o3, o4, o5, o6, o7, beq_self_eq_true]
 repeat intro _
 have hh46 := JF R0 (1) (by omega) (by omega)
 have hh46g : ¬ 1 + (cnt R0 : Int) < 0 := by omega
 refine FE (on 1010 ((mkv (1) R0))) hh46 rfl (BX (Abb (nm := 1010) (vs := vg) (y := ((mkv (1) R0))) (by rw [I0, Be]; simp only [DH]) (by repeat (first | exact l40 | refine Ai (fun h => by have := h.le; omega) ?_))) (BX rfl (rfl))) ?_
 simp +contextual -dsimp (maxSteps := 2000000) only [↓SD, SU, simprocAttr, Aj, Aa, false_and, Be, Bl, AO, A4, hln1, BH, q41, q42, q43, q44, q45, o1, o2, o3, o4, o5, o6, o7, hh46g, beq_self_eq_true]
 repeat intro _
end Go.Proofs.YtjbcnilllfaipaaGreat
