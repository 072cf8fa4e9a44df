/-
 EXPRESSIONS TAKEN BY THE REFERENCE'S READER, told weakly: some tree whose patterns lie in rows of their own. Conditions: none. Printed by gen/reade.py.
-/
import Derived.Test.YtoffpbehgncakaaGreatKReadH
import Derived.Test.YtoffpbehgncakaaGreatKIrReadE
set_option linter.unusedVariables false
set_option linter.unusedSimpArgs false
set_option maxRecDepth 100000
namespace Go.Proofs.YtoffpbehgncakaaGreat
open Go.RowKit Go.Proofs.YtoffpbehgncakaaGreat.Av Go.Proofs.YtoffpbehgncakaaGreat.Ml
open Go.Proofs.YtoffpbehgncakaaGreat.Av.AVal (av)
open OVal (ov oh on)

def ExC (C : RC) (f : FuncId) (args : List AV) (s : RS) (nm : Nat) : Prop := AW Tryz.prog f (.ptr 2100 C.v 0 0 :: args) (rdB C s) (ExP C s nm)
theorem U8 {C : RC} {s s' : RS} (nm : Nat) (hs : Bm C s') (k p n : Int) (x : ByteArray) (h3 : x.size ≤ C.m) (hi : s.i ≤ s'.i) (hc : s'.code ≠ 0) : ExP C s nm (.agg [.int .i64 k, .int .i64 p, .int .i64 n, .str x, .Au, .Au, .Au]) (rdB C s') :=
 LD nm hs k p n x h3 hi (fun h => absurd h hc)
theorem Jq (C : RC) (s : RS) (hs : Bm C s) (d : Int) (nm : Nat) (hc : s.code ≠ 0) : ExC C 81 [.int .i64 d] s nm := by
 unfold ExC
 refine Dj.H rfl ?_
 simp +contextual -dsimp only [↓SD, SU, simprocAttr, rdB, Ab, Aa, Dj, hc]
 intro v4
 refine Ai.post (rdB C s) ?_
 simp +contextual -dsimp only [↓SD, SU, simprocAttr, rdB, Ab, Aa]
 exact U8 nm hs 0 0 0 (bs []) (Nat.zero_le _) (Nat.le_refl _) hc
set_option maxHeartbeats 4000000 in
theorem MY (C : RC) (b : Nat) (IH : ∀ s1 d nm, Bm C s1 → b < s1.i → 0 ≤ d ∧ d ≤ 200 → ExC C 81 [.int .i64 d] s1 nm) (s : RS) (hs : Bm C s) (hbi : b ≤ s.i) (d : Int) (hd : 0 ≤ d ∧ d ≤ 100) (nm : Nat) : ExC C 195 [.int .i64 d] s nm := by
 have CT : ∀ s1 d nm, Bm C s1 → (s1.code ≠ 0 ∨ b < s1.i) → 0 ≤ d ∧ d ≤ 200 → ExC C 81 [.int .i64 d] s1 nm := fun s1 d nm h1 h2 h3 => by
  by_cases hc : s1.code = 0
  ·exact IH s1 d nm h1 (h2.resolve_left (fun h => h hc)) h3
  ·exact Jq C s1 h1 d nm hc
 obtain ⟨ht, hat⟩ := Cw hs
 have hsm := hs.small
 have hz : (bs []).size ≤ C.m := Nat.zero_le _
 have CB := FA C s hs
 have hba := PY hs
 unfold ExC
 refine HK.H rfl ?_
 simp +contextual -dsimp only [↓SD, SU, simprocAttr, rdB, Ab, Aa, HK]
 intro v4
 (refine Ad [2100, 2101] (Be C s hs) (by first | (simp +contextual -dsimp only [↓SD, SU, simprocAttr, rdB]; done) | (simp +contextual -dsimp only [↓SD, SU, simprocAttr, rdB, Af]; done) | (simp +contextual -dsimp only [↓SD, SU, simprocAttr, rdB, c0]; done)) ?_; rintro r hp' ⟨rfl, rfl⟩)
 generalize htk : A6 C s = t at *
 simp +contextual -dsimp only [↓SD, SU, simprocAttr, rdB, Ab, Aa, AY]
 intro v5
 (refine Ad [2100, 2101] (CB) (by first | (simp +contextual -dsimp only [↓SD, SU, simprocAttr, rdB]; done) | (simp +contextual -dsimp only [↓SD, SU, simprocAttr, rdB, Af]; done) | (simp +contextual -dsimp only [↓SD, SU, simprocAttr, rdB, c0]; done)) ?_; rintro r hp' ⟨rfl, rfl⟩)
 cases hb : FC t with
 | false =>
  simp +contextual -dsimp only [↓SD, SU, simprocAttr, rdB, Ab, Aa]
  (refine Ad [2100, 2101] (B4 C s hs 7 (by omega)) (by first | (simp +contextual -dsimp only [↓SD, SU, simprocAttr, rdB]; done) | (simp +contextual -dsimp only [↓SD, SU, simprocAttr, rdB, Af]; done) | (simp +contextual -dsimp only [↓SD, SU, simprocAttr, rdB, c0]; done)) ?_; rintro r hp' ⟨s1, rfl, hs1, hi1, hc1, rfl, _, hc1'⟩)
  simp +contextual -dsimp only [↓SD, SU, simprocAttr, rdB, Ab, Aa]
  refine Ai.post (rdB C s1) ?_
  simp +contextual -dsimp only [↓SD, SU, simprocAttr, rdB, Ab, Aa]
  exact U8 nm hs1 0 0 0 (bs []) hz hi1 hc1'
 | true =>
 obtain ⟨k1, k2⟩ := hba hb
 have e : (s.i : Int) + 1 = ((s.i + 1 : Nat) : Int) := by omega
 have hs1 := Bx hs k1
 by_cases q1 : t.kind = 1
 ·simp +contextual -dsimp only [↓SD, SU, simprocAttr, rdB, Ab, Aa, q1, e]
  refine ⟨by omega, ?_⟩
  refine Ai.post (rdB C { s with i := s.i + 1 }) ?_
  simp +contextual -dsimp only [↓SD, SU, simprocAttr, rdB, Ab, Aa]
  exact LD (s' := { s with i := s.i + 1 }) nm hs1 1 _ _ (bs []) hz (Nat.le_succ _) (fun h => ⟨h, Nat.lt_succ_self _⟩)
 by_cases q2 : t.kind = 2
 ·simp +contextual -dsimp only [↓SD, SU, simprocAttr, rdB, Ab, Aa, q2, q1, e]
  refine ⟨by omega, ?_⟩
  refine Ad [] (Bl 2 _ _ .Au .Au) (by simp +contextual -dsimp only [↓SD, SU, simprocAttr]) ?_
  rintro r hp' ⟨rfl, rfl⟩
  simp +contextual -dsimp only [↓SD, SU, simprocAttr, rdB, Ab, Aa]
  refine Ai.post (rdB C { s with i := s.i + 1 }) ?_
  simp +contextual -dsimp only [↓SD, SU, simprocAttr, rdB, Ab, Aa]
  exact LD (s' := { s with i := s.i + 1 }) nm hs1 2 _ 0 _ ht.2.2.1 (Nat.le_succ _) (fun h => ⟨h, Nat.lt_succ_self _⟩)
 by_cases q3 : t.kind = 3
 ·simp +contextual -dsimp only [↓SD, SU, simprocAttr, rdB, Ab, Aa, q3, q1, q2, e]
  refine ⟨by omega, ?_⟩
  refine Ad [] (Bl 3 _ _ .Au .Au) (by simp +contextual -dsimp only [↓SD, SU, simprocAttr]) ?_
  rintro r hp' ⟨rfl, rfl⟩
  simp +contextual -dsimp only [↓SD, SU, simprocAttr, rdB, Ab, Aa]
  refine Ai.post (rdB C { s with i := s.i + 1 }) ?_
  simp +contextual -dsimp only [↓SD, SU, simprocAttr, rdB, Ab, Aa]
  exact LD (s' := { s with i := s.i + 1 }) nm hs1 3 _ 0 _ ht.2.2.1 (Nat.le_succ _) (fun h => ⟨h, Nat.lt_succ_self _⟩)
 by_cases q4 : t.kind = 4
 ·simp +contextual -dsimp only [↓SD, SU, simprocAttr, rdB, Ab, Aa, q4, q1, q2, q3, e]
  refine ⟨by omega, ?_⟩
  refine Ad [] (Bl 4 _ _ .Au .Au) (by simp +contextual -dsimp only [↓SD, SU, simprocAttr]) ?_
  rintro r hp' ⟨rfl, rfl⟩
  simp +contextual -dsimp only [↓SD, SU, simprocAttr, rdB, Ab, Aa]
  refine Ai.post (rdB C { s with i := s.i + 1 }) ?_
  simp +contextual -dsimp only [↓SD, SU, simprocAttr, rdB, Ab, Aa]
  exact LD (s' := { s with i := s.i + 1 }) nm hs1 4 _ 0 _ ht.2.2.1 (Nat.le_succ _) (fun h => ⟨h, Nat.lt_succ_self _⟩)
 by_cases q5 : t.s = bs [91]
 ·simp +contextual -dsimp only [↓SD, SU, simprocAttr, rdB, Ab, Aa, q1, q2, q3, q4, q5, e]
  refine ⟨by omega, ?_⟩
  (refine Ad [2100, 2101] (A8 C { s with i := s.i + 1 } hs1 (bs [93]) (by decide)) (by first | (simp +contextual -dsimp only [↓SD, SU, simprocAttr, rdB]; done) | (simp +contextual -dsimp only [↓SD, SU, simprocAttr, rdB, Af]; done) | (simp +contextual -dsimp only [↓SD, SU, simprocAttr, rdB, c0]; done)) ?_; rintro r hp' ⟨s2, rfl, hs2, hi2, hc2, rfl, hp2⟩)
  dsimp only at hi2 hc2 hp2
  simp +contextual -dsimp only [↓SD, SU, simprocAttr, rdB, Ab, Aa]
  refine Ad [] (Bl 4 _ _ .Au .Au) (by simp +contextual -dsimp only [↓SD, SU, simprocAttr]) ?_
  rintro r hp' ⟨rfl, rfl⟩
  simp +contextual -dsimp only [↓SD, SU, simprocAttr, rdB, Ab, Aa]
  refine Ai.post (rdB C s2) ?_
  simp +contextual -dsimp only [↓SD, SU, simprocAttr, rdB, Ab, Aa]
  exact LD nm hs2 4 _ 0 (bs [91, 93]) (by rw [show (bs [91, 93]).size = 2 from rfl]; exact hs.1.2.2.2.2.1) (by omega) (fun h => ⟨hc2 h, by omega⟩)
 by_cases q6 : t.s = bs [40]
 case neg =>
  simp +contextual -dsimp only [↓SD, SU, simprocAttr, rdB, Ab, Aa, q1, q2, q3, q4, q5, q6, e]
  refine ⟨by omega, ?_⟩
  refine Ad [] (Bl 4 _ _ .Au .Au) (by simp +contextual -dsimp only [↓SD, SU, simprocAttr]) ?_
  rintro r hp' ⟨rfl, rfl⟩
  simp +contextual -dsimp only [↓SD, SU, simprocAttr, rdB, Ab, Aa]
  refine Ai.post (rdB C { s with i := s.i + 1 }) ?_
  simp +contextual -dsimp only [↓SD, SU, simprocAttr, rdB, Ab, Aa]
  exact LD (s' := { s with i := s.i + 1 }) nm hs1 4 _ 0 _ ht.2.2.1 (Nat.le_succ _) (fun h => ⟨h, Nat.lt_succ_self _⟩)
 have n1 : (bs [40] = bs [91]) = False := eq_false (by decide)
 simp +contextual -dsimp only [↓SD, SU, simprocAttr, rdB, Ab, Aa, q1, q2, q3, q4, q6, n1, e]
 refine ⟨by omega, ?_⟩
 have CI := BP C { s with i := s.i + 1 } hs1 (bs [41])
 by_cases hcl : BF (A6 C { s with i := s.i + 1 }) = bs [41]
 ·obtain ⟨j1, j2⟩ := Bz hs1 (by decide) hcl
  dsimp only at j1 j2
  have e2 : ((s.i + 1 : Nat) : Int) + 1 = ((s.i + 2 : Nat) : Int) := by omega
  rw [decide_eq_true hcl] at CI
  (refine Ad [2100, 2101] (CI) (by first | (simp +contextual -dsimp only [↓SD, SU, simprocAttr, rdB]; done) | (simp +contextual -dsimp only [↓SD, SU, simprocAttr, rdB, Af]; done) | (simp +contextual -dsimp only [↓SD, SU, simprocAttr, rdB, c0]; done)) ?_; rintro r hp' ⟨rfl, rfl⟩)
  simp +contextual -dsimp only [↓SD, SU, simprocAttr, rdB, Ab, Aa, e2]
  refine ⟨by omega, ?_⟩
  refine Ad [] (Bl 12 _ _ .Au .Au) (by simp +contextual -dsimp only [↓SD, SU, simprocAttr]) ?_
  rintro r hp' ⟨rfl, rfl⟩
  simp +contextual -dsimp only [↓SD, SU, simprocAttr, rdB, Ab, Aa]
  refine Ai.post (rdB C { s with i := s.i + 2 }) ?_
  simp +contextual -dsimp only [↓SD, SU, simprocAttr, rdB, Ab, Aa]
  exact LD (s' := { s with i := s.i + 2 }) nm (Bx hs1 j1) 12 _ 0 (bs []) hz (by dsimp only; omega) (fun h => ⟨h, by dsimp only; omega⟩)
 rw [decide_eq_false hcl] at CI
 (refine Ad [2100, 2101] (CI) (by first | (simp +contextual -dsimp only [↓SD, SU, simprocAttr, rdB]; done) | (simp +contextual -dsimp only [↓SD, SU, simprocAttr, rdB, Af]; done) | (simp +contextual -dsimp only [↓SD, SU, simprocAttr, rdB, c0]; done)) ?_; rintro r hp' ⟨rfl, rfl⟩)
 simp +contextual -dsimp only [↓SD, SU, simprocAttr, rdB, Ab, Aa]
 refine ⟨by omega, ?_⟩
 refine Ao [2100, 2101] (CT { s with i := s.i + 1 } (d + 1) (sub nm 0) hs1 (.inr (by dsimp only; omega)) (by omega)) (by first | (simp +contextual -dsimp only [↓SD, SU, simprocAttr, rdB]; done) | (simp +contextual -dsimp only [↓SD, SU, simprocAttr, rdB, Af]; done) | (simp +contextual -dsimp only [↓SD, SU, simprocAttr, rdB, Af]; done)) ?_
 rintro X1 hp' ⟨s1, T1, w1, rfl, hs1, hi1, hc1, hX1, hD1, N1, hK1, hN1⟩ H1 hH1
 dsimp only at hi1 hc1
 have hv1 := hX1.ev
 have hsm1 := hs1.small
 obtain ⟨⟨a1, b1, o1, u1'⟩, t1, k1⟩ := Bp hH1 hD1
 have u1 : Unf H1 := u1' (by repeat (first | exact Ae | exact Ae | refine AR ?_))
 simp +contextual -dsimp only [↓SD, SU, simprocAttr, rdB, Ab, Aa, EVB, Ax, Ae, Ah, a1, b1, o1, u1, hv1]
 intro v6
 have CJ := BP C s1 hs1 (bs [44])
 by_cases hcm : BF (A6 C s1) = bs [44]
 ·
  obtain ⟨j1, j2⟩ := Bz hs1 (by decide) hcm
  have e2 : (s1.i : Int) + 1 = ((s1.i + 1 : Nat) : Int) := by omega
  have hs3 := Bx hs1 j1
  rw [decide_eq_true hcm] at CJ
  refine Ao [2100, 2101] (CJ) (by first | (simp +contextual -dsimp only [↓SD, SU, simprocAttr, rdB]; done) | (simp +contextual -dsimp only [↓SD, SU, simprocAttr, rdB, Af]; done) | (simp +contextual -dsimp only [↓SD, SU, simprocAttr, rdB, a1, b1, o1, hv1, Af]; done)) ?_
  rintro r hp' ⟨rfl, rfl⟩ H2 hH2
  obtain ⟨⟨a2, b2, o2, u2'⟩, k2⟩ := AX hH2
  have u2 : Unf H2 := u2' (by repeat (first | exact u1 | exact Ae | refine AR ?_))
  have t2_T1 := k2 T1 hD1.far (by repeat (first | exact t1 | refine Ag ?_ hD1.far (by decide)))
  simp +contextual -dsimp only [↓SD, SU, simprocAttr, rdB, Ab, Aa, EVB, Ax, Ae, Ah, o1, a2, b2, o2, u2, hv1, e2]
  refine ⟨by omega, by omega, ?_⟩
  refine Ao [2100, 2101] (CT { s1 with i := s1.i + 1 } (d + 1) (sub nm 1) hs3 (.inr (by dsimp only; omega)) (by omega)) (by first | (simp +contextual -dsimp only [↓SD, SU, simprocAttr, rdB]; done) | (simp +contextual -dsimp only [↓SD, SU, simprocAttr, rdB, Af]; done) | (simp +contextual -dsimp only [↓SD, SU, simprocAttr, rdB, o1, a2, b2, o2, hv1, Af]; done)) ?_
  rintro X3 hp' ⟨s3, T3, w3, rfl, hs3, hi3, hc3, hX3, hD3, N3, hK3, hN3⟩ H3 hH3
  dsimp only at hi3 hc3
  have hv3 := hX3.ev
  have hsm3 := hs3.small
  obtain ⟨⟨a3, b3, o3, u3'⟩, t3, k3⟩ := Bp hH3 hD3
  have u3 : Unf H3 := u3' (by repeat (first | exact u2 | exact Ae | refine AR ?_))
  have t3_T1 := k3 T1 hD1.far (BG hD3 hD1 (by decide)) (by repeat (first | exact t2_T1 | refine Ag ?_ hD1.far (by decide)))
  simp +contextual -dsimp only [↓SD, SU, simprocAttr, rdB, Ab, Aa, EVB, Ax, Ae, Ah, o1, o2, a3, b3, o3, u3, hv1, hv3]
  intro v7
  refine Ad [] (Bl (11) (t.pos) (bs []) (.sl [X1, X3]) (.sl _)) (by simp +contextual -dsimp only [↓SD, SU, simprocAttr]) ?_
  rintro r hp' ⟨rfl, rfl⟩
  simp +contextual -dsimp only [↓SD, SU, simprocAttr, rdB, Ab, Aa, EVB, Ax, Ae, Ah, o1, o2, a3, b3, o3, u3, hv1, hv3]
  refine Ao [2100, 2101] (A8 C s3 hs3 (bs [41]) (by decide)) (by first | (simp +contextual -dsimp only [↓SD, SU, simprocAttr, rdB]; done) | (simp +contextual -dsimp only [↓SD, SU, simprocAttr, rdB, Af]; done) | (simp +contextual -dsimp only [↓SD, SU, simprocAttr, rdB, o1, o2, a3, b3, o3, hv1, hv3, Af]; done)) ?_
  rintro r hp' ⟨s9, rfl, hs9, hi9, hc9, rfl, hp9⟩ H4 hH4
  obtain ⟨⟨a4, b4, o4, u4'⟩, k4⟩ := AX hH4
  have u4 : Unf H4 := u4' (by repeat (first | exact u3 | exact Ae | refine AR ?_))
  have t4_T1 := k4 T1 hD1.far (by repeat (first | exact t3_T1 | refine Ag ?_ hD1.far (by decide)))
  have t4_T3 := k4 T3 hD3.far (by repeat (first | exact t3 | refine Ag ?_ hD3.far (by decide)))
  simp +contextual -dsimp only [↓SD, SU, simprocAttr, rdB, Ab, Aa, EVB, Ax, Ae, Ah, o1, o2, o3, a4, b4, o4, u4, hv1, hv3]
  refine Ai.post (rdB C s9 ++ (T3 ++ T1)) ?_
  simp +contextual -dsimp only [↓SD, SU, simprocAttr, rdB, Ab, Aa, EVB, Ax, Ae, Ah, o1, o2, o3, a4, b4, o4, u4, hv1, hv3, AO]
  refine ⟨⟨?_, ?_⟩, ?_⟩
  ·exact (by repeat (first | exact t4_T3 | refine Ag ?_ hD3.far (by decide)))
  ·exact (by repeat (first | exact t4_T1 | refine Ag ?_ hD1.far (by decide)))
  refine ⟨s9, T3 ++ T1, w1 + w3 + 1, rfl, hs9, by omega, fun h => ?_, ea2 11 _ 0 _ hz (hX1.mono ?_) (hX3.mono ?_), ?_, _, kd2 hK1 hK3, (CV (B7 hN1) hN3 (Nat.le_refl _)).dn⟩
  ·have g1 := hc3 (hc9 h)
   have g2 := hc1 g1.1
   exact ⟨g2.1, by omega, by omega⟩
  ·exact (AO.1 (EX hD3.2.1 hD1.2.1 (BG hD3 hD1 (by decide)))).2
  ·exact EB hD3.2.1
  ·exact ⟨fun p hp => by
    rcases List.mem_append.1 hp with h | h
    ·exact (Eb hD3).1 p h
    ·exact (Eb hD1).1 p h, EX hD3.2.1 hD1.2.1 (BG hD3 hD1 (by decide)), He hD3.2.2 hD1.2.2⟩
 rw [decide_eq_false hcm] at CJ
 refine Ao [2100, 2101] (CJ) (by first | (simp +contextual -dsimp only [↓SD, SU, simprocAttr, rdB]; done) | (simp +contextual -dsimp only [↓SD, SU, simprocAttr, rdB, Af]; done) | (simp +contextual -dsimp only [↓SD, SU, simprocAttr, rdB, a1, b1, o1, hv1, Af]; done)) ?_
 rintro r hp' ⟨rfl, rfl⟩ H21 hH21
 obtain ⟨⟨a21, b21, o21, u21'⟩, k21⟩ := AX hH21
 have u21 : Unf H21 := u21' (by repeat (first | exact u1 | exact Ae | refine AR ?_))
 have t21_T1 := k21 T1 hD1.far (by repeat (first | exact t1 | refine Ag ?_ hD1.far (by decide)))
 simp +contextual -dsimp only [↓SD, SU, simprocAttr, rdB, Ab, Aa, EVB, Ax, Ae, Ah, o1, a21, b21, o21, u21, hv1]
 refine Ao [2100, 2101] (A8 C s1 hs1 (bs [41]) (by decide)) (by first | (simp +contextual -dsimp only [↓SD, SU, simprocAttr, rdB]; done) | (simp +contextual -dsimp only [↓SD, SU, simprocAttr, rdB, Af]; done) | (simp +contextual -dsimp only [↓SD, SU, simprocAttr, rdB, o1, a21, b21, o21, hv1, Af]; done)) ?_
 rintro r hp' ⟨s9, rfl, hs9, hi9, hc9, rfl, hp9⟩ H22 hH22
 obtain ⟨⟨a22, b22, o22, u22'⟩, k22⟩ := AX hH22
 have u22 : Unf H22 := u22' (by repeat (first | exact u21 | exact Ae | refine AR ?_))
 have t22_T1 := k22 T1 hD1.far (by repeat (first | exact t21_T1 | refine Ag ?_ hD1.far (by decide)))
 simp +contextual -dsimp only [↓SD, SU, simprocAttr, rdB, Ab, Aa, EVB, Ax, Ae, Ah, o1, o21, a22, b22, o22, u22, hv1]
 refine Ai.post (rdB C s9 ++ (T1)) ?_
 simp +contextual -dsimp only [↓SD, SU, simprocAttr, rdB, Ab, Aa, EVB, Ax, Ae, Ah, o1, o21, a22, b22, o22, u22, hv1, AO]
 refine ⟨?_, ?_⟩
 ·exact (by repeat (first | exact t22_T1 | refine Ag ?_ hD1.far (by decide)))
 exact ⟨s9, T1, w1, rfl, hs9, by omega, fun h => by have g := hc1 (hc9 h); exact ⟨g.1, by omega, by omega⟩, hX1, Eb hD1, N1, hK1, ZO hN1⟩
structure LpS where
 s : RS
 X : AV
 T : Hp
 n : Nat
 w : Nat
 bare : Bool
 N : List Nat
set_option maxHeartbeats 4000000 in
theorem Yc (C : RC) (b : Nat) (IH : ∀ s1 d nm, Bm C s1 → b < s1.i → 0 ≤ d ∧ d ≤ 200 → ExC C 81 [.int .i64 d] s1 nm) (s : RS) (hs : Bm C s) (hbi : b ≤ s.i) (d : Int) (hd : 0 ≤ d ∧ d ≤ 100) (nm : Nat) : ExC C 194 [.int .i64 d] s nm := by
 have hsm := hs.small
 have hz : (bs []).size ≤ C.m := Nat.zero_le _
 unfold ExC
 refine IB.H rfl ?_
 simp +contextual -dsimp only [↓SD, SU, simprocAttr, rdB, Ab, Aa, IB]
 intro v4
 (refine Ad [2100, 2101] (Be C s hs) (by first | (simp +contextual -dsimp only [↓SD, SU, simprocAttr, rdB]; done) | (simp +contextual -dsimp only [↓SD, SU, simprocAttr, rdB, Af]; done) | (simp +contextual -dsimp only [↓SD, SU, simprocAttr, rdB, c0]; done)) ?_; rintro r hp' ⟨rfl, rfl⟩)
 generalize htk : A6 C s = t
 simp +contextual -dsimp only [↓SD, SU, simprocAttr, rdB, Ab, Aa, AY]
 refine Ao [2100, 2101] (MY C b IH s hs hbi d hd (sub nm 0)) (by first | (simp +contextual -dsimp only [↓SD, SU, simprocAttr, rdB]; done) | (simp +contextual -dsimp only [↓SD, SU, simprocAttr, rdB, Af]; done) | (simp +contextual -dsimp only [↓SD, SU, simprocAttr, rdB, Af]; done)) ?_
 rintro X1 hp' ⟨s1, T1, w1, rfl, hs1, hi1, hc1, hX1, hD1, N1, hK1, hN1⟩ H1 hH1
 have hv1 := hX1.ev
 have hsm1 := hs1.small
 obtain ⟨⟨a1, b1, o1, u1'⟩, t1, k1⟩ := Bp hH1 hD1
 have u1 : Unf H1 := u1' (by repeat (first | exact Ae | exact Ae | refine AR ?_))
 simp +contextual -dsimp only [↓SD, SU, simprocAttr, rdB, Ab, Aa, EVB, Ax, Ae, Ah, a1, b1, o1, u1, hv1]
 intro v6
 refine AB (X := LpS) (fun q => ⟨[(0, .ptr 2100 C.v 0 0), (1, .int .i64 d), (4, .ptr 4 v4 0 0), (5, .bool q.bare), (6, .ptr 6 v6 0 0)], (6, ⟨v6, false, 54, 7, [q.X]⟩) :: (4, ⟨v4, false, 54, 7, [.agg [.int .i64 0, .int .i64 0, .int .i64 0, .str (bs []), .Au, .Au, .Au]]⟩) :: (rdB C q.s ++ q.T)⟩) (fun q => Bm C q.s ∧ s.i ≤ q.s.i ∧ (q.s.code = 0 → s.code = 0 ∧ s.i < q.s.i ∧ q.w + 3 * s.i + 1 ≤ 3 * q.s.i) ∧ EA C.m q.T q.w q.X ∧ Lm nm q.n q.T ∧ KD q.X q.N ∧ DNR nm q.n q.N) (fun q => 2 * (C.L.length - q.s.i) + (if q.s.code = 0 then 1 else 0)) ⟨s1, X1, T1, 1, w1, decide (t.kind = 4), N1⟩ ⟨hs1, hi1, hc1, hX1, Bi hD1, hK1, B7 hN1⟩ (by simp +contextual -dsimp only [↓SD, SU, simprocAttr]) (by simp +contextual -dsimp only [↓SD, SU, simprocAttr, rdB, AO, EVB, Ax, Ae, Ah, a1, b1, o1, hv1]; (repeat (first | exact t1 | refine Ag ?_ hD1.far (by decide)))) ?_
 clear hv1
 rintro ⟨s5, X5, T5, n5, w5, bare, N5⟩ ⟨hs5, hi5, hc5, hX5, hD5, hK5, hN5⟩
 dsimp only at hs5 hi5 hc5 hX5 hD5 hK5 hN5 ⊢
 have hv5 := hX5.ev
 have hsm5 := hs5.small
 have hU5 := hD5.2.2
 by_cases c0 : s5.code = 0 ∧ FC (A6 C s5) = true
 ·
  obtain ⟨c0, hb⟩ := c0
  obtain ⟨k1, _⟩ := PY hs5 hb
  obtain ⟨q1, q2, q3⟩ := hc5 c0
  have CB := FA C s5 hs5
  rw [hb] at CB
  simp +contextual -dsimp only [↓SD, SU, simprocAttr, rdB, Ab, Aa, EVB, Ax, Ae, Ah, hU5, hv5, c0]
  refine Ao [2100, 2101] (CB) (by first | (simp +contextual -dsimp only [↓SD, SU, simprocAttr, rdB]; done) | (simp +contextual -dsimp only [↓SD, SU, simprocAttr, rdB, Af]; done) | (simp +contextual -dsimp only [↓SD, SU, simprocAttr, rdB, hv5, c0, Af]; done)) ?_
  rintro r hp' ⟨rfl, rfl⟩ H6 hH6
  obtain ⟨⟨a6, b6, o6, u6'⟩, k6⟩ := AX hH6
  have u6 : Unf H6 := u6' (by repeat (first | exact hU5 | exact Ae | refine AR ?_))
  have t6_T5 := k6 T5 hD5.far (by repeat (first | exact hD5.2.1 | refine Ag ?_ hD5.far (by decide)))
  simp +contextual -dsimp only [↓SD, SU, simprocAttr, rdB, Ab, Aa, EVB, Ax, Ae, Ah, a6, b6, o6, u6, hv5, c0]
  refine Ao [2100, 2101] (Be C s5 hs5) (by first | (simp +contextual -dsimp only [↓SD, SU, simprocAttr, rdB]; done) | (simp +contextual -dsimp only [↓SD, SU, simprocAttr, rdB, Af]; done) | (simp +contextual -dsimp only [↓SD, SU, simprocAttr, rdB, a6, b6, o6, hv5, c0, Af]; done)) ?_
  rintro r hp' ⟨rfl, rfl⟩ H7 hH7
  obtain ⟨⟨a7, b7, o7, u7'⟩, k7⟩ := AX hH7
  have u7 : Unf H7 := u7' (by repeat (first | exact u6 | exact Ae | refine AR ?_))
  have t7_T5 := k7 T5 hD5.far (by repeat (first | exact t6_T5 | refine Ag ?_ hD5.far (by decide)))
  obtain ⟨htw, _⟩ := Cw hs5
  generalize A6 C s5 = u at *
  simp +contextual -dsimp only [↓SD, SU, simprocAttr, rdB, Ab, Aa, EVB, Ax, Ae, Ah, o6, a7, b7, o7, u7, hv5, c0, AY]
  refine Ao [2100, 2101] (MY C b IH s5 hs5 (by omega) d hd (sub nm n5)) (by first | (simp +contextual -dsimp only [↓SD, SU, simprocAttr, rdB]; done) | (simp +contextual -dsimp only [↓SD, SU, simprocAttr, rdB, Af]; done) | (simp +contextual -dsimp only [↓SD, SU, simprocAttr, rdB, o6, a7, b7, o7, hv5, c0, Af]; done)) ?_
  rintro X8 hp' ⟨s8, T8, w8, rfl, hs8, hi8, hc8, hX8, hD8, N8, hK8, hN8⟩ H8 hH8
  have hv8 := hX8.ev
  have hsm8 := hs8.small
  obtain ⟨⟨a8, b8, o8, u8'⟩, t8, k8⟩ := Bp hH8 hD8
  have u8 : Unf H8 := u8' (by repeat (first | exact u7 | exact Ae | refine AR ?_))
  have t8_T5 := k8 T5 hD5.far (E3 hD5 hD8 (Nat.le_refl _)) (by repeat (first | exact t7_T5 | refine Ag ?_ hD5.far (by decide)))
  simp +contextual -dsimp only [↓SD, SU, simprocAttr, rdB, Ab, Aa, EVB, Ax, Ae, Ah, o6, o7, a8, b8, o8, u8, hv5, hv8]
  intro v8
  obtain ⟨cb1, cb2⟩ := comb hD5 hD8 (Nat.le_refl _)
  cases bare with
  | true =>
   cases hX5 with
   | mk k p nn x P es w' h1 hP he =>
   obtain ⟨p1, p2⟩ := hP.QJ
   obtain ⟨N', rfl⟩ := AbJ hK5
   simp +contextual -dsimp only [↓SD, SU, simprocAttr, rdB, Ab, Aa, EVB, Ax, Ae, Ah, o6, o7, a8, b8, o8, u8, hv5, hv8, p1]
   exact Ai.le ⟨⟨s8, .agg [.int .i64 k, .int .i64 p, .int .i64 nn, .str x, .Au, P, .sl [X8]], T8 ++ T5, n5 + 1, w8 + 1, false, kp P ++ N8⟩, ⟨⟨hs8, by dsimp only; omega, fun h => by have g := hc8 h; exact ⟨q1, by dsimp only; omega, by dsimp only; omega⟩, .mk k p nn x P [X8] w8 h1 (hP.mono cb2) (by have := EAs.cons w8 0 X8 [] (hX8.mono cb1) .nil; exact this), Ca hD5 hD8 (Nat.le_refl _), kdP hK8, ZN hN5 hN8 (Nat.le_refl _)⟩, by
    dsimp only
    rw [if_pos c0]
    by_cases h : s8.code = 0
    ·have g := hc8 h; rw [if_pos h]; omega
    ·rw [if_neg h]; omega⟩, rfl⟩ (by simp +contextual -dsimp only [↓SD, SU, simprocAttr]) (by simp +contextual -dsimp only [↓SD, SU, simprocAttr, rdB, AO, EVB, Ax, Ae, Ah, o6, o7, a8, b8, o8, hv5, hv8]; exact ⟨(by repeat (first | exact t8 | refine Ag ?_ hD8.far (by decide))), (by repeat (first | exact t8_T5 | refine Ag ?_ hD5.far (by decide)))⟩)
  | false =>
   simp +contextual -dsimp only [↓SD, SU, simprocAttr, rdB, Ab, Aa, EVB, Ax, Ae, Ah, o6, o7, a8, b8, o8, u8, hv5, hv8]
   refine Ad [] (Bl (6) (u.pos) (bs []) (.sl [X5, X8]) (.sl _)) (by simp +contextual -dsimp only [↓SD, SU, simprocAttr]) ?_
   rintro r hp' ⟨rfl, rfl⟩
   simp +contextual -dsimp only [↓SD, SU, simprocAttr, rdB, Ab, Aa, EVB, Ax, Ae, Ah, o6, o7, a8, b8, o8, u8, hv5, hv8]
   exact Ai.le ⟨⟨s8, .agg [.int .i64 6, .int .i64 u.pos, .int .i64 0, .str (bs []), .Au, .Au, .sl [X5, X8]], T8 ++ T5, n5 + 1, w5 + w8 + 1, false, N5 ++ N8⟩, ⟨⟨hs8, by dsimp only; omega, fun h => by have g := hc8 h; exact ⟨q1, by dsimp only; omega, by dsimp only; omega⟩, ea2 6 _ 0 _ hz (hX5.mono cb2) (hX8.mono cb1), Ca hD5 hD8 (Nat.le_refl _), kd2 hK5 hK8, CV hN5 hN8 (Nat.le_refl _)⟩, by
    dsimp only
    rw [if_pos c0]
    by_cases h : s8.code = 0
    ·have g := hc8 h; rw [if_pos h]; omega
    ·rw [if_neg h]; omega⟩, rfl⟩ (by simp +contextual -dsimp only [↓SD, SU, simprocAttr]) (by simp +contextual -dsimp only [↓SD, SU, simprocAttr, rdB, AO, EVB, Ax, Ae, Ah, o6, o7, a8, b8, o8, hv5, hv8]; exact ⟨(by repeat (first | exact t8 | refine Ag ?_ hD8.far (by decide))), (by repeat (first | exact t8_T5 | refine Ag ?_ hD5.far (by decide)))⟩)
 have hex : ∀ (_ : True), True := fun h => h
 by_cases c1 : s5.code = 0
 case' pos =>
  have hb : FC (A6 C s5) = false := by
   cases h : FC (A6 C s5) with
   | false => rfl
   | true => exact absurd ⟨c1, h⟩ c0
  have CB := FA C s5 hs5
  rw [hb] at CB
  simp +contextual -dsimp only [↓SD, SU, simprocAttr, rdB, Ab, Aa, c1, EVB, Ax, Ae, Ah, hU5, hv5]
  refine Ao [2100, 2101] (CB) (by first | (simp +contextual -dsimp only [↓SD, SU, simprocAttr, rdB]; done) | (simp +contextual -dsimp only [↓SD, SU, simprocAttr, rdB, Af]; done) | (simp +contextual -dsimp only [↓SD, SU, simprocAttr, rdB, hv5, c1, Af]; done)) ?_
  rintro r hp' ⟨rfl, rfl⟩ H31 hH31
  obtain ⟨⟨a31, b31, o31, u31'⟩, k31⟩ := AX hH31
  have u31 : Unf H31 := u31' (by repeat (first | exact hU5 | exact Ae | refine AR ?_))
  have t31_T5 := k31 T5 hD5.far (by repeat (first | exact hD5.2.1 | refine Ag ?_ hD5.far (by decide)))
  simp +contextual -dsimp only [↓SD, SU, simprocAttr, rdB, Ab, Aa, EVB, Ax, Ae, Ah, a31, b31, o31, u31, hv5, c1]
  refine Ai.post (rdB C s5 ++ (T5)) ?_
  simp +contextual -dsimp only [↓SD, SU, simprocAttr, rdB, Ab, Aa, EVB, Ax, Ae, Ah, a31, b31, o31, u31, hv5, c1, AO]
  refine ⟨?_, ?_⟩
  ·exact (by repeat (first | exact t31_T5 | refine Ag ?_ hD5.far (by decide)))
  exact ⟨s5, T5, w5, by first | rfl | simp only [rdB, c1, List.cons_append, List.nil_append], hs5, hi5, hc5, hX5, hD5.dis, N5, hK5, hN5.dn⟩
 case' neg =>
  simp +contextual -dsimp only [↓SD, SU, simprocAttr, rdB, Ab, Aa, c1, EVB, Ax, Ae, Ah, hU5, hv5]
  refine Ai.post (rdB C s5 ++ (T5)) ?_
  simp +contextual -dsimp only [↓SD, SU, simprocAttr, rdB, Ab, Aa, EVB, Ax, Ae, Ah, hU5, hv5, AO]
  refine ⟨?_, ?_⟩
  ·exact (by repeat (first | exact hD5.2.1 | refine Ag ?_ hD5.far (by decide)))
  exact ⟨s5, T5, w5, by first | rfl | simp only [rdB, c1, List.cons_append, List.nil_append], hs5, hi5, hc5, hX5, hD5.dis, N5, hK5, hN5.dn⟩
set_option maxHeartbeats 4000000 in
theorem Ya (C : RC) (b : Nat) (IH : ∀ s1 d nm, Bm C s1 → b < s1.i → 0 ≤ d ∧ d ≤ 200 → ExC C 81 [.int .i64 d] s1 nm) : ∀ (n : Nat) (s : RS), Bm C s → b ≤ s.i → C.L.length - s.i = n → ∀ (d : Int), 0 ≤ d ∧ d ≤ 100 → ∀ nm : Nat, ExC C 193 [.int .i64 d] s nm := by
 intro n
 induction n using Nat.strongRecOn with
 | ind n ihn =>
 intro s hs hbi hn d hd nm
 have hsm := hs.small
 have hz : (bs []).size ≤ C.m := Nat.zero_le _
 unfold ExC
 refine Jr.H rfl ?_
 simp +contextual -dsimp only [↓SD, SU, simprocAttr, rdB, Ab, Aa, Jr]
 intro v4
 (refine Ad [2100, 2101] (Be C s hs) (by first | (simp +contextual -dsimp only [↓SD, SU, simprocAttr, rdB]; done) | (simp +contextual -dsimp only [↓SD, SU, simprocAttr, rdB, Af]; done) | (simp +contextual -dsimp only [↓SD, SU, simprocAttr, rdB, c0]; done)) ?_; rintro r hp' ⟨rfl, rfl⟩)
 obtain ⟨ht, hat⟩ := Cw hs
 have hsg := fun (x : ByteArray) hx => Bz (x := x) hs hx
 generalize htk : A6 C s = t at *
 simp +contextual -dsimp only [↓SD, SU, simprocAttr, rdB, Ab, Aa, AY]
 intro v5
 refine Ac _ (CM t) ?_
 by_cases q0 : BF t = bs [114, 97, 105, 115, 101]
 ·
  obtain ⟨k1, k2⟩ := hsg _ (by decide) q0
  have p0 := eq_true q0
  have hs1 := Bx hs k1
  have e : (s.i : Int) + 1 = ((s.i + 1 : Nat) : Int) := by omega
  simp +contextual -dsimp only [↓SD, SU, simprocAttr, rdB, Ab, Aa, e, p0]
  refine ⟨by omega, ?_⟩
  refine Ao [2100, 2101] (ihn (C.L.length - (s.i + 1)) (by omega) { s with i := s.i + 1 } hs1 (by dsimp only; omega) rfl d hd (sub nm 0)) (by first | (simp +contextual -dsimp only [↓SD, SU, simprocAttr, rdB]; done) | (simp +contextual -dsimp only [↓SD, SU, simprocAttr, rdB, Af]; done) | (simp +contextual -dsimp only [↓SD, SU, simprocAttr, rdB, Af]; done)) ?_
  rintro X1 hp' ⟨s1, T1, w1, rfl, hs1, hi1, hc1, hX1, hD1, N1, hK1, hN1⟩ H1 hH1
  dsimp only at hi1 hc1
  have hv1 := hX1.ev
  have hsm1 := hs1.small
  obtain ⟨⟨a1, b1, o1, u1'⟩, t1, k1⟩ := Bp hH1 hD1
  have u1 : Unf H1 := u1' (by repeat (first | exact Ae | exact Ae | refine AR ?_))
  simp +contextual -dsimp only [↓SD, SU, simprocAttr, rdB, Ab, Aa, EVB, Ax, Ae, Ah, a1, b1, o1, u1, hv1]
  intro v7
  refine Ad [] (Bl (14) (t.pos) (bs []) (.sl [X1]) (.sl _)) (by simp +contextual -dsimp only [↓SD, SU, simprocAttr]) ?_
  rintro r hp' ⟨rfl, rfl⟩
  simp +contextual -dsimp only [↓SD, SU, simprocAttr, rdB, Ab, Aa, EVB, Ax, Ae, Ah, a1, b1, o1, u1, hv1]
  refine Ai.post (rdB C s1 ++ (T1)) ?_
  simp +contextual -dsimp only [↓SD, SU, simprocAttr, rdB, Ab, Aa, EVB, Ax, Ae, Ah, a1, b1, o1, u1, hv1, AO]
  refine ⟨?_, ?_⟩
  ·exact (by repeat (first | exact t1 | refine Ag ?_ hD1.far (by decide)))
  exact ⟨s1, T1, w1 + 1, rfl, hs1, by omega, fun h => by
    have g0 := hc1 h
    exact ⟨g0.1, by omega, by omega⟩, ea1 14 _ 0 _ hz hX1, Bi hD1|>.dis, _, (kd1 hK1), (by have hn := (B7 hN1); simpa only [List.append_assoc, List.nil_append, List.append_nil] using hn.dn)⟩
 by_cases q1 : BF t = bs [114, 101, 102]
 ·
  obtain ⟨k1, k2⟩ := hsg _ (by decide) q1
  have p1 := eq_true q1
  have hs1 := Bx hs k1
  have e : (s.i : Int) + 1 = ((s.i + 1 : Nat) : Int) := by omega
  simp +contextual -dsimp only [↓SD, SU, simprocAttr, rdB, Ab, Aa, e, q0, p1]
  refine ⟨by omega, ?_⟩
  refine Ao [2100, 2101] (ihn (C.L.length - (s.i + 1)) (by omega) { s with i := s.i + 1 } hs1 (by dsimp only; omega) rfl d hd (sub nm 0)) (by first | (simp +contextual -dsimp only [↓SD, SU, simprocAttr, rdB]; done) | (simp +contextual -dsimp only [↓SD, SU, simprocAttr, rdB, Af]; done) | (simp +contextual -dsimp only [↓SD, SU, simprocAttr, rdB, Af]; done)) ?_
  rintro X1 hp' ⟨s1, T1, w1, rfl, hs1, hi1, hc1, hX1, hD1, N1, hK1, hN1⟩ H1 hH1
  dsimp only at hi1 hc1
  have hv1 := hX1.ev
  have hsm1 := hs1.small
  obtain ⟨⟨a1, b1, o1, u1'⟩, t1, k1⟩ := Bp hH1 hD1
  have u1 : Unf H1 := u1' (by repeat (first | exact Ae | exact Ae | refine AR ?_))
  simp +contextual -dsimp only [↓SD, SU, simprocAttr, rdB, Ab, Aa, EVB, Ax, Ae, Ah, a1, b1, o1, u1, hv1]
  intro v7
  refine Ad [] (Bl (16) (t.pos) (bs []) (.sl [X1]) (.sl _)) (by simp +contextual -dsimp only [↓SD, SU, simprocAttr]) ?_
  rintro r hp' ⟨rfl, rfl⟩
  simp +contextual -dsimp only [↓SD, SU, simprocAttr, rdB, Ab, Aa, EVB, Ax, Ae, Ah, a1, b1, o1, u1, hv1]
  refine Ai.post (rdB C s1 ++ (T1)) ?_
  simp +contextual -dsimp only [↓SD, SU, simprocAttr, rdB, Ab, Aa, EVB, Ax, Ae, Ah, a1, b1, o1, u1, hv1, AO]
  refine ⟨?_, ?_⟩
  ·exact (by repeat (first | exact t1 | refine Ag ?_ hD1.far (by decide)))
  exact ⟨s1, T1, w1 + 1, rfl, hs1, by omega, fun h => by
    have g0 := hc1 h
    exact ⟨g0.1, by omega, by omega⟩, ea1 16 _ 0 _ hz hX1, Bi hD1|>.dis, _, (kd1 hK1), (by have hn := (B7 hN1); simpa only [List.append_assoc, List.nil_append, List.append_nil] using hn.dn)⟩
 by_cases q2 : BF t = bs [33]
 ·
  obtain ⟨k1, k2⟩ := hsg _ (by decide) q2
  have p2 := eq_true q2
  have hs1 := Bx hs k1
  have e : (s.i : Int) + 1 = ((s.i + 1 : Nat) : Int) := by omega
  simp +contextual -dsimp only [↓SD, SU, simprocAttr, rdB, Ab, Aa, e, q0, q1, p2]
  refine ⟨by omega, ?_⟩
  refine Ao [2100, 2101] (ihn (C.L.length - (s.i + 1)) (by omega) { s with i := s.i + 1 } hs1 (by dsimp only; omega) rfl d hd (sub nm 0)) (by first | (simp +contextual -dsimp only [↓SD, SU, simprocAttr, rdB]; done) | (simp +contextual -dsimp only [↓SD, SU, simprocAttr, rdB, Af]; done) | (simp +contextual -dsimp only [↓SD, SU, simprocAttr, rdB, Af]; done)) ?_
  rintro X1 hp' ⟨s1, T1, w1, rfl, hs1, hi1, hc1, hX1, hD1, N1, hK1, hN1⟩ H1 hH1
  dsimp only at hi1 hc1
  have hv1 := hX1.ev
  have hsm1 := hs1.small
  obtain ⟨⟨a1, b1, o1, u1'⟩, t1, k1⟩ := Bp hH1 hD1
  have u1 : Unf H1 := u1' (by repeat (first | exact Ae | exact Ae | refine AR ?_))
  simp +contextual -dsimp only [↓SD, SU, simprocAttr, rdB, Ab, Aa, EVB, Ax, Ae, Ah, a1, b1, o1, u1, hv1]
  intro v7
  refine Ad [] (Bl (17) (t.pos) (bs []) (.sl [X1]) (.sl _)) (by simp +contextual -dsimp only [↓SD, SU, simprocAttr]) ?_
  rintro r hp' ⟨rfl, rfl⟩
  simp +contextual -dsimp only [↓SD, SU, simprocAttr, rdB, Ab, Aa, EVB, Ax, Ae, Ah, a1, b1, o1, u1, hv1]
  refine Ai.post (rdB C s1 ++ (T1)) ?_
  simp +contextual -dsimp only [↓SD, SU, simprocAttr, rdB, Ab, Aa, EVB, Ax, Ae, Ah, a1, b1, o1, u1, hv1, AO]
  refine ⟨?_, ?_⟩
  ·exact (by repeat (first | exact t1 | refine Ag ?_ hD1.far (by decide)))
  exact ⟨s1, T1, w1 + 1, rfl, hs1, by omega, fun h => by
    have g0 := hc1 h
    exact ⟨g0.1, by omega, by omega⟩, ea1 17 _ 0 _ hz hX1, Bi hD1|>.dis, _, (kd1 hK1), (by have hn := (B7 hN1); simpa only [List.append_assoc, List.nil_append, List.append_nil] using hn.dn)⟩
 by_cases q3 : BF t = bs [45]
 ·
  obtain ⟨k1, k2⟩ := hsg _ (by decide) q3
  have p3 := eq_true q3
  have hs1 := Bx hs k1
  have e : (s.i : Int) + 1 = ((s.i + 1 : Nat) : Int) := by omega
  simp +contextual -dsimp only [↓SD, SU, simprocAttr, rdB, Ab, Aa, e, q0, q1, q2, p3]
  refine ⟨by omega, ?_⟩
  refine Ao [2100, 2101] (ihn (C.L.length - (s.i + 1)) (by omega) { s with i := s.i + 1 } hs1 (by dsimp only; omega) rfl d hd (sub nm 0)) (by first | (simp +contextual -dsimp only [↓SD, SU, simprocAttr, rdB]; done) | (simp +contextual -dsimp only [↓SD, SU, simprocAttr, rdB, Af]; done) | (simp +contextual -dsimp only [↓SD, SU, simprocAttr, rdB, Af]; done)) ?_
  rintro X1 hp' ⟨s1, T1, w1, rfl, hs1, hi1, hc1, hX1, hD1, N1, hK1, hN1⟩ H1 hH1
  dsimp only at hi1 hc1
  have hv1 := hX1.ev
  have hsm1 := hs1.small
  obtain ⟨⟨a1, b1, o1, u1'⟩, t1, k1⟩ := Bp hH1 hD1
  have u1 : Unf H1 := u1' (by repeat (first | exact Ae | exact Ae | refine AR ?_))
  simp +contextual -dsimp only [↓SD, SU, simprocAttr, rdB, Ab, Aa, EVB, Ax, Ae, Ah, a1, b1, o1, u1, hv1]
  intro v7
  intro v8
  refine Ad [] (Bl (10) (t.pos) (bs [45]) (.sl [.agg [.int .i64 1, .int .i64 t.pos, .int .i64 0, .str (bs []), .Au, .Au, .Au], X1]) (.sl _)) (by simp +contextual -dsimp only [↓SD, SU, simprocAttr]) ?_
  rintro r hp' ⟨rfl, rfl⟩
  simp +contextual -dsimp only [↓SD, SU, simprocAttr, rdB, Ab, Aa, EVB, Ax, Ae, Ah, a1, b1, o1, u1, hv1]
  refine Ai.post (rdB C s1 ++ (T1)) ?_
  simp +contextual -dsimp only [↓SD, SU, simprocAttr, rdB, Ab, Aa, EVB, Ax, Ae, Ah, a1, b1, o1, u1, hv1, AO]
  refine ⟨?_, ?_⟩
  ·exact (by repeat (first | exact t1 | refine Ag ?_ hD1.far (by decide)))
  exact ⟨s1, T1, 1 + w1 + 1, rfl, hs1, by omega, fun h => by
    have g0 := hc1 h
    exact ⟨g0.1, by omega, by omega⟩, ea2 10 _ 0 _ (by rw [show (bs [45]).size = 1 from rfl]; exact Nat.le_trans (by decide) hs.1.2.2.2.2.1) (ea0 1 _ 0 _ hz) hX1, Bi hD1|>.dis, _, (kd2 (kd0) hK1), (by have hn := (B7 hN1); simpa only [List.append_assoc, List.nil_append, List.append_nil] using hn.dn)⟩
 simp +contextual -dsimp only [↓SD, SU, simprocAttr, rdB, Ab, Aa, q0, q1, q2, q3]
 refine Ao [2100, 2101] (Yc C b IH s hs hbi d hd (sub nm 0)) (by first | (simp +contextual -dsimp only [↓SD, SU, simprocAttr, rdB]; done) | (simp +contextual -dsimp only [↓SD, SU, simprocAttr, rdB, Af]; done) | (simp +contextual -dsimp only [↓SD, SU, simprocAttr, rdB, Af]; done)) ?_
 rintro X31 hp' ⟨s31, T31, w31, rfl, hs31, hi31, hc31, hX31, hD31, N31, hK31, hN31⟩ H31 hH31
 have hv31 := hX31.ev
 have hsm31 := hs31.small
 obtain ⟨⟨a31, b31, o31, u31'⟩, t31, k31⟩ := Bp hH31 hD31
 have u31 : Unf H31 := u31' (by repeat (first | exact Ae | exact Ae | refine AR ?_))
 simp +contextual -dsimp only [↓SD, SU, simprocAttr, rdB, Ab, Aa, EVB, Ax, Ae, Ah, a31, b31, o31, u31, hv31]
 refine Ai.post (rdB C s31 ++ (T31)) ?_
 simp +contextual -dsimp only [↓SD, SU, simprocAttr, rdB, Ab, Aa, EVB, Ax, Ae, Ah, a31, b31, o31, u31, hv31, AO]
 refine ⟨?_, ?_⟩
 ·exact (by repeat (first | exact t31 | refine Ag ?_ hD31.far (by decide)))
 exact ⟨s31, T31, w31, rfl, hs31, hi31, hc31, hX31, Eb hD31, N31, hK31, ZO hN31⟩
theorem Su (C : RC) (b : Nat) (IH : ∀ s1 d nm, Bm C s1 → b < s1.i → 0 ≤ d ∧ d ≤ 200 → ExC C 81 [.int .i64 d] s1 nm) (s : RS) (hs : Bm C s) (hbi : b ≤ s.i) (d : Int) (hd : 0 ≤ d ∧ d ≤ 100) (nm : Nat) : ExC C 193 [.int .i64 d] s nm := Ya C b IH _ s hs hbi rfl d hd nm
set_option maxHeartbeats 4000000 in
theorem LH (C : RC) (b : Nat) (IH : ∀ s1 d nm, Bm C s1 → b < s1.i → 0 ≤ d ∧ d ≤ 200 → ExC C 81 [.int .i64 d] s1 nm) (s : RS) (hs : Bm C s) (hbi : b ≤ s.i) (d : Int) (hd : 0 ≤ d ∧ d ≤ 100) (nm : Nat) : ExC C 190 [.int .i64 d, .int .i64 0] s nm := by
 have hsm := hs.small
 have hz : (bs []).size ≤ C.m := Nat.zero_le _
 unfold ExC
 refine D4.H rfl ?_
 simp +contextual -dsimp only [↓SD, SU, simprocAttr, rdB, Ab, Aa, D4]
 intro v6 v8
 refine Ao [2100, 2101] (Su C b IH s hs hbi d hd (sub nm 0)) (by first | (simp +contextual -dsimp only [↓SD, SU, simprocAttr, rdB]; done) | (simp +contextual -dsimp only [↓SD, SU, simprocAttr, rdB, Af]; done) | (simp +contextual -dsimp only [↓SD, SU, simprocAttr, rdB, Af]; done)) ?_
 rintro X1 hp' ⟨s1, T1, w1, rfl, hs1, hi1, hc1, hX1, hD1, N1, hK1, hN1⟩ H1 hH1
 have hv1 := hX1.ev
 have hsm1 := hs1.small
 obtain ⟨⟨a1, b1, o1, u1'⟩, t1, k1⟩ := Bp hH1 hD1
 have u1 : Unf H1 := u1' (by repeat (first | exact Ae | exact Ae | refine AR ?_))
 simp +contextual -dsimp only [↓SD, SU, simprocAttr, rdB, Ab, Aa, EVB, Ax, Ae, Ah, a1, b1, o1, u1, hv1]
 refine AB (X := LpS) (fun q => ⟨[(0, .ptr 2100 C.v 0 0), (1, .int .i64 d), (2, .int .i64 0), (6, .ptr 6 v6 0 0), (7, .sl [.str (bs [42]), .str (bs [47]), .str (bs [37])]), (8, .ptr 8 v8 0 0)], (8, ⟨v8, false, 54, 7, [q.X]⟩) :: (6, ⟨v6, false, 54, 7, [.agg [.int .i64 0, .int .i64 0, .int .i64 0, .str (bs []), .Au, .Au, .Au]]⟩) :: (rdB C q.s ++ q.T)⟩) (fun q => Bm C q.s ∧ s.i ≤ q.s.i ∧ (q.s.code = 0 → s.code = 0 ∧ s.i < q.s.i ∧ q.w + 3 * s.i + 1 ≤ 3 * q.s.i) ∧ EA C.m q.T q.w q.X ∧ Lm nm q.n q.T ∧ KD q.X q.N ∧ DNR nm q.n q.N) (fun q => 2 * (C.L.length - q.s.i) + (if q.s.code = 0 then 1 else 0)) ⟨s1, X1, T1, 1, w1, false, N1⟩ ⟨hs1, hi1, hc1, hX1, Bi hD1, hK1, B7 hN1⟩ (by simp +contextual -dsimp only [↓SD, SU, simprocAttr]) (by simp +contextual -dsimp only [↓SD, SU, simprocAttr, rdB, AO, EVB, Ax, Ae, Ah, a1, b1, o1, hv1]; (repeat (first | exact t1 | refine Ag ?_ hD1.far (by decide)))) ?_
 clear hv1
 rintro ⟨s5, X5, T5, n5, w5, bare, N5⟩ ⟨hs5, hi5, hc5, hX5, hD5, hK5, hN5⟩
 dsimp only at hs5 hi5 hc5 hX5 hD5 hK5 hN5 ⊢
 have hv5 := hX5.ev
 have hsm5 := hs5.small
 have hU5 := hD5.2.2
 have CI := It C s5 hs5 [bs [42], bs [47], bs [37]] (by decide)
 by_cases c0 : s5.code = 0 ∧ inB (A6 C s5) [bs [42], bs [47], bs [37]] = true
 ·
  obtain ⟨c0, hb⟩ := c0
  obtain ⟨k1, _⟩ := Zy hs5 (by decide) hb
  obtain ⟨q1, q2, q3⟩ := hc5 c0
  rw [hb] at CI
  simp +contextual -dsimp only [↓SD, SU, simprocAttr, rdB, Ab, Aa, EVB, Ax, Ae, Ah, hU5, hv5, c0]
  refine Ao [2100, 2101] (CI) (by first | (simp +contextual -dsimp only [↓SD, SU, simprocAttr, rdB]; done) | (simp +contextual -dsimp only [↓SD, SU, simprocAttr, rdB, Af]; done) | (simp +contextual -dsimp only [↓SD, SU, simprocAttr, rdB, hv5, c0, Af]; done)) ?_
  rintro r hp' ⟨rfl, rfl⟩ H6 hH6
  obtain ⟨⟨a6, b6, o6, u6'⟩, k6⟩ := AX hH6
  have u6 : Unf H6 := u6' (by repeat (first | exact hU5 | exact Ae | refine AR ?_))
  have t6_T5 := k6 T5 hD5.far (by repeat (first | exact hD5.2.1 | refine Ag ?_ hD5.far (by decide)))
  simp +contextual -dsimp only [↓SD, SU, simprocAttr, rdB, Ab, Aa, EVB, Ax, Ae, Ah, a6, b6, o6, u6, hv5, c0]
  refine Ao [2100, 2101] (Be C s5 hs5) (by first | (simp +contextual -dsimp only [↓SD, SU, simprocAttr, rdB]; done) | (simp +contextual -dsimp only [↓SD, SU, simprocAttr, rdB, Af]; done) | (simp +contextual -dsimp only [↓SD, SU, simprocAttr, rdB, a6, b6, o6, hv5, c0, Af]; done)) ?_
  rintro r hp' ⟨rfl, rfl⟩ H7 hH7
  obtain ⟨⟨a7, b7, o7, u7'⟩, k7⟩ := AX hH7
  have u7 : Unf H7 := u7' (by repeat (first | exact u6 | exact Ae | refine AR ?_))
  have t7_T5 := k7 T5 hD5.far (by repeat (first | exact t6_T5 | refine Ag ?_ hD5.far (by decide)))
  obtain ⟨htw, _⟩ := Cw hs5
  have hus := htw.2.2.1
  generalize A6 C s5 = u at *
  have hs6 := Bx hs5 k1
  have e : (s5.i : Int) + 1 = ((s5.i + 1 : Nat) : Int) := by omega
  simp +contextual -dsimp only [↓SD, SU, simprocAttr, rdB, Ab, Aa, EVB, Ax, Ae, Ah, o6, a7, b7, o7, u7, hv5, c0, AY]
  intro v9
  simp +contextual -dsimp only [↓SD, SU, simprocAttr, rdB, Ab, Aa, EVB, Ax, Ae, Ah, o6, a7, b7, o7, u7, hv5, c0, e]
  refine ⟨by omega, ?_⟩
  intro v10
  refine Ao [2100, 2101] (Su C b IH { s5 with i := s5.i + 1 } hs6 (by dsimp only; omega) d hd (sub nm n5)) (by first | (simp +contextual -dsimp only [↓SD, SU, simprocAttr, rdB]; done) | (simp +contextual -dsimp only [↓SD, SU, simprocAttr, rdB, Af]; done) | (simp +contextual -dsimp only [↓SD, SU, simprocAttr, rdB, o6, a7, b7, o7, hv5, c0, e, Af]; done)) ?_
  rintro X8 hp' ⟨s8, T8, w8, rfl, hs8, hi8, hc8, hX8, hD8, N8, hK8, hN8⟩ H8 hH8
  dsimp only at hi8 hc8
  have hv8 := hX8.ev
  have hsm8 := hs8.small
  obtain ⟨⟨a8, b8, o8, u8'⟩, t8, k8⟩ := Bp hH8 hD8
  have u8 : Unf H8 := u8' (by repeat (first | exact u7 | exact Ae | refine AR ?_))
  have t8_T5 := k8 T5 hD5.far (E3 hD5 hD8 (Nat.le_refl _)) (by repeat (first | exact t7_T5 | refine Ag ?_ hD5.far (by decide)))
  simp +contextual -dsimp only [↓SD, SU, simprocAttr, rdB, Ab, Aa, EVB, Ax, Ae, Ah, o6, o7, a8, b8, o8, u8, hv5, hv8]
  obtain ⟨cb1, cb2⟩ := comb hD5 hD8 (Nat.le_refl _)
  refine Ad [] (Bl (10) (u.pos) (u.s) (.sl [X5, X8]) (.sl _)) (by simp +contextual -dsimp only [↓SD, SU, simprocAttr]) ?_
  rintro r hp' ⟨rfl, rfl⟩
  simp +contextual -dsimp only [↓SD, SU, simprocAttr, rdB, Ab, Aa, EVB, Ax, Ae, Ah, o6, o7, a8, b8, o8, u8, hv5, hv8]
  exact Ai.le ⟨⟨s8, .agg [.int .i64 10, .int .i64 u.pos, .int .i64 0, .str u.s, .Au, .Au, .sl [X5, X8]], T8 ++ T5, n5 + 1, w5 + w8 + 1, false, N5 ++ N8⟩, ⟨⟨hs8, by dsimp only; omega, fun h => by have g := hc8 h; exact ⟨q1, by dsimp only; omega, by dsimp only; omega⟩, ea2 10 _ 0 _ hus (hX5.mono cb2) (hX8.mono cb1), Ca hD5 hD8 (Nat.le_refl _), kd2 hK5 hK8, CV hN5 hN8 (Nat.le_refl _)⟩, by
   dsimp only
   rw [if_pos c0]
   by_cases h : s8.code = 0
   ·have g := hc8 h; rw [if_pos h]; omega
   ·rw [if_neg h]; omega⟩, rfl⟩ (by simp +contextual -dsimp only [↓SD, SU, simprocAttr]) (by simp +contextual -dsimp only [↓SD, SU, simprocAttr, rdB, AO, EVB, Ax, Ae, Ah, o6, o7, a8, b8, o8, hv5, hv8]; exact ⟨(by repeat (first | exact t8 | refine Ag ?_ hD8.far (by decide))), (by repeat (first | exact t8_T5 | refine Ag ?_ hD5.far (by decide)))⟩)
 by_cases c1 : s5.code = 0
 case' pos =>
  have hb : inB (A6 C s5) [bs [42], bs [47], bs [37]] = false := by
   cases h : inB (A6 C s5) [bs [42], bs [47], bs [37]] with
   | false => rfl
   | true => exact absurd ⟨c1, h⟩ c0
  rw [hb] at CI
  simp +contextual -dsimp only [↓SD, SU, simprocAttr, rdB, Ab, Aa, c1, EVB, Ax, Ae, Ah, hU5, hv5]
  refine Ao [2100, 2101] (CI) (by first | (simp +contextual -dsimp only [↓SD, SU, simprocAttr, rdB]; done) | (simp +contextual -dsimp only [↓SD, SU, simprocAttr, rdB, Af]; done) | (simp +contextual -dsimp only [↓SD, SU, simprocAttr, rdB, hv5, c1, Af]; done)) ?_
  rintro r hp' ⟨rfl, rfl⟩ H31 hH31
  obtain ⟨⟨a31, b31, o31, u31'⟩, k31⟩ := AX hH31
  have u31 : Unf H31 := u31' (by repeat (first | exact hU5 | exact Ae | refine AR ?_))
  have t31_T5 := k31 T5 hD5.far (by repeat (first | exact hD5.2.1 | refine Ag ?_ hD5.far (by decide)))
  simp +contextual -dsimp only [↓SD, SU, simprocAttr, rdB, Ab, Aa, EVB, Ax, Ae, Ah, a31, b31, o31, u31, hv5, c1]
  refine Ai.post (rdB C s5 ++ (T5)) ?_
  simp +contextual -dsimp only [↓SD, SU, simprocAttr, rdB, Ab, Aa, EVB, Ax, Ae, Ah, a31, b31, o31, u31, hv5, c1, AO]
  refine ⟨?_, ?_⟩
  ·exact (by repeat (first | exact t31_T5 | refine Ag ?_ hD5.far (by decide)))
  exact ⟨s5, T5, w5, by first | rfl | simp only [rdB, c1, List.cons_append, List.nil_append], hs5, hi5, hc5, hX5, hD5.dis, N5, hK5, hN5.dn⟩
 case' neg =>
  simp +contextual -dsimp only [↓SD, SU, simprocAttr, rdB, Ab, Aa, c1, EVB, Ax, Ae, Ah, hU5, hv5]
  refine Ai.post (rdB C s5 ++ (T5)) ?_
  simp +contextual -dsimp only [↓SD, SU, simprocAttr, rdB, Ab, Aa, EVB, Ax, Ae, Ah, hU5, hv5, AO]
  refine ⟨?_, ?_⟩
  ·exact (by repeat (first | exact hD5.2.1 | refine Ag ?_ hD5.far (by decide)))
  exact ⟨s5, T5, w5, rfl, hs5, hi5, hc5, hX5, hD5.dis, N5, hK5, hN5.dn⟩
set_option maxHeartbeats 4000000 in
theorem Sz (C : RC) (b : Nat) (IH : ∀ s1 d nm, Bm C s1 → b < s1.i → 0 ≤ d ∧ d ≤ 200 → ExC C 81 [.int .i64 d] s1 nm) (s : RS) (hs : Bm C s) (hbi : b ≤ s.i) (d : Int) (hd : 0 ≤ d ∧ d ≤ 100) (nm : Nat) : ExC C 190 [.int .i64 d, .int .i64 1] s nm := by
 have hsm := hs.small
 have hz : (bs []).size ≤ C.m := Nat.zero_le _
 unfold ExC
 refine D4.H rfl ?_
 simp +contextual -dsimp only [↓SD, SU, simprocAttr, rdB, Ab, Aa, D4]
 intro v6 v8
 refine Ao [2100, 2101] (LH C b IH s hs hbi d hd (sub nm 0)) (by first | (simp +contextual -dsimp only [↓SD, SU, simprocAttr, rdB]; done) | (simp +contextual -dsimp only [↓SD, SU, simprocAttr, rdB, Af]; done) | (simp +contextual -dsimp only [↓SD, SU, simprocAttr, rdB, Af]; done)) ?_
 rintro X1 hp' ⟨s1, T1, w1, rfl, hs1, hi1, hc1, hX1, hD1, N1, hK1, hN1⟩ H1 hH1
 have hv1 := hX1.ev
 have hsm1 := hs1.small
 obtain ⟨⟨a1, b1, o1, u1'⟩, t1, k1⟩ := Bp hH1 hD1
 have u1 : Unf H1 := u1' (by repeat (first | exact Ae | exact Ae | refine AR ?_))
 simp +contextual -dsimp only [↓SD, SU, simprocAttr, rdB, Ab, Aa, EVB, Ax, Ae, Ah, a1, b1, o1, u1, hv1]
 refine AB (X := LpS) (fun q => ⟨[(0, .ptr 2100 C.v 0 0), (1, .int .i64 d), (2, .int .i64 1), (6, .ptr 6 v6 0 0), (7, .sl [.str (bs [43]), .str (bs [45]), .str (bs [94])]), (8, .ptr 8 v8 0 0)], (8, ⟨v8, false, 54, 7, [q.X]⟩) :: (6, ⟨v6, false, 54, 7, [.agg [.int .i64 0, .int .i64 0, .int .i64 0, .str (bs []), .Au, .Au, .Au]]⟩) :: (rdB C q.s ++ q.T)⟩) (fun q => Bm C q.s ∧ s.i ≤ q.s.i ∧ (q.s.code = 0 → s.code = 0 ∧ s.i < q.s.i ∧ q.w + 3 * s.i + 1 ≤ 3 * q.s.i) ∧ EA C.m q.T q.w q.X ∧ Lm nm q.n q.T ∧ KD q.X q.N ∧ DNR nm q.n q.N) (fun q => 2 * (C.L.length - q.s.i) + (if q.s.code = 0 then 1 else 0)) ⟨s1, X1, T1, 1, w1, false, N1⟩ ⟨hs1, hi1, hc1, hX1, Bi hD1, hK1, B7 hN1⟩ (by simp +contextual -dsimp only [↓SD, SU, simprocAttr]) (by simp +contextual -dsimp only [↓SD, SU, simprocAttr, rdB, AO, EVB, Ax, Ae, Ah, a1, b1, o1, hv1]; (repeat (first | exact t1 | refine Ag ?_ hD1.far (by decide)))) ?_
 clear hv1
 rintro ⟨s5, X5, T5, n5, w5, bare, N5⟩ ⟨hs5, hi5, hc5, hX5, hD5, hK5, hN5⟩
 dsimp only at hs5 hi5 hc5 hX5 hD5 hK5 hN5 ⊢
 have hv5 := hX5.ev
 have hsm5 := hs5.small
 have hU5 := hD5.2.2
 have CI := It C s5 hs5 [bs [43], bs [45], bs [94]] (by decide)
 by_cases c0 : s5.code = 0 ∧ inB (A6 C s5) [bs [43], bs [45], bs [94]] = true
 ·
  obtain ⟨c0, hb⟩ := c0
  obtain ⟨k1, _⟩ := Zy hs5 (by decide) hb
  obtain ⟨q1, q2, q3⟩ := hc5 c0
  rw [hb] at CI
  simp +contextual -dsimp only [↓SD, SU, simprocAttr, rdB, Ab, Aa, EVB, Ax, Ae, Ah, hU5, hv5, c0]
  refine Ao [2100, 2101] (CI) (by first | (simp +contextual -dsimp only [↓SD, SU, simprocAttr, rdB]; done) | (simp +contextual -dsimp only [↓SD, SU, simprocAttr, rdB, Af]; done) | (simp +contextual -dsimp only [↓SD, SU, simprocAttr, rdB, hv5, c0, Af]; done)) ?_
  rintro r hp' ⟨rfl, rfl⟩ H6 hH6
  obtain ⟨⟨a6, b6, o6, u6'⟩, k6⟩ := AX hH6
  have u6 : Unf H6 := u6' (by repeat (first | exact hU5 | exact Ae | refine AR ?_))
  have t6_T5 := k6 T5 hD5.far (by repeat (first | exact hD5.2.1 | refine Ag ?_ hD5.far (by decide)))
  simp +contextual -dsimp only [↓SD, SU, simprocAttr, rdB, Ab, Aa, EVB, Ax, Ae, Ah, a6, b6, o6, u6, hv5, c0]
  refine Ao [2100, 2101] (Be C s5 hs5) (by first | (simp +contextual -dsimp only [↓SD, SU, simprocAttr, rdB]; done) | (simp +contextual -dsimp only [↓SD, SU, simprocAttr, rdB, Af]; done) | (simp +contextual -dsimp only [↓SD, SU, simprocAttr, rdB, a6, b6, o6, hv5, c0, Af]; done)) ?_
  rintro r hp' ⟨rfl, rfl⟩ H7 hH7
  obtain ⟨⟨a7, b7, o7, u7'⟩, k7⟩ := AX hH7
  have u7 : Unf H7 := u7' (by repeat (first | exact u6 | exact Ae | refine AR ?_))
  have t7_T5 := k7 T5 hD5.far (by repeat (first | exact t6_T5 | refine Ag ?_ hD5.far (by decide)))
  obtain ⟨htw, _⟩ := Cw hs5
  have hus := htw.2.2.1
  generalize A6 C s5 = u at *
  have hs6 := Bx hs5 k1
  have e : (s5.i : Int) + 1 = ((s5.i + 1 : Nat) : Int) := by omega
  simp +contextual -dsimp only [↓SD, SU, simprocAttr, rdB, Ab, Aa, EVB, Ax, Ae, Ah, o6, a7, b7, o7, u7, hv5, c0, AY]
  intro v9
  simp +contextual -dsimp only [↓SD, SU, simprocAttr, rdB, Ab, Aa, EVB, Ax, Ae, Ah, o6, a7, b7, o7, u7, hv5, c0, e]
  refine ⟨by omega, ?_⟩
  intro v10
  refine Ao [2100, 2101] (LH C b IH { s5 with i := s5.i + 1 } hs6 (by dsimp only; omega) d hd (sub nm n5)) (by first | (simp +contextual -dsimp only [↓SD, SU, simprocAttr, rdB]; done) | (simp +contextual -dsimp only [↓SD, SU, simprocAttr, rdB, Af]; done) | (simp +contextual -dsimp only [↓SD, SU, simprocAttr, rdB, o6, a7, b7, o7, hv5, c0, e, Af]; done)) ?_
  rintro X8 hp' ⟨s8, T8, w8, rfl, hs8, hi8, hc8, hX8, hD8, N8, hK8, hN8⟩ H8 hH8
  dsimp only at hi8 hc8
  have hv8 := hX8.ev
  have hsm8 := hs8.small
  obtain ⟨⟨a8, b8, o8, u8'⟩, t8, k8⟩ := Bp hH8 hD8
  have u8 : Unf H8 := u8' (by repeat (first | exact u7 | exact Ae | refine AR ?_))
  have t8_T5 := k8 T5 hD5.far (E3 hD5 hD8 (Nat.le_refl _)) (by repeat (first | exact t7_T5 | refine Ag ?_ hD5.far (by decide)))
  simp +contextual -dsimp only [↓SD, SU, simprocAttr, rdB, Ab, Aa, EVB, Ax, Ae, Ah, o6, o7, a8, b8, o8, u8, hv5, hv8]
  obtain ⟨cb1, cb2⟩ := comb hD5 hD8 (Nat.le_refl _)
  refine Ad [] (Bl (10) (u.pos) (u.s) (.sl [X5, X8]) (.sl _)) (by simp +contextual -dsimp only [↓SD, SU, simprocAttr]) ?_
  rintro r hp' ⟨rfl, rfl⟩
  simp +contextual -dsimp only [↓SD, SU, simprocAttr, rdB, Ab, Aa, EVB, Ax, Ae, Ah, o6, o7, a8, b8, o8, u8, hv5, hv8]
  exact Ai.le ⟨⟨s8, .agg [.int .i64 10, .int .i64 u.pos, .int .i64 0, .str u.s, .Au, .Au, .sl [X5, X8]], T8 ++ T5, n5 + 1, w5 + w8 + 1, false, N5 ++ N8⟩, ⟨⟨hs8, by dsimp only; omega, fun h => by have g := hc8 h; exact ⟨q1, by dsimp only; omega, by dsimp only; omega⟩, ea2 10 _ 0 _ hus (hX5.mono cb2) (hX8.mono cb1), Ca hD5 hD8 (Nat.le_refl _), kd2 hK5 hK8, CV hN5 hN8 (Nat.le_refl _)⟩, by
   dsimp only
   rw [if_pos c0]
   by_cases h : s8.code = 0
   ·have g := hc8 h; rw [if_pos h]; omega
   ·rw [if_neg h]; omega⟩, rfl⟩ (by simp +contextual -dsimp only [↓SD, SU, simprocAttr]) (by simp +contextual -dsimp only [↓SD, SU, simprocAttr, rdB, AO, EVB, Ax, Ae, Ah, o6, o7, a8, b8, o8, hv5, hv8]; exact ⟨(by repeat (first | exact t8 | refine Ag ?_ hD8.far (by decide))), (by repeat (first | exact t8_T5 | refine Ag ?_ hD5.far (by decide)))⟩)
 by_cases c1 : s5.code = 0
 case' pos =>
  have hb : inB (A6 C s5) [bs [43], bs [45], bs [94]] = false := by
   cases h : inB (A6 C s5) [bs [43], bs [45], bs [94]] with
   | false => rfl
   | true => exact absurd ⟨c1, h⟩ c0
  rw [hb] at CI
  simp +contextual -dsimp only [↓SD, SU, simprocAttr, rdB, Ab, Aa, c1, EVB, Ax, Ae, Ah, hU5, hv5]
  refine Ao [2100, 2101] (CI) (by first | (simp +contextual -dsimp only [↓SD, SU, simprocAttr, rdB]; done) | (simp +contextual -dsimp only [↓SD, SU, simprocAttr, rdB, Af]; done) | (simp +contextual -dsimp only [↓SD, SU, simprocAttr, rdB, hv5, c1, Af]; done)) ?_
  rintro r hp' ⟨rfl, rfl⟩ H31 hH31
  obtain ⟨⟨a31, b31, o31, u31'⟩, k31⟩ := AX hH31
  have u31 : Unf H31 := u31' (by repeat (first | exact hU5 | exact Ae | refine AR ?_))
  have t31_T5 := k31 T5 hD5.far (by repeat (first | exact hD5.2.1 | refine Ag ?_ hD5.far (by decide)))
  simp +contextual -dsimp only [↓SD, SU, simprocAttr, rdB, Ab, Aa, EVB, Ax, Ae, Ah, a31, b31, o31, u31, hv5, c1]
  refine Ai.post (rdB C s5 ++ (T5)) ?_
  simp +contextual -dsimp only [↓SD, SU, simprocAttr, rdB, Ab, Aa, EVB, Ax, Ae, Ah, a31, b31, o31, u31, hv5, c1, AO]
  refine ⟨?_, ?_⟩
  ·exact (by repeat (first | exact t31_T5 | refine Ag ?_ hD5.far (by decide)))
  exact ⟨s5, T5, w5, by first | rfl | simp only [rdB, c1, List.cons_append, List.nil_append], hs5, hi5, hc5, hX5, hD5.dis, N5, hK5, hN5.dn⟩
 case' neg =>
  simp +contextual -dsimp only [↓SD, SU, simprocAttr, rdB, Ab, Aa, c1, EVB, Ax, Ae, Ah, hU5, hv5]
  refine Ai.post (rdB C s5 ++ (T5)) ?_
  simp +contextual -dsimp only [↓SD, SU, simprocAttr, rdB, Ab, Aa, EVB, Ax, Ae, Ah, hU5, hv5, AO]
  refine ⟨?_, ?_⟩
  ·exact (by repeat (first | exact hD5.2.1 | refine Ag ?_ hD5.far (by decide)))
  exact ⟨s5, T5, w5, rfl, hs5, hi5, hc5, hX5, hD5.dis, N5, hK5, hN5.dn⟩
set_option maxHeartbeats 4000000 in
theorem SC (C : RC) (b : Nat) (IH : ∀ s1 d nm, Bm C s1 → b < s1.i → 0 ≤ d ∧ d ≤ 200 → ExC C 81 [.int .i64 d] s1 nm) : ∀ (n : Nat) (s : RS), Bm C s → b ≤ s.i → C.L.length - s.i = n → ∀ (d : Int), 0 ≤ d ∧ d ≤ 100 → ∀ nm : Nat, ExC C 178 [.int .i64 d] s nm := by
 intro n
 induction n using Nat.strongRecOn with
 | ind n ihn =>
 intro s hs hbi hn d hd nm
 have hsm := hs.small
 have hz : (bs []).size ≤ C.m := Nat.zero_le _
 unfold ExC
 refine HJ.H rfl ?_
 simp +contextual -dsimp only [↓SD, SU, simprocAttr, rdB, Ab, Aa, HJ]
 intro v4
 refine Ao [2100, 2101] (Sz C b IH s hs hbi d hd (sub nm 0)) (by first | (simp +contextual -dsimp only [↓SD, SU, simprocAttr, rdB]; done) | (simp +contextual -dsimp only [↓SD, SU, simprocAttr, rdB, Af]; done) | (simp +contextual -dsimp only [↓SD, SU, simprocAttr, rdB, Af]; done)) ?_
 rintro X1 hp' ⟨s1, T1, w1, rfl, hs1, hi1, hc1, hX1, hD1, N1, hK1, hN1⟩ H1 hH1
 have hv1 := hX1.ev
 have hsm1 := hs1.small
 obtain ⟨⟨a1, b1, o1, u1'⟩, t1, k1⟩ := Bp hH1 hD1
 have u1 : Unf H1 := u1' (by repeat (first | exact Ae | exact Ae | refine AR ?_))
 simp +contextual -dsimp only [↓SD, SU, simprocAttr, rdB, Ab, Aa, EVB, Ax, Ae, Ah, a1, b1, o1, u1, hv1]
 intro v5
 have CJ := BP C s1 hs1 (bs [58, 58])
 by_cases hcm : BF (A6 C s1) = bs [58, 58]
 ·
  obtain ⟨j1, j2⟩ := Bz hs1 (by decide) hcm
  have e2 : (s1.i : Int) + 1 = ((s1.i + 1 : Nat) : Int) := by omega
  have hs3 := Bx hs1 j1
  rw [decide_eq_true hcm] at CJ
  refine Ao [2100, 2101] (CJ) (by first | (simp +contextual -dsimp only [↓SD, SU, simprocAttr, rdB]; done) | (simp +contextual -dsimp only [↓SD, SU, simprocAttr, rdB, Af]; done) | (simp +contextual -dsimp only [↓SD, SU, simprocAttr, rdB, a1, b1, o1, hv1, Af]; done)) ?_
  rintro r hp' ⟨rfl, rfl⟩ H2 hH2
  obtain ⟨⟨a2, b2, o2, u2'⟩, k2⟩ := AX hH2
  have u2 : Unf H2 := u2' (by repeat (first | exact u1 | exact Ae | refine AR ?_))
  have t2_T1 := k2 T1 hD1.far (by repeat (first | exact t1 | refine Ag ?_ hD1.far (by decide)))
  simp +contextual -dsimp only [↓SD, SU, simprocAttr, rdB, Ab, Aa, EVB, Ax, Ae, Ah, o1, a2, b2, o2, u2, hv1]
  refine Ao [2100, 2101] (Be C s1 hs1) (by first | (simp +contextual -dsimp only [↓SD, SU, simprocAttr, rdB]; done) | (simp +contextual -dsimp only [↓SD, SU, simprocAttr, rdB, Af]; done) | (simp +contextual -dsimp only [↓SD, SU, simprocAttr, rdB, o1, a2, b2, o2, hv1, Af]; done)) ?_
  rintro r hp' ⟨rfl, rfl⟩ H3 hH3
  obtain ⟨⟨a3, b3, o3, u3'⟩, k3⟩ := AX hH3
  have u3 : Unf H3 := u3' (by repeat (first | exact u2 | exact Ae | refine AR ?_))
  have t3_T1 := k3 T1 hD1.far (by repeat (first | exact t2_T1 | refine Ag ?_ hD1.far (by decide)))
  generalize A6 C s1 = u at *
  simp +contextual -dsimp only [↓SD, SU, simprocAttr, rdB, Ab, Aa, EVB, Ax, Ae, Ah, o1, o2, a3, b3, o3, u3, hv1, AY, e2]
  refine ⟨by omega, ?_⟩
  refine Ao [2100, 2101] (ihn (C.L.length - (s1.i + 1)) (by omega) { s1 with i := s1.i + 1 } hs3 (by dsimp only; omega) rfl d hd (sub nm 1)) (by first | (simp +contextual -dsimp only [↓SD, SU, simprocAttr, rdB]; done) | (simp +contextual -dsimp only [↓SD, SU, simprocAttr, rdB, Af]; done) | (simp +contextual -dsimp only [↓SD, SU, simprocAttr, rdB, o1, o2, a3, b3, o3, hv1, e2, Af]; done)) ?_
  rintro X4 hp' ⟨s4, T4, w4, rfl, hs4, hi4, hc4, hX4, hD4, N4, hK4, hN4⟩ H4 hH4
  dsimp only at hi4 hc4
  have hv4 := hX4.ev
  have hsm4 := hs4.small
  obtain ⟨⟨a4, b4, o4, u4'⟩, t4, k4⟩ := Bp hH4 hD4
  have u4 : Unf H4 := u4' (by repeat (first | exact u3 | exact Ae | refine AR ?_))
  have t4_T1 := k4 T1 hD1.far (BG hD4 hD1 (by decide)) (by repeat (first | exact t3_T1 | refine Ag ?_ hD1.far (by decide)))
  simp +contextual -dsimp only [↓SD, SU, simprocAttr, rdB, Ab, Aa, EVB, Ax, Ae, Ah, o1, o2, o3, a4, b4, o4, u4, hv1, hv4]
  intro v7
  refine Ad [] (Bl (11) (u.pos) (bs []) (.sl [X1, X4]) (.sl _)) (by simp +contextual -dsimp only [↓SD, SU, simprocAttr]) ?_
  rintro r hp' ⟨rfl, rfl⟩
  simp +contextual -dsimp only [↓SD, SU, simprocAttr, rdB, Ab, Aa, EVB, Ax, Ae, Ah, o1, o2, o3, a4, b4, o4, u4, hv1, hv4]
  refine Ad [] (Bl (4) (u.pos) (bs [58, 58]) (.sl [.agg [.int .i64 11, .int .i64 u.pos, .int .i64 0, .str (bs []), .Au, .Au, .sl [X1, X4]]]) (.sl _)) (by simp +contextual -dsimp only [↓SD, SU, simprocAttr]) ?_
  rintro r hp' ⟨rfl, rfl⟩
  simp +contextual -dsimp only [↓SD, SU, simprocAttr, rdB, Ab, Aa, EVB, Ax, Ae, Ah, o1, o2, o3, a4, b4, o4, u4, hv1, hv4]
  obtain ⟨cb4a, cb4b⟩ := comb (Bi hD1) hD4 (Nat.le_refl _)
  refine Ai.post (rdB C s4 ++ (T4 ++ T1)) ?_
  simp +contextual -dsimp only [↓SD, SU, simprocAttr, rdB, Ab, Aa, EVB, Ax, Ae, Ah, o1, o2, o3, a4, b4, o4, u4, hv1, hv4, AO]
  refine ⟨⟨?_, ?_⟩, ?_⟩
  ·exact (by repeat (first | exact t4 | refine Ag ?_ hD4.far (by decide)))
  ·exact (by repeat (first | exact t4_T1 | refine Ag ?_ hD1.far (by decide)))
  exact ⟨s4, T4 ++ T1, w1 + w4 + 1 + 1, rfl, hs4, by omega, fun h => by
    have g0 := hc4 h
    have g1 := hc1 g0.1
    exact ⟨g1.1, by omega, by omega⟩, ea1 4 _ 0 _ (by rw [show (bs [58, 58]).size = 2 from rfl]; exact hs.1.2.2.2.2.1) (ea2 11 _ 0 _ hz (hX1.mono cb4b) (hX4.mono cb4a)), Ca (Bi hD1) hD4 (Nat.le_refl _)|>.dis, _, (kd1 (kd2 hK1 hK4)), (by have hn := (CV (B7 hN1) hN4 (Nat.le_refl _)); simpa only [List.append_assoc, List.nil_append, List.append_nil] using hn.dn)⟩
 rw [decide_eq_false hcm] at CJ
 refine Ao [2100, 2101] (CJ) (by first | (simp +contextual -dsimp only [↓SD, SU, simprocAttr, rdB]; done) | (simp +contextual -dsimp only [↓SD, SU, simprocAttr, rdB, Af]; done) | (simp +contextual -dsimp only [↓SD, SU, simprocAttr, rdB, a1, b1, o1, hv1, Af]; done)) ?_
 rintro r hp' ⟨rfl, rfl⟩ H21 hH21
 obtain ⟨⟨a21, b21, o21, u21'⟩, k21⟩ := AX hH21
 have u21 : Unf H21 := u21' (by repeat (first | exact u1 | exact Ae | refine AR ?_))
 have t21_T1 := k21 T1 hD1.far (by repeat (first | exact t1 | refine Ag ?_ hD1.far (by decide)))
 simp +contextual -dsimp only [↓SD, SU, simprocAttr, rdB, Ab, Aa, EVB, Ax, Ae, Ah, o1, a21, b21, o21, u21, hv1]
 refine Ai.post (rdB C s1 ++ (T1)) ?_
 simp +contextual -dsimp only [↓SD, SU, simprocAttr, rdB, Ab, Aa, EVB, Ax, Ae, Ah, o1, a21, b21, o21, u21, hv1, AO]
 refine ⟨?_, ?_⟩
 ·exact (by repeat (first | exact t21_T1 | refine Ag ?_ hD1.far (by decide)))
 exact ⟨s1, T1, w1, rfl, hs1, hi1, hc1, hX1, Eb hD1, N1, hK1, ZO hN1⟩
theorem MX (C : RC) (b : Nat) (IH : ∀ s1 d nm, Bm C s1 → b < s1.i → 0 ≤ d ∧ d ≤ 200 → ExC C 81 [.int .i64 d] s1 nm) (s : RS) (hs : Bm C s) (hbi : b ≤ s.i) (d : Int) (hd : 0 ≤ d ∧ d ≤ 100) (nm : Nat) : ExC C 178 [.int .i64 d] s nm := SC C b IH _ s hs hbi rfl d hd nm
set_option maxHeartbeats 4000000 in
theorem UX (C : RC) (b : Nat) (IH : ∀ s1 d nm, Bm C s1 → b < s1.i → 0 ≤ d ∧ d ≤ 200 → ExC C 81 [.int .i64 d] s1 nm) : ∀ (n : Nat) (s : RS), Bm C s → b ≤ s.i → C.L.length - s.i = n → ∀ (d : Int), 0 ≤ d ∧ d ≤ 100 → ∀ nm : Nat, ExC C 146 [.int .i64 d] s nm := by
 intro n
 induction n using Nat.strongRecOn with
 | ind n ihn =>
 intro s hs hbi hn d hd nm
 have hsm := hs.small
 have hz : (bs []).size ≤ C.m := Nat.zero_le _
 unfold ExC
 refine Iz.H rfl ?_
 simp +contextual -dsimp only [↓SD, SU, simprocAttr, rdB, Ab, Aa, Iz]
 intro v4
 refine Ao [2100, 2101] (MX C b IH s hs hbi d hd (sub nm 0)) (by first | (simp +contextual -dsimp only [↓SD, SU, simprocAttr, rdB]; done) | (simp +contextual -dsimp only [↓SD, SU, simprocAttr, rdB, Af]; done) | (simp +contextual -dsimp only [↓SD, SU, simprocAttr, rdB, Af]; done)) ?_
 rintro X1 hp' ⟨s1, T1, w1, rfl, hs1, hi1, hc1, hX1, hD1, N1, hK1, hN1⟩ H1 hH1
 have hv1 := hX1.ev
 have hsm1 := hs1.small
 obtain ⟨⟨a1, b1, o1, u1'⟩, t1, k1⟩ := Bp hH1 hD1
 have u1 : Unf H1 := u1' (by repeat (first | exact Ae | exact Ae | refine AR ?_))
 simp +contextual -dsimp only [↓SD, SU, simprocAttr, rdB, Ab, Aa, EVB, Ax, Ae, Ah, a1, b1, o1, u1, hv1]
 intro v5
 have CJ := It C s1 hs1 [bs [61], bs [60, 62], bs [60], bs [60, 61]] (by decide)
 cases hcm : inB (A6 C s1) [bs [61], bs [60, 62], bs [60], bs [60, 61]] with
 | true =>
  obtain ⟨j1, j2⟩ := Zy hs1 (by decide) hcm
  have e2 : (s1.i : Int) + 1 = ((s1.i + 1 : Nat) : Int) := by omega
  have hs3 := Bx hs1 j1
  rw [hcm] at CJ
  refine Ao [2100, 2101] (CJ) (by first | (simp +contextual -dsimp only [↓SD, SU, simprocAttr, rdB]; done) | (simp +contextual -dsimp only [↓SD, SU, simprocAttr, rdB, Af]; done) | (simp +contextual -dsimp only [↓SD, SU, simprocAttr, rdB, a1, b1, o1, hv1, Af]; done)) ?_
  rintro r hp' ⟨rfl, rfl⟩ H2 hH2
  obtain ⟨⟨a2, b2, o2, u2'⟩, k2⟩ := AX hH2
  have u2 : Unf H2 := u2' (by repeat (first | exact u1 | exact Ae | refine AR ?_))
  have t2_T1 := k2 T1 hD1.far (by repeat (first | exact t1 | refine Ag ?_ hD1.far (by decide)))
  simp +contextual -dsimp only [↓SD, SU, simprocAttr, rdB, Ab, Aa, EVB, Ax, Ae, Ah, o1, a2, b2, o2, u2, hv1]
  refine Ao [2100, 2101] (Be C s1 hs1) (by first | (simp +contextual -dsimp only [↓SD, SU, simprocAttr, rdB]; done) | (simp +contextual -dsimp only [↓SD, SU, simprocAttr, rdB, Af]; done) | (simp +contextual -dsimp only [↓SD, SU, simprocAttr, rdB, o1, a2, b2, o2, hv1, Af]; done)) ?_
  rintro r hp' ⟨rfl, rfl⟩ H3 hH3
  obtain ⟨⟨a3, b3, o3, u3'⟩, k3⟩ := AX hH3
  have u3 : Unf H3 := u3' (by repeat (first | exact u2 | exact Ae | refine AR ?_))
  have t3_T1 := k3 T1 hD1.far (by repeat (first | exact t2_T1 | refine Ag ?_ hD1.far (by decide)))
  obtain ⟨htw, _⟩ := Cw hs1
  have hus := htw.2.2.1
  generalize A6 C s1 = u at *
  simp +contextual -dsimp only [↓SD, SU, simprocAttr, rdB, Ab, Aa, EVB, Ax, Ae, Ah, o1, o2, a3, b3, o3, u3, hv1, AY, e2]
  intro v6
  refine ⟨by omega, ?_⟩
  refine Ao [2100, 2101] (MX C b IH { s1 with i := s1.i + 1 } hs3 (by dsimp only; omega) d hd (sub nm 1)) (by first | (simp +contextual -dsimp only [↓SD, SU, simprocAttr, rdB]; done) | (simp +contextual -dsimp only [↓SD, SU, simprocAttr, rdB, Af]; done) | (simp +contextual -dsimp only [↓SD, SU, simprocAttr, rdB, o1, o2, a3, b3, o3, hv1, e2, Af]; done)) ?_
  rintro X4 hp' ⟨s4, T4, w4, rfl, hs4, hi4, hc4, hX4, hD4, N4, hK4, hN4⟩ H4 hH4
  dsimp only at hi4 hc4
  have hv4 := hX4.ev
  have hsm4 := hs4.small
  obtain ⟨⟨a4, b4, o4, u4'⟩, t4, k4⟩ := Bp hH4 hD4
  have u4 : Unf H4 := u4' (by repeat (first | exact u3 | exact Ae | refine AR ?_))
  have t4_T1 := k4 T1 hD1.far (BG hD4 hD1 (by decide)) (by repeat (first | exact t3_T1 | refine Ag ?_ hD1.far (by decide)))
  simp +contextual -dsimp only [↓SD, SU, simprocAttr, rdB, Ab, Aa, EVB, Ax, Ae, Ah, o1, o2, o3, a4, b4, o4, u4, hv1, hv4]
  intro v7
  refine Ad [] (Bl (10) (u.pos) (u.s) (.sl [X1, X4]) (.sl _)) (by simp +contextual -dsimp only [↓SD, SU, simprocAttr]) ?_
  rintro r hp' ⟨rfl, rfl⟩
  simp +contextual -dsimp only [↓SD, SU, simprocAttr, rdB, Ab, Aa, EVB, Ax, Ae, Ah, o1, o2, o3, a4, b4, o4, u4, hv1, hv4]
  have CK := BP C s4 hs4 (bs [58, 61])
  by_cases hca : BF (A6 C s4) = bs [58, 61]
  ·
   obtain ⟨j3, j4⟩ := Bz hs4 (by decide) hca
   have e4 : (s4.i : Int) + 1 = ((s4.i + 1 : Nat) : Int) := by omega
   have hs8 := Bx hs4 j3
   rw [decide_eq_true hca] at CK
   refine Ao [2100, 2101] (CK) (by first | (simp +contextual -dsimp only [↓SD, SU, simprocAttr, rdB]; done) | (simp +contextual -dsimp only [↓SD, SU, simprocAttr, rdB, Af]; done) | (simp +contextual -dsimp only [↓SD, SU, simprocAttr, rdB, o1, o2, o3, a4, b4, o4, hv1, hv4, Af]; done)) ?_
   rintro r hp' ⟨rfl, rfl⟩ H41 hH41
   obtain ⟨⟨a41, b41, o41, u41'⟩, k41⟩ := AX hH41
   have u41 : Unf H41 := u41' (by repeat (first | exact u4 | exact Ae | refine AR ?_))
   have t41_T1 := k41 T1 hD1.far (by repeat (first | exact t4_T1 | refine Ag ?_ hD1.far (by decide)))
   have t41_T4 := k41 T4 hD4.far (by repeat (first | exact t4 | refine Ag ?_ hD4.far (by decide)))
   simp +contextual -dsimp only [↓SD, SU, simprocAttr, rdB, Ab, Aa, EVB, Ax, Ae, Ah, o1, o2, o3, o4, a41, b41, o41, u41, hv1, hv4]
   refine Ao [2100, 2101] (Be C s4 hs4) (by first | (simp +contextual -dsimp only [↓SD, SU, simprocAttr, rdB]; done) | (simp +contextual -dsimp only [↓SD, SU, simprocAttr, rdB, Af]; done) | (simp +contextual -dsimp only [↓SD, SU, simprocAttr, rdB, o1, o2, o3, o4, a41, b41, o41, hv1, hv4, Af]; done)) ?_
   rintro r hp' ⟨rfl, rfl⟩ H42 hH42
   obtain ⟨⟨a42, b42, o42, u42'⟩, k42⟩ := AX hH42
   have u42 : Unf H42 := u42' (by repeat (first | exact u41 | exact Ae | refine AR ?_))
   have t42_T1 := k42 T1 hD1.far (by repeat (first | exact t41_T1 | refine Ag ?_ hD1.far (by decide)))
   have t42_T4 := k42 T4 hD4.far (by repeat (first | exact t41_T4 | refine Ag ?_ hD4.far (by decide)))
   generalize A6 C s4 = v at *
   simp +contextual -dsimp only [↓SD, SU, simprocAttr, rdB, Ab, Aa, EVB, Ax, Ae, Ah, o1, o2, o3, o4, o41, a42, b42, o42, u42, hv1, hv4, AY, e4]
   refine ⟨by omega, ?_⟩
   refine Ao [2100, 2101] (ihn (C.L.length - (s4.i + 1)) (by omega) { s4 with i := s4.i + 1 } hs8 (by dsimp only; omega) rfl d hd (sub nm 2)) (by first | (simp +contextual -dsimp only [↓SD, SU, simprocAttr, rdB]; done) | (simp +contextual -dsimp only [↓SD, SU, simprocAttr, rdB, Af]; done) | (simp +contextual -dsimp only [↓SD, SU, simprocAttr, rdB, o1, o2, o3, o4, o41, a42, b42, o42, hv1, hv4, e4, Af]; done)) ?_
   rintro X43 hp' ⟨s43, T43, w43, rfl, hs43, hi43, hc43, hX43, hD43, N43, hK43, hN43⟩ H43 hH43
   dsimp only at hi43 hc43
   have hv43 := hX43.ev
   have hsm43 := hs43.small
   obtain ⟨⟨a43, b43, o43, u43'⟩, t43, k43⟩ := Bp hH43 hD43
   have u43 : Unf H43 := u43' (by repeat (first | exact u42 | exact Ae | refine AR ?_))
   have t43_T1 := k43 T1 hD1.far (BG hD43 hD1 (by decide)) (by repeat (first | exact t42_T1 | refine Ag ?_ hD1.far (by decide)))
   have t43_T4 := k43 T4 hD4.far (BG hD43 hD4 (by decide)) (by repeat (first | exact t42_T4 | refine Ag ?_ hD4.far (by decide)))
   simp +contextual -dsimp only [↓SD, SU, simprocAttr, rdB, Ab, Aa, EVB, Ax, Ae, Ah, o1, o2, o3, o4, o41, o42, a43, b43, o43, u43, hv1, hv4, hv43]
   intro v9
   refine Ad [] (Bl (18) (v.pos) (bs []) (.sl [.agg [.int .i64 10, .int .i64 u.pos, .int .i64 0, .str u.s, .Au, .Au, .sl [X1, X4]], X43]) (.sl _)) (by simp +contextual -dsimp only [↓SD, SU, simprocAttr]) ?_
   rintro r hp' ⟨rfl, rfl⟩
   simp +contextual -dsimp only [↓SD, SU, simprocAttr, rdB, Ab, Aa, EVB, Ax, Ae, Ah, o1, o2, o3, o4, o41, o42, a43, b43, o43, u43, hv1, hv4, hv43]
   obtain ⟨cb4a, cb4b⟩ := comb (Bi hD1) hD4 (Nat.le_refl _)
   obtain ⟨cb43a, cb43b⟩ := comb (Ca (Bi hD1) hD4 (Nat.le_refl _)) hD43 (Nat.le_refl _)
   refine Ai.post (rdB C s43 ++ (T43 ++ (T4 ++ T1))) ?_
   simp +contextual -dsimp only [↓SD, SU, simprocAttr, rdB, Ab, Aa, EVB, Ax, Ae, Ah, o1, o2, o3, o4, o41, o42, a43, b43, o43, u43, hv1, hv4, hv43, AO]
   refine ⟨⟨?_, ?_, ?_⟩, ?_⟩
   ·exact (by repeat (first | exact t43 | refine Ag ?_ hD43.far (by decide)))
   ·exact (by repeat (first | exact t43_T4 | refine Ag ?_ hD4.far (by decide)))
   ·exact (by repeat (first | exact t43_T1 | refine Ag ?_ hD1.far (by decide)))
   exact ⟨s43, T43 ++ (T4 ++ T1), (w1 + w4 + 1) + w43 + 1, rfl, hs43, by omega, fun h => by
     have g0 := hc43 h
     have g1 := hc4 g0.1
     have g2 := hc1 g1.1
     exact ⟨g2.1, by omega, by omega⟩, ea2 18 _ 0 _ hz (ea2 10 _ 0 _ hus ((hX1.mono cb4b).mono cb43b) ((hX4.mono cb4a).mono cb43b)) (hX43.mono cb43a), Ca (Ca (Bi hD1) hD4 (Nat.le_refl _)) hD43 (Nat.le_refl _)|>.dis, _, (kd2 (kd2 hK1 hK4) hK43), (by have hn := (CV (CV (B7 hN1) hN4 (Nat.le_refl _)) hN43 (Nat.le_refl _)); simpa only [List.append_assoc, List.nil_append, List.append_nil] using hn.dn)⟩
  rw [decide_eq_false hca] at CK
  refine Ao [2100, 2101] (CK) (by first | (simp +contextual -dsimp only [↓SD, SU, simprocAttr, rdB]; done) | (simp +contextual -dsimp only [↓SD, SU, simprocAttr, rdB, Af]; done) | (simp +contextual -dsimp only [↓SD, SU, simprocAttr, rdB, o1, o2, o3, a4, b4, o4, hv1, hv4, Af]; done)) ?_
  rintro r hp' ⟨rfl, rfl⟩ H61 hH61
  obtain ⟨⟨a61, b61, o61, u61'⟩, k61⟩ := AX hH61
  have u61 : Unf H61 := u61' (by repeat (first | exact u4 | exact Ae | refine AR ?_))
  have t61_T1 := k61 T1 hD1.far (by repeat (first | exact t4_T1 | refine Ag ?_ hD1.far (by decide)))
  have t61_T4 := k61 T4 hD4.far (by repeat (first | exact t4 | refine Ag ?_ hD4.far (by decide)))
  simp +contextual -dsimp only [↓SD, SU, simprocAttr, rdB, Ab, Aa, EVB, Ax, Ae, Ah, o1, o2, o3, o4, a61, b61, o61, u61, hv1, hv4]
  obtain ⟨cb4a, cb4b⟩ := comb (Bi hD1) hD4 (Nat.le_refl _)
  refine Ai.post (rdB C s4 ++ (T4 ++ T1)) ?_
  simp +contextual -dsimp only [↓SD, SU, simprocAttr, rdB, Ab, Aa, EVB, Ax, Ae, Ah, o1, o2, o3, o4, a61, b61, o61, u61, hv1, hv4, AO]
  refine ⟨⟨?_, ?_⟩, ?_⟩
  ·exact (by repeat (first | exact t61_T4 | refine Ag ?_ hD4.far (by decide)))
  ·exact (by repeat (first | exact t61_T1 | refine Ag ?_ hD1.far (by decide)))
  exact ⟨s4, T4 ++ T1, (w1 + w4 + 1), rfl, hs4, by omega, fun h => by
    have g0 := hc4 h
    have g1 := hc1 g0.1
    exact ⟨g1.1, by omega, by omega⟩, ea2 10 _ 0 _ hus (hX1.mono cb4b) (hX4.mono cb4a), Ca (Bi hD1) hD4 (Nat.le_refl _)|>.dis, _, (kd2 hK1 hK4), (by have hn := (CV (B7 hN1) hN4 (Nat.le_refl _)); simpa only [List.append_assoc, List.nil_append, List.append_nil] using hn.dn)⟩
 | false =>
  rw [hcm] at CJ
  refine Ao [2100, 2101] (CJ) (by first | (simp +contextual -dsimp only [↓SD, SU, simprocAttr, rdB]; done) | (simp +contextual -dsimp only [↓SD, SU, simprocAttr, rdB, Af]; done) | (simp +contextual -dsimp only [↓SD, SU, simprocAttr, rdB, a1, b1, o1, hv1, Af]; done)) ?_
  rintro r hp' ⟨rfl, rfl⟩ H21 hH21
  obtain ⟨⟨a21, b21, o21, u21'⟩, k21⟩ := AX hH21
  have u21 : Unf H21 := u21' (by repeat (first | exact u1 | exact Ae | refine AR ?_))
  have t21_T1 := k21 T1 hD1.far (by repeat (first | exact t1 | refine Ag ?_ hD1.far (by decide)))
  simp +contextual -dsimp only [↓SD, SU, simprocAttr, rdB, Ab, Aa, EVB, Ax, Ae, Ah, o1, a21, b21, o21, u21, hv1]
  have CK := BP C s1 hs1 (bs [58, 61])
  by_cases hca : BF (A6 C s1) = bs [58, 61]
  ·
   obtain ⟨j3, j4⟩ := Bz hs1 (by decide) hca
   have e4 : (s1.i : Int) + 1 = ((s1.i + 1 : Nat) : Int) := by omega
   have hs8 := Bx hs1 j3
   rw [decide_eq_true hca] at CK
   refine Ao [2100, 2101] (CK) (by first | (simp +contextual -dsimp only [↓SD, SU, simprocAttr, rdB]; done) | (simp +contextual -dsimp only [↓SD, SU, simprocAttr, rdB, Af]; done) | (simp +contextual -dsimp only [↓SD, SU, simprocAttr, rdB, o1, a21, b21, o21, hv1, Af]; done)) ?_
   rintro r hp' ⟨rfl, rfl⟩ H61 hH61
   obtain ⟨⟨a61, b61, o61, u61'⟩, k61⟩ := AX hH61
   have u61 : Unf H61 := u61' (by repeat (first | exact u21 | exact Ae | refine AR ?_))
   have t61_T1 := k61 T1 hD1.far (by repeat (first | exact t21_T1 | refine Ag ?_ hD1.far (by decide)))
   simp +contextual -dsimp only [↓SD, SU, simprocAttr, rdB, Ab, Aa, EVB, Ax, Ae, Ah, o1, o21, a61, b61, o61, u61, hv1]
   refine Ao [2100, 2101] (Be C s1 hs1) (by first | (simp +contextual -dsimp only [↓SD, SU, simprocAttr, rdB]; done) | (simp +contextual -dsimp only [↓SD, SU, simprocAttr, rdB, Af]; done) | (simp +contextual -dsimp only [↓SD, SU, simprocAttr, rdB, o1, o21, a61, b61, o61, hv1, Af]; done)) ?_
   rintro r hp' ⟨rfl, rfl⟩ H62 hH62
   obtain ⟨⟨a62, b62, o62, u62'⟩, k62⟩ := AX hH62
   have u62 : Unf H62 := u62' (by repeat (first | exact u61 | exact Ae | refine AR ?_))
   have t62_T1 := k62 T1 hD1.far (by repeat (first | exact t61_T1 | refine Ag ?_ hD1.far (by decide)))
   generalize A6 C s1 = v at *
   simp +contextual -dsimp only [↓SD, SU, simprocAttr, rdB, Ab, Aa, EVB, Ax, Ae, Ah, o1, o21, o61, a62, b62, o62, u62, hv1, AY, e4]
   refine ⟨by omega, ?_⟩
   refine Ao [2100, 2101] (ihn (C.L.length - (s1.i + 1)) (by omega) { s1 with i := s1.i + 1 } hs8 (by dsimp only; omega) rfl d hd (sub nm 1)) (by first | (simp +contextual -dsimp only [↓SD, SU, simprocAttr, rdB]; done) | (simp +contextual -dsimp only [↓SD, SU, simprocAttr, rdB, Af]; done) | (simp +contextual -dsimp only [↓SD, SU, simprocAttr, rdB, o1, o21, o61, a62, b62, o62, hv1, e4, Af]; done)) ?_
   rintro X63 hp' ⟨s63, T63, w63, rfl, hs63, hi63, hc63, hX63, hD63, N63, hK63, hN63⟩ H63 hH63
   dsimp only at hi63 hc63
   have hv63 := hX63.ev
   have hsm63 := hs63.small
   obtain ⟨⟨a63, b63, o63, u63'⟩, t63, k63⟩ := Bp hH63 hD63
   have u63 : Unf H63 := u63' (by repeat (first | exact u62 | exact Ae | refine AR ?_))
   have t63_T1 := k63 T1 hD1.far (BG hD63 hD1 (by decide)) (by repeat (first | exact t62_T1 | refine Ag ?_ hD1.far (by decide)))
   simp +contextual -dsimp only [↓SD, SU, simprocAttr, rdB, Ab, Aa, EVB, Ax, Ae, Ah, o1, o21, o61, o62, a63, b63, o63, u63, hv1, hv63]
   intro v9
   refine Ad [] (Bl (18) (v.pos) (bs []) (.sl [X1, X63]) (.sl _)) (by simp +contextual -dsimp only [↓SD, SU, simprocAttr]) ?_
   rintro r hp' ⟨rfl, rfl⟩
   simp +contextual -dsimp only [↓SD, SU, simprocAttr, rdB, Ab, Aa, EVB, Ax, Ae, Ah, o1, o21, o61, o62, a63, b63, o63, u63, hv1, hv63]
   obtain ⟨cb63a, cb63b⟩ := comb (Bi hD1) hD63 (Nat.le_refl _)
   refine Ai.post (rdB C s63 ++ (T63 ++ T1)) ?_
   simp +contextual -dsimp only [↓SD, SU, simprocAttr, rdB, Ab, Aa, EVB, Ax, Ae, Ah, o1, o21, o61, o62, a63, b63, o63, u63, hv1, hv63, AO]
   refine ⟨⟨?_, ?_⟩, ?_⟩
   ·exact (by repeat (first | exact t63 | refine Ag ?_ hD63.far (by decide)))
   ·exact (by repeat (first | exact t63_T1 | refine Ag ?_ hD1.far (by decide)))
   exact ⟨s63, T63 ++ T1, w1 + w63 + 1, rfl, hs63, by omega, fun h => by
     have g0 := hc63 h
     have g1 := hc1 g0.1
     exact ⟨g1.1, by omega, by omega⟩, ea2 18 _ 0 _ hz ((hX1.mono cb63b)) (hX63.mono cb63a), Ca (Bi hD1) hD63 (Nat.le_refl _)|>.dis, _, (kd2 hK1 hK63), (by have hn := (CV (B7 hN1) hN63 (Nat.le_refl _)); simpa only [List.append_assoc, List.nil_append, List.append_nil] using hn.dn)⟩
  rw [decide_eq_false hca] at CK
  refine Ao [2100, 2101] (CK) (by first | (simp +contextual -dsimp only [↓SD, SU, simprocAttr, rdB]; done) | (simp +contextual -dsimp only [↓SD, SU, simprocAttr, rdB, Af]; done) | (simp +contextual -dsimp only [↓SD, SU, simprocAttr, rdB, o1, a21, b21, o21, hv1, Af]; done)) ?_
  rintro r hp' ⟨rfl, rfl⟩ H81 hH81
  obtain ⟨⟨a81, b81, o81, u81'⟩, k81⟩ := AX hH81
  have u81 : Unf H81 := u81' (by repeat (first | exact u21 | exact Ae | refine AR ?_))
  have t81_T1 := k81 T1 hD1.far (by repeat (first | exact t21_T1 | refine Ag ?_ hD1.far (by decide)))
  simp +contextual -dsimp only [↓SD, SU, simprocAttr, rdB, Ab, Aa, EVB, Ax, Ae, Ah, o1, o21, a81, b81, o81, u81, hv1]
  refine Ai.post (rdB C s1 ++ (T1)) ?_
  simp +contextual -dsimp only [↓SD, SU, simprocAttr, rdB, Ab, Aa, EVB, Ax, Ae, Ah, o1, o21, a81, b81, o81, u81, hv1, AO]
  refine ⟨?_, ?_⟩
  ·exact (by repeat (first | exact t81_T1 | refine Ag ?_ hD1.far (by decide)))
  exact ⟨s1, T1, w1, rfl, hs1, by omega, fun h => by
    have g0 := hc1 h
    exact ⟨g0.1, by omega, by omega⟩, hX1, Bi hD1|>.dis, _, hK1, (by have hn := (B7 hN1); simpa only [List.append_assoc, List.nil_append, List.append_nil] using hn.dn)⟩
theorem Yb (C : RC) (b : Nat) (IH : ∀ s1 d nm, Bm C s1 → b < s1.i → 0 ≤ d ∧ d ≤ 200 → ExC C 81 [.int .i64 d] s1 nm) (s : RS) (hs : Bm C s) (hbi : b ≤ s.i) (d : Int) (hd : 0 ≤ d ∧ d ≤ 100) (nm : Nat) : ExC C 146 [.int .i64 d] s nm := UX C b IH _ s hs hbi rfl d hd nm
end Go.Proofs.YtoffpbehgncakaaGreat
