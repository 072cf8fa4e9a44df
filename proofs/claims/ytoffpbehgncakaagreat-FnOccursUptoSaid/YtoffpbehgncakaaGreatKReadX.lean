/-
 EXPRESSIONS TAKEN BY THE REFERENCE'S READER, told weakly: the whole. Conditions: none. Printed by gen/reade.py.
-/
import Derived.Test.YtoffpbehgncakaaGreatKReadM
set_option linter.unusedVariables false
set_option linter.unusedSimpArgs false
set_option maxRecDepth 100000
namespace Go.Proofs.YtoffpbehgncakaaGreat
open Go.RowKit Go.Proofs.YtoffpbehgncakaaGreat.Av Go.Proofs.YtoffpbehgncakaaGreat.Ml
open Go.Proofs.YtoffpbehgncakaaGreat.Av.AVal (av)
open OVal (ov oh on)

set_option maxHeartbeats 8000000 in
theorem SA (C : RC) : ∀ (n : Nat) (s : RS), Bm C s → C.L.length - s.i = n → ∀ (d : Int), 0 ≤ d ∧ d ≤ 200 → ∀ nm : Nat, ExC C 81 [.int .i64 d] s nm := by
 intro n
 induction n using Nat.strongRecOn with
 | ind n ihn =>
 intro s hs hn d hd nm
 by_cases hc : s.code = 0
 case' neg => exact Jq C s hs d nm hc
 have IH : ∀ s1 d nm, Bm C s1 → s.i < s1.i → 0 ≤ d ∧ d ≤ 200 → ExC C 81 [.int .i64 d] s1 nm := fun s1 d nm h1 h2 h3 => ihn (C.L.length - s1.i) (by have := h1.2.1; omega) s1 h1 rfl d h3 nm
 have hcE := eq_true hc
 have hsm := hs.small
 have hz : (bs []).size ≤ C.m := Nat.zero_le _
 unfold ExC
 refine Dj.H rfl ?_
 by_cases h100 : 100 < d
 ·simp +contextual -dsimp only [↓SD, SU, simprocAttr, rdB, Ab, Aa, Dj, hcE, h100]
  intro v4
  (refine Ad [2100, 2101] (Ol C s hs) (by first | (simp +contextual -dsimp only [↓SD, SU, simprocAttr, rdB]; done) | (simp +contextual -dsimp only [↓SD, SU, simprocAttr, rdB, Af]; done) | (simp +contextual -dsimp only [↓SD, SU, simprocAttr, rdB, c0]; done)) ?_; rintro r hp' ⟨b, rfl, rfl⟩)
  simp +contextual -dsimp only [↓SD, SU, simprocAttr, rdB, Ab, Aa]
  (refine Ad [2100, 2101] (JS C s hs b) (by first | (simp +contextual -dsimp only [↓SD, SU, simprocAttr, rdB]; done) | (simp +contextual -dsimp only [↓SD, SU, simprocAttr, rdB, Af]; done) | (simp +contextual -dsimp only [↓SD, SU, simprocAttr, rdB, c0]; done)) ?_; rintro r hp' ⟨s1, rfl, hs1, hi1, hc1, rfl, _, hc1'⟩)
  simp +contextual -dsimp only [↓SD, SU, simprocAttr, rdB, Ab, Aa]
  refine Ai.post (rdB C s1) ?_
  simp +contextual -dsimp only [↓SD, SU, simprocAttr, rdB, Ab, Aa]
  exact U8 nm hs1 0 0 0 (bs []) hz hi1 hc1'
 have hd2 : 0 ≤ d ∧ d ≤ 100 := by omega
 simp +contextual -dsimp only [↓SD, SU, simprocAttr, rdB, Ab, Aa, Dj, hcE, h100]
 intro v4
 (refine Ad [2100, 2101] (Be C s hs) (by first | (simp +contextual -dsimp only [↓SD, SU, simprocAttr, rdB]; done) | (simp +contextual -dsimp only [↓SD, SU, simprocAttr, rdB, Af]; done) | (simp +contextual -dsimp only [↓SD, SU, simprocAttr, rdB, c0]; done)) ?_; rintro r hp' ⟨rfl, rfl⟩)
 have hsg := fun (x : ByteArray) hx => Bz (x := x) hs hx
 generalize htk : A6 C s = t at *
 simp +contextual -dsimp only [↓SD, SU, simprocAttr, rdB, Ab, Aa, AY]
 intro v5
 refine Ac _ (CM t) ?_
 by_cases q0 : BF t = bs [102, 117, 110]
 ·
  obtain ⟨k1, k2⟩ := hsg _ (by decide) q0
  have p0 := eq_true q0
  have hs1 := Bx hs k1
  have e : (s.i : Int) + 1 = ((s.i + 1 : Nat) : Int) := by omega
  simp +contextual -dsimp only [↓SD, SU, simprocAttr, rdB, Ab, Aa, e, p0]
  refine ⟨by omega, ?_⟩
  refine Ao [2100, 2101] (BX C { s with i := s.i + 1 } hs1 3 (by decide)) (by first | (simp +contextual -dsimp only [↓SD, SU, simprocAttr, rdB]; done) | (simp +contextual -dsimp only [↓SD, SU, simprocAttr, rdB, Af]; done) | (simp +contextual -dsimp only [↓SD, SU, simprocAttr, rdB, Af]; done)) ?_
  rintro r hp' ⟨s2, rfl, hs2, hi2, hc2, x2, rfl, hx2, hp2⟩ H2 hH2
  obtain ⟨⟨a2, b2, o2, u2'⟩, k2⟩ := AX hH2
  have u2 : Unf H2 := u2' (by repeat (first | exact Ae | exact Ae | refine AR ?_))
  dsimp only at hi2 hc2 hp2
  simp +contextual -dsimp only [↓SD, SU, simprocAttr, rdB, Ab, Aa, EVB, Ax, Ae, Ah, a2, b2, o2, u2]
  refine Ao [2100, 2101] (A8 C s2 hs2 (bs [45, 62]) (by decide)) (by first | (simp +contextual -dsimp only [↓SD, SU, simprocAttr, rdB]; done) | (simp +contextual -dsimp only [↓SD, SU, simprocAttr, rdB, Af]; done) | (simp +contextual -dsimp only [↓SD, SU, simprocAttr, rdB, a2, b2, o2, Af]; done)) ?_
  rintro r hp' ⟨s3, rfl, hs3, hi3, hc3, rfl, hp3⟩ H3 hH3
  obtain ⟨⟨a3, b3, o3, u3'⟩, k3⟩ := AX hH3
  have u3 : Unf H3 := u3' (by repeat (first | exact u2 | exact Ae | refine AR ?_))
  simp +contextual -dsimp only [↓SD, SU, simprocAttr, rdB, Ab, Aa, EVB, Ax, Ae, Ah, o2, a3, b3, o3, u3]
  refine ⟨by omega, ?_⟩
  refine Ao [2100, 2101] (IH s3 (d + 1) (sub nm 0) hs3 (by omega) (by omega)) (by first | (simp +contextual -dsimp only [↓SD, SU, simprocAttr, rdB]; done) | (simp +contextual -dsimp only [↓SD, SU, simprocAttr, rdB, Af]; done) | (simp +contextual -dsimp only [↓SD, SU, simprocAttr, rdB, o2, a3, b3, o3, Af]; done)) ?_
  rintro X4 hp' ⟨s4, T4, w4, rfl, hs4, hi4, hc4, hX4, hD4, N4, hK4, hN4⟩ H4 hH4
  have hv4 := hX4.ev
  have hsm4 := hs4.small
  obtain ⟨⟨a4, b4, o4, u4'⟩, t4, k4⟩ := Bp hH4 hD4
  have u4 : Unf H4 := u4' (by repeat (first | exact u3 | exact Ae | refine AR ?_))
  simp +contextual -dsimp only [↓SD, SU, simprocAttr, rdB, Ab, Aa, EVB, Ax, Ae, Ah, o2, o3, a4, b4, o4, u4, hv4]
  intro bx4
  refine Ad [] (Bl (5) (t.pos) (x2) (.sl [X4]) (.sl _)) (by simp +contextual -dsimp only [↓SD, SU, simprocAttr]) ?_
  rintro r hp' ⟨rfl, rfl⟩
  simp +contextual -dsimp only [↓SD, SU, simprocAttr, rdB, Ab, Aa, EVB, Ax, Ae, Ah, o2, o3, a4, b4, o4, u4, hv4]
  refine Ai.post (rdB C s4 ++ (T4)) ?_
  simp +contextual -dsimp only [↓SD, SU, simprocAttr, rdB, Ab, Aa, EVB, Ax, Ae, Ah, o2, o3, a4, b4, o4, u4, hv4, AO]
  refine ⟨?_, ?_⟩
  ·exact (by repeat (first | exact t4 | refine Ag ?_ hD4.far (by decide)))
  exact ⟨s4, T4, w4 + 1, rfl, hs4, by omega, fun h => by
    have g0 := hc4 h
    have g1 := hc3 g0.1
    have g2 := hc2 g1
    exact ⟨g2, by omega, by omega⟩, ea1 5 _ 0 _ hx2 hX4, Bi hD4|>.dis, _, (kd1 hK4), (by have hn := (B7 hN4); simpa only [List.append_assoc, List.nil_append, List.append_nil] using hn.dn)⟩
 by_cases q1 : BF t = bs [108, 101, 116]
 ·
  obtain ⟨k1, k2⟩ := hsg _ (by decide) q1
  have p1 := eq_true q1
  have hs1 := Bx hs k1
  have e : (s.i : Int) + 1 = ((s.i + 1 : Nat) : Int) := by omega
  simp +contextual -dsimp only [↓SD, SU, simprocAttr, rdB, Ab, Aa, e, q0, p1]
  refine ⟨by omega, ?_⟩
  have CI := BP C { s with i := s.i + 1 } hs1 (bs [114, 101, 99])
  by_cases hrc : BF (A6 C { s with i := s.i + 1 }) = bs [114, 101, 99]
  ·obtain ⟨j1, j2⟩ := Bz hs1 (by decide) hrc
   dsimp only at j1 j2
   have e2 : ((s.i + 1 : Nat) : Int) + 1 = ((s.i + 2 : Nat) : Int) := by omega
   have hs2 : Bm C { s with i := s.i + 2 } := Bx hs1 j1
   rw [decide_eq_true hrc] at CI
   refine Ao [2100, 2101] (CI) (by first | (simp +contextual -dsimp only [↓SD, SU, simprocAttr, rdB]; done) | (simp +contextual -dsimp only [↓SD, SU, simprocAttr, rdB, Af]; done) | (simp +contextual -dsimp only [↓SD, SU, simprocAttr, rdB, Af]; done)) ?_
   rintro r hp' ⟨rfl, rfl⟩ H3 hH3
   obtain ⟨⟨a3, b3, o3, u3'⟩, k3⟩ := AX hH3
   have u3 : Unf H3 := u3' (by repeat (first | exact Ae | exact Ae | refine AR ?_))
   simp +contextual -dsimp only [↓SD, SU, simprocAttr, rdB, Ab, Aa, EVB, Ax, Ae, Ah, a3, b3, o3, u3, e2]
   refine ⟨by omega, ?_⟩
   refine Ao [2100, 2101] (BX C { s with i := s.i + 2 } hs2 3 (by decide)) (by first | (simp +contextual -dsimp only [↓SD, SU, simprocAttr, rdB]; done) | (simp +contextual -dsimp only [↓SD, SU, simprocAttr, rdB, Af]; done) | (simp +contextual -dsimp only [↓SD, SU, simprocAttr, rdB, a3, b3, o3, Af]; done)) ?_
   rintro r hp' ⟨s4, rfl, hs4, hi4, hc4, x4, rfl, hx4, hp4⟩ H4 hH4
   obtain ⟨⟨a4, b4, o4, u4'⟩, k4⟩ := AX hH4
   have u4 : Unf H4 := u4' (by repeat (first | exact u3 | exact Ae | refine AR ?_))
   dsimp only at hi4 hc4 hp4
   simp +contextual -dsimp only [↓SD, SU, simprocAttr, rdB, Ab, Aa, EVB, Ax, Ae, Ah, o3, a4, b4, o4, u4]
   refine Ao [2100, 2101] (Be C s4 hs4) (by first | (simp +contextual -dsimp only [↓SD, SU, simprocAttr, rdB]; done) | (simp +contextual -dsimp only [↓SD, SU, simprocAttr, rdB, Af]; done) | (simp +contextual -dsimp only [↓SD, SU, simprocAttr, rdB, o3, a4, b4, o4, Af]; done)) ?_
   rintro r hp' ⟨rfl, rfl⟩ H5 hH5
   obtain ⟨⟨a5, b5, o5, u5'⟩, k5⟩ := AX hH5
   have u5 : Unf H5 := u5' (by repeat (first | exact u4 | exact Ae | refine AR ?_))
   generalize A6 C s4 = u at *
   simp +contextual -dsimp only [↓SD, SU, simprocAttr, rdB, Ab, Aa, EVB, Ax, Ae, Ah, o3, o4, a5, b5, o5, u5, AY]
   refine Ao [2100, 2101] (BX C s4 hs4 3 (by decide)) (by first | (simp +contextual -dsimp only [↓SD, SU, simprocAttr, rdB]; done) | (simp +contextual -dsimp only [↓SD, SU, simprocAttr, rdB, Af]; done) | (simp +contextual -dsimp only [↓SD, SU, simprocAttr, rdB, o3, o4, a5, b5, o5, Af]; done)) ?_
   rintro r hp' ⟨s6, rfl, hs6, hi6, hc6, x6, rfl, hx6, hp6⟩ H6 hH6
   obtain ⟨⟨a6, b6, o6, u6'⟩, k6⟩ := AX hH6
   have u6 : Unf H6 := u6' (by repeat (first | exact u5 | exact Ae | refine AR ?_))
   simp +contextual -dsimp only [↓SD, SU, simprocAttr, rdB, Ab, Aa, EVB, Ax, Ae, Ah, o3, o4, o5, a6, b6, o6, u6]
   refine Ao [2100, 2101] (A8 C s6 hs6 (bs [61]) (by decide)) (by first | (simp +contextual -dsimp only [↓SD, SU, simprocAttr, rdB]; done) | (simp +contextual -dsimp only [↓SD, SU, simprocAttr, rdB, Af]; done) | (simp +contextual -dsimp only [↓SD, SU, simprocAttr, rdB, o3, o4, o5, a6, b6, o6, Af]; done)) ?_
   rintro r hp' ⟨s7, rfl, hs7, hi7, hc7, rfl, hp7⟩ H7 hH7
   obtain ⟨⟨a7, b7, o7, u7'⟩, k7⟩ := AX hH7
   have u7 : Unf H7 := u7' (by repeat (first | exact u6 | exact Ae | refine AR ?_))
   simp +contextual -dsimp only [↓SD, SU, simprocAttr, rdB, Ab, Aa, EVB, Ax, Ae, Ah, o3, o4, o5, o6, a7, b7, o7, u7]
   refine ⟨by omega, ?_⟩
   refine Ao [2100, 2101] (IH s7 (d + 1) (sub nm 0) hs7 (by omega) (by omega)) (by first | (simp +contextual -dsimp only [↓SD, SU, simprocAttr, rdB]; done) | (simp +contextual -dsimp only [↓SD, SU, simprocAttr, rdB, Af]; done) | (simp +contextual -dsimp only [↓SD, SU, simprocAttr, rdB, o3, o4, o5, o6, a7, b7, o7, Af]; done)) ?_
   rintro X8 hp' ⟨s8, T8, w8, rfl, hs8, hi8, hc8, hX8, hD8, N8, hK8, hN8⟩ H8 hH8
   have hv8 := hX8.ev
   have hsm8 := hs8.small
   obtain ⟨⟨a8, b8, o8, u8'⟩, t8, k8⟩ := Bp hH8 hD8
   have u8 : Unf H8 := u8' (by repeat (first | exact u7 | exact Ae | refine AR ?_))
   simp +contextual -dsimp only [↓SD, SU, simprocAttr, rdB, Ab, Aa, EVB, Ax, Ae, Ah, o3, o4, o5, o6, o7, a8, b8, o8, u8, hv8]
   intro bx8
   refine Ao [2100, 2101] (A8 C s8 hs8 (bs [105, 110]) (by decide)) (by first | (simp +contextual -dsimp only [↓SD, SU, simprocAttr, rdB]; done) | (simp +contextual -dsimp only [↓SD, SU, simprocAttr, rdB, Af]; done) | (simp +contextual -dsimp only [↓SD, SU, simprocAttr, rdB, o3, o4, o5, o6, o7, a8, b8, o8, hv8, Af]; done)) ?_
   rintro r hp' ⟨s9, rfl, hs9, hi9, hc9, rfl, hp9⟩ H9 hH9
   obtain ⟨⟨a9, b9, o9, u9'⟩, k9⟩ := AX hH9
   have u9 : Unf H9 := u9' (by repeat (first | exact u8 | exact Ae | refine AR ?_))
   have t9_T8 := k9 T8 hD8.far (by repeat (first | exact t8 | refine Ag ?_ hD8.far (by decide)))
   simp +contextual -dsimp only [↓SD, SU, simprocAttr, rdB, Ab, Aa, EVB, Ax, Ae, Ah, o3, o4, o5, o6, o7, o8, a9, b9, o9, u9, hv8]
   refine ⟨by omega, ?_⟩
   refine Ao [2100, 2101] (IH s9 (d + 1) (sub nm 1) hs9 (by omega) (by omega)) (by first | (simp +contextual -dsimp only [↓SD, SU, simprocAttr, rdB]; done) | (simp +contextual -dsimp only [↓SD, SU, simprocAttr, rdB, Af]; done) | (simp +contextual -dsimp only [↓SD, SU, simprocAttr, rdB, o3, o4, o5, o6, o7, o8, a9, b9, o9, hv8, Af]; done)) ?_
   rintro X10 hp' ⟨s10, T10, w10, rfl, hs10, hi10, hc10, hX10, hD10, N10, hK10, hN10⟩ H10 hH10
   have hv10 := hX10.ev
   have hsm10 := hs10.small
   obtain ⟨⟨a10, b10, o10, u10'⟩, t10, k10⟩ := Bp hH10 hD10
   have u10 : Unf H10 := u10' (by repeat (first | exact u9 | exact Ae | refine AR ?_))
   have t10_T8 := k10 T8 hD8.far (BG hD10 hD8 (by decide)) (by repeat (first | exact t9_T8 | refine Ag ?_ hD8.far (by decide)))
   simp +contextual -dsimp only [↓SD, SU, simprocAttr, rdB, Ab, Aa, EVB, Ax, Ae, Ah, o3, o4, o5, o6, o7, o8, o9, a10, b10, o10, u10, hv8, hv10]
   intro bx10
   repeat' (refine And.intro ?_ ?_)
   all_goals
    refine Ad [] (Bl (5) (u.pos) (x6) (.sl [X8]) (.sl _)) (by simp +contextual -dsimp only [↓SD, SU, simprocAttr]) ?_
    rintro r hp' ⟨rfl, rfl⟩
    simp +contextual -dsimp only [↓SD, SU, simprocAttr, rdB, Ab, Aa, EVB, Ax, Ae, Ah, o3, o4, o5, o6, o7, o8, o9, a10, b10, o10, u10, hv8, hv10]
    refine Ad [] (Bl (8) (t.pos) (x4) (.sl [.agg [.int .i64 5, .int .i64 u.pos, .int .i64 0, .str x6, .Au, .Au, .sl [X8]], X10]) (.sl _)) (by simp +contextual -dsimp only [↓SD, SU, simprocAttr]) ?_
    rintro r hp' ⟨rfl, rfl⟩
    simp +contextual -dsimp only [↓SD, SU, simprocAttr, rdB, Ab, Aa, EVB, Ax, Ae, Ah, o3, o4, o5, o6, o7, o8, o9, a10, b10, o10, u10, hv8, hv10]
    obtain ⟨cb10a, cb10b⟩ := comb (Bi hD8) hD10 (Nat.le_refl _)
    refine Ai.post (rdB C s10 ++ (T10 ++ T8)) ?_
    simp +contextual -dsimp only [↓SD, SU, simprocAttr, rdB, Ab, Aa, EVB, Ax, Ae, Ah, o3, o4, o5, o6, o7, o8, o9, a10, b10, o10, u10, hv8, hv10, AO]
    refine ⟨⟨?_, ?_⟩, ?_⟩
    ·exact (by repeat (first | exact t10 | refine Ag ?_ hD10.far (by decide)))
    ·exact (by repeat (first | exact t10_T8 | refine Ag ?_ hD8.far (by decide)))
    exact ⟨s10, T10 ++ T8, w8 + 1 + w10 + 1, rfl, hs10, by omega, fun h => by
      have g0 := hc10 h
      have g1 := hc9 g0.1
      have g2 := hc8 g1
      have g3 := hc7 g2.1
      have g4 := hc6 g3
      have g5 := hc4 g4
      exact ⟨g5, by omega, by omega⟩, ea2 8 _ 0 _ hx4 (ea1 5 _ 0 _ hx6 (hX8.mono cb10b)) (hX10.mono cb10a), Ca (Bi hD8) hD10 (Nat.le_refl _)|>.dis, _, (kd2 (kd1 hK8) hK10), (by have hn := (CV (B7 hN8) hN10 (Nat.le_refl _)); simpa only [List.append_assoc, List.nil_append, List.append_nil] using hn.dn)⟩
  rw [decide_eq_false hrc] at CI
  refine Ao [2100, 2101] (CI) (by first | (simp +contextual -dsimp only [↓SD, SU, simprocAttr, rdB]; done) | (simp +contextual -dsimp only [↓SD, SU, simprocAttr, rdB, Af]; done) | (simp +contextual -dsimp only [↓SD, SU, simprocAttr, rdB, Af]; done)) ?_
  rintro r hp' ⟨rfl, rfl⟩ H41 hH41
  obtain ⟨⟨a41, b41, o41, u41'⟩, k41⟩ := AX hH41
  have u41 : Unf H41 := u41' (by repeat (first | exact Ae | exact Ae | refine AR ?_))
  simp +contextual -dsimp only [↓SD, SU, simprocAttr, rdB, Ab, Aa, EVB, Ax, Ae, Ah, a41, b41, o41, u41]
  refine Ao [2100, 2101] (BX C { s with i := s.i + 1 } hs1 3 (by decide)) (by first | (simp +contextual -dsimp only [↓SD, SU, simprocAttr, rdB]; done) | (simp +contextual -dsimp only [↓SD, SU, simprocAttr, rdB, Af]; done) | (simp +contextual -dsimp only [↓SD, SU, simprocAttr, rdB, a41, b41, o41, Af]; done)) ?_
  rintro r hp' ⟨s42, rfl, hs42, hi42, hc42, x42, rfl, hx42, hp42⟩ H42 hH42
  obtain ⟨⟨a42, b42, o42, u42'⟩, k42⟩ := AX hH42
  have u42 : Unf H42 := u42' (by repeat (first | exact u41 | exact Ae | refine AR ?_))
  dsimp only at hi42 hc42 hp42
  simp +contextual -dsimp only [↓SD, SU, simprocAttr, rdB, Ab, Aa, EVB, Ax, Ae, Ah, o41, a42, b42, o42, u42]
  refine Ao [2100, 2101] (A8 C s42 hs42 (bs [61]) (by decide)) (by first | (simp +contextual -dsimp only [↓SD, SU, simprocAttr, rdB]; done) | (simp +contextual -dsimp only [↓SD, SU, simprocAttr, rdB, Af]; done) | (simp +contextual -dsimp only [↓SD, SU, simprocAttr, rdB, o41, a42, b42, o42, Af]; done)) ?_
  rintro r hp' ⟨s43, rfl, hs43, hi43, hc43, rfl, hp43⟩ H43 hH43
  obtain ⟨⟨a43, b43, o43, u43'⟩, k43⟩ := AX hH43
  have u43 : Unf H43 := u43' (by repeat (first | exact u42 | exact Ae | refine AR ?_))
  simp +contextual -dsimp only [↓SD, SU, simprocAttr, rdB, Ab, Aa, EVB, Ax, Ae, Ah, o41, o42, a43, b43, o43, u43]
  refine ⟨by omega, ?_⟩
  refine Ao [2100, 2101] (IH s43 (d + 1) (sub nm 0) hs43 (by omega) (by omega)) (by first | (simp +contextual -dsimp only [↓SD, SU, simprocAttr, rdB]; done) | (simp +contextual -dsimp only [↓SD, SU, simprocAttr, rdB, Af]; done) | (simp +contextual -dsimp only [↓SD, SU, simprocAttr, rdB, o41, o42, a43, b43, o43, Af]; done)) ?_
  rintro X44 hp' ⟨s44, T44, w44, rfl, hs44, hi44, hc44, hX44, hD44, N44, hK44, hN44⟩ H44 hH44
  have hv44 := hX44.ev
  have hsm44 := hs44.small
  obtain ⟨⟨a44, b44, o44, u44'⟩, t44, k44⟩ := Bp hH44 hD44
  have u44 : Unf H44 := u44' (by repeat (first | exact u43 | exact Ae | refine AR ?_))
  simp +contextual -dsimp only [↓SD, SU, simprocAttr, rdB, Ab, Aa, EVB, Ax, Ae, Ah, o41, o42, o43, a44, b44, o44, u44, hv44]
  intro bx44
  refine Ao [2100, 2101] (A8 C s44 hs44 (bs [105, 110]) (by decide)) (by first | (simp +contextual -dsimp only [↓SD, SU, simprocAttr, rdB]; done) | (simp +contextual -dsimp only [↓SD, SU, simprocAttr, rdB, Af]; done) | (simp +contextual -dsimp only [↓SD, SU, simprocAttr, rdB, o41, o42, o43, a44, b44, o44, hv44, Af]; done)) ?_
  rintro r hp' ⟨s45, rfl, hs45, hi45, hc45, rfl, hp45⟩ H45 hH45
  obtain ⟨⟨a45, b45, o45, u45'⟩, k45⟩ := AX hH45
  have u45 : Unf H45 := u45' (by repeat (first | exact u44 | exact Ae | refine AR ?_))
  have t45_T44 := k45 T44 hD44.far (by repeat (first | exact t44 | refine Ag ?_ hD44.far (by decide)))
  simp +contextual -dsimp only [↓SD, SU, simprocAttr, rdB, Ab, Aa, EVB, Ax, Ae, Ah, o41, o42, o43, o44, a45, b45, o45, u45, hv44]
  refine ⟨by omega, ?_⟩
  refine Ao [2100, 2101] (IH s45 (d + 1) (sub nm 1) hs45 (by omega) (by omega)) (by first | (simp +contextual -dsimp only [↓SD, SU, simprocAttr, rdB]; done) | (simp +contextual -dsimp only [↓SD, SU, simprocAttr, rdB, Af]; done) | (simp +contextual -dsimp only [↓SD, SU, simprocAttr, rdB, o41, o42, o43, o44, a45, b45, o45, hv44, Af]; done)) ?_
  rintro X46 hp' ⟨s46, T46, w46, rfl, hs46, hi46, hc46, hX46, hD46, N46, hK46, hN46⟩ H46 hH46
  have hv46 := hX46.ev
  have hsm46 := hs46.small
  obtain ⟨⟨a46, b46, o46, u46'⟩, t46, k46⟩ := Bp hH46 hD46
  have u46 : Unf H46 := u46' (by repeat (first | exact u45 | exact Ae | refine AR ?_))
  have t46_T44 := k46 T44 hD44.far (BG hD46 hD44 (by decide)) (by repeat (first | exact t45_T44 | refine Ag ?_ hD44.far (by decide)))
  simp +contextual -dsimp only [↓SD, SU, simprocAttr, rdB, Ab, Aa, EVB, Ax, Ae, Ah, o41, o42, o43, o44, o45, a46, b46, o46, u46, hv44, hv46]
  intro bx46
  refine Ad [] (Bl (7) (t.pos) (x42) (.sl [X44, X46]) (.sl _)) (by simp +contextual -dsimp only [↓SD, SU, simprocAttr]) ?_
  rintro r hp' ⟨rfl, rfl⟩
  simp +contextual -dsimp only [↓SD, SU, simprocAttr, rdB, Ab, Aa, EVB, Ax, Ae, Ah, o41, o42, o43, o44, o45, a46, b46, o46, u46, hv44, hv46]
  obtain ⟨cb46a, cb46b⟩ := comb (Bi hD44) hD46 (Nat.le_refl _)
  refine Ai.post (rdB C s46 ++ (T46 ++ T44)) ?_
  simp +contextual -dsimp only [↓SD, SU, simprocAttr, rdB, Ab, Aa, EVB, Ax, Ae, Ah, o41, o42, o43, o44, o45, a46, b46, o46, u46, hv44, hv46, AO]
  refine ⟨⟨?_, ?_⟩, ?_⟩
  ·exact (by repeat (first | exact t46 | refine Ag ?_ hD46.far (by decide)))
  ·exact (by repeat (first | exact t46_T44 | refine Ag ?_ hD44.far (by decide)))
  exact ⟨s46, T46 ++ T44, w44 + w46 + 1, rfl, hs46, by omega, fun h => by
    have g0 := hc46 h
    have g1 := hc45 g0.1
    have g2 := hc44 g1
    have g3 := hc43 g2.1
    have g4 := hc42 g3
    exact ⟨g4, by omega, by omega⟩, ea2 7 _ 0 _ hx42 (hX44.mono cb46b) (hX46.mono cb46a), Ca (Bi hD44) hD46 (Nat.le_refl _)|>.dis, _, (kd2 hK44 hK46), (by have hn := (CV (B7 hN44) hN46 (Nat.le_refl _)); simpa only [List.append_assoc, List.nil_append, List.append_nil] using hn.dn)⟩
 by_cases q2 : BF t = bs [105, 102]
 ·
  obtain ⟨k1, k2⟩ := hsg _ (by decide) q2
  have p2 := eq_true q2
  have hs1 := Bx hs k1
  have e : (s.i : Int) + 1 = ((s.i + 1 : Nat) : Int) := by omega
  simp +contextual -dsimp only [↓SD, SU, simprocAttr, rdB, Ab, Aa, e, q0, q1, p2]
  refine ⟨by omega, ?_⟩
  refine ⟨by omega, ?_⟩
  refine Ao [2100, 2101] (IH { s with i := s.i + 1 } (d + 1) (sub nm 0) hs1 (by dsimp only; omega) (by omega)) (by first | (simp +contextual -dsimp only [↓SD, SU, simprocAttr, rdB]; done) | (simp +contextual -dsimp only [↓SD, SU, simprocAttr, rdB, Af]; done) | (simp +contextual -dsimp only [↓SD, SU, simprocAttr, rdB, Af]; done)) ?_
  rintro X2 hp' ⟨s2, T2, w2, rfl, hs2, hi2, hc2, hX2, hD2, N2, hK2, hN2⟩ H2 hH2
  dsimp only at hi2 hc2
  have hv2 := hX2.ev
  have hsm2 := hs2.small
  obtain ⟨⟨a2, b2, o2, u2'⟩, t2, k2⟩ := Bp hH2 hD2
  have u2 : Unf H2 := u2' (by repeat (first | exact Ae | exact Ae | refine AR ?_))
  simp +contextual -dsimp only [↓SD, SU, simprocAttr, rdB, Ab, Aa, EVB, Ax, Ae, Ah, a2, b2, o2, u2, hv2]
  intro bx2
  refine Ao [2100, 2101] (A8 C s2 hs2 (bs [116, 104, 101, 110]) (by decide)) (by first | (simp +contextual -dsimp only [↓SD, SU, simprocAttr, rdB]; done) | (simp +contextual -dsimp only [↓SD, SU, simprocAttr, rdB, Af]; done) | (simp +contextual -dsimp only [↓SD, SU, simprocAttr, rdB, a2, b2, o2, hv2, Af]; done)) ?_
  rintro r hp' ⟨s3, rfl, hs3, hi3, hc3, rfl, hp3⟩ H3 hH3
  obtain ⟨⟨a3, b3, o3, u3'⟩, k3⟩ := AX hH3
  have u3 : Unf H3 := u3' (by repeat (first | exact u2 | exact Ae | refine AR ?_))
  have t3_T2 := k3 T2 hD2.far (by repeat (first | exact t2 | refine Ag ?_ hD2.far (by decide)))
  simp +contextual -dsimp only [↓SD, SU, simprocAttr, rdB, Ab, Aa, EVB, Ax, Ae, Ah, o2, a3, b3, o3, u3, hv2]
  refine ⟨by omega, ?_⟩
  refine Ao [2100, 2101] (IH s3 (d + 1) (sub nm 1) hs3 (by omega) (by omega)) (by first | (simp +contextual -dsimp only [↓SD, SU, simprocAttr, rdB]; done) | (simp +contextual -dsimp only [↓SD, SU, simprocAttr, rdB, Af]; done) | (simp +contextual -dsimp only [↓SD, SU, simprocAttr, rdB, o2, a3, b3, o3, hv2, Af]; done)) ?_
  rintro X4 hp' ⟨s4, T4, w4, rfl, hs4, hi4, hc4, hX4, hD4, N4, hK4, hN4⟩ H4 hH4
  have hv4 := hX4.ev
  have hsm4 := hs4.small
  obtain ⟨⟨a4, b4, o4, u4'⟩, t4, k4⟩ := Bp hH4 hD4
  have u4 : Unf H4 := u4' (by repeat (first | exact u3 | exact Ae | refine AR ?_))
  have t4_T2 := k4 T2 hD2.far (BG hD4 hD2 (by decide)) (by repeat (first | exact t3_T2 | refine Ag ?_ hD2.far (by decide)))
  simp +contextual -dsimp only [↓SD, SU, simprocAttr, rdB, Ab, Aa, EVB, Ax, Ae, Ah, o2, o3, a4, b4, o4, u4, hv2, hv4]
  intro bx4
  refine Ao [2100, 2101] (A8 C s4 hs4 (bs [101, 108, 115, 101]) (by decide)) (by first | (simp +contextual -dsimp only [↓SD, SU, simprocAttr, rdB]; done) | (simp +contextual -dsimp only [↓SD, SU, simprocAttr, rdB, Af]; done) | (simp +contextual -dsimp only [↓SD, SU, simprocAttr, rdB, o2, o3, a4, b4, o4, hv2, hv4, Af]; done)) ?_
  rintro r hp' ⟨s5, rfl, hs5, hi5, hc5, rfl, hp5⟩ H5 hH5
  obtain ⟨⟨a5, b5, o5, u5'⟩, k5⟩ := AX hH5
  have u5 : Unf H5 := u5' (by repeat (first | exact u4 | exact Ae | refine AR ?_))
  have t5_T2 := k5 T2 hD2.far (by repeat (first | exact t4_T2 | refine Ag ?_ hD2.far (by decide)))
  have t5_T4 := k5 T4 hD4.far (by repeat (first | exact t4 | refine Ag ?_ hD4.far (by decide)))
  simp +contextual -dsimp only [↓SD, SU, simprocAttr, rdB, Ab, Aa, EVB, Ax, Ae, Ah, o2, o3, o4, a5, b5, o5, u5, hv2, hv4]
  refine ⟨by omega, ?_⟩
  refine Ao [2100, 2101] (IH s5 (d + 1) (sub nm 2) hs5 (by omega) (by omega)) (by first | (simp +contextual -dsimp only [↓SD, SU, simprocAttr, rdB]; done) | (simp +contextual -dsimp only [↓SD, SU, simprocAttr, rdB, Af]; done) | (simp +contextual -dsimp only [↓SD, SU, simprocAttr, rdB, o2, o3, o4, a5, b5, o5, hv2, hv4, Af]; done)) ?_
  rintro X6 hp' ⟨s6, T6, w6, rfl, hs6, hi6, hc6, hX6, hD6, N6, hK6, hN6⟩ H6 hH6
  have hv6 := hX6.ev
  have hsm6 := hs6.small
  obtain ⟨⟨a6, b6, o6, u6'⟩, t6, k6⟩ := Bp hH6 hD6
  have u6 : Unf H6 := u6' (by repeat (first | exact u5 | exact Ae | refine AR ?_))
  have t6_T2 := k6 T2 hD2.far (BG hD6 hD2 (by decide)) (by repeat (first | exact t5_T2 | refine Ag ?_ hD2.far (by decide)))
  have t6_T4 := k6 T4 hD4.far (BG hD6 hD4 (by decide)) (by repeat (first | exact t5_T4 | refine Ag ?_ hD4.far (by decide)))
  simp +contextual -dsimp only [↓SD, SU, simprocAttr, rdB, Ab, Aa, EVB, Ax, Ae, Ah, o2, o3, o4, o5, a6, b6, o6, u6, hv2, hv4, hv6]
  intro bx6
  refine Ad [] (Bl (9) (t.pos) (bs []) (.sl [X2, X4, X6]) (.sl _)) (by simp +contextual -dsimp only [↓SD, SU, simprocAttr]) ?_
  rintro r hp' ⟨rfl, rfl⟩
  simp +contextual -dsimp only [↓SD, SU, simprocAttr, rdB, Ab, Aa, EVB, Ax, Ae, Ah, o2, o3, o4, o5, a6, b6, o6, u6, hv2, hv4, hv6]
  obtain ⟨cb4a, cb4b⟩ := comb (Bi hD2) hD4 (Nat.le_refl _)
  obtain ⟨cb6a, cb6b⟩ := comb (Ca (Bi hD2) hD4 (Nat.le_refl _)) hD6 (Nat.le_refl _)
  refine Ai.post (rdB C s6 ++ (T6 ++ (T4 ++ T2))) ?_
  simp +contextual -dsimp only [↓SD, SU, simprocAttr, rdB, Ab, Aa, EVB, Ax, Ae, Ah, o2, o3, o4, o5, a6, b6, o6, u6, hv2, hv4, hv6, AO]
  refine ⟨⟨?_, ?_, ?_⟩, ?_⟩
  ·exact (by repeat (first | exact t6 | refine Ag ?_ hD6.far (by decide)))
  ·exact (by repeat (first | exact t6_T4 | refine Ag ?_ hD4.far (by decide)))
  ·exact (by repeat (first | exact t6_T2 | refine Ag ?_ hD2.far (by decide)))
  exact ⟨s6, T6 ++ (T4 ++ T2), w2 + (w4 + w6) + 1, rfl, hs6, by omega, fun h => by
    have g0 := hc6 h
    have g1 := hc5 g0.1
    have g2 := hc4 g1
    have g3 := hc3 g2.1
    have g4 := hc2 g3
    exact ⟨g4.1, by omega, by omega⟩, ea3 9 _ 0 _ hz ((hX2.mono cb4b).mono cb6b) ((hX4.mono cb4a).mono cb6b) (hX6.mono cb6a), Ca (Ca (Bi hD2) hD4 (Nat.le_refl _)) hD6 (Nat.le_refl _)|>.dis, _, (kd3 hK2 hK4 hK6), (by have hn := (CV (CV (B7 hN2) hN4 (Nat.le_refl _)) hN6 (Nat.le_refl _)); simpa only [List.append_assoc, List.nil_append, List.append_nil] using hn.dn)⟩
 by_cases q3 : BF t = bs [109, 97, 116, 99, 104]
 ·
  obtain ⟨k1, k2⟩ := hsg _ (by decide) q3
  have p3 := eq_true q3
  have hs1 := Bx hs k1
  have e : (s.i : Int) + 1 = ((s.i + 1 : Nat) : Int) := by omega
  simp +contextual -dsimp only [↓SD, SU, simprocAttr, rdB, Ab, Aa, e, q0, q1, q2, p3]
  refine ⟨by omega, ?_⟩
  refine Ao [2100, 2101] (Sy C s.i IH { s with i := s.i + 1 } hs1 (Nat.lt_succ_self _) d t.pos hd2 (sub nm 0)) (by first | (simp +contextual -dsimp only [↓SD, SU, simprocAttr, rdB]; done) | (simp +contextual -dsimp only [↓SD, SU, simprocAttr, rdB, Af]; done) | (simp +contextual -dsimp only [↓SD, SU, simprocAttr, rdB, Af]; done)) ?_
  rintro X2 hp' ⟨s2, T2, w2, rfl, hs2, hi2, hc2, hX2, hD2, N2, hK2, hN2⟩ H2 hH2
  dsimp only at hi2 hc2
  have hv2 := hX2.ev
  have hsm2 := hs2.small
  obtain ⟨⟨a2, b2, o2, u2'⟩, t2, k2⟩ := Bp hH2 hD2
  have u2 : Unf H2 := u2' (by repeat (first | exact Ae | exact Ae | refine AR ?_))
  simp +contextual -dsimp only [↓SD, SU, simprocAttr, rdB, Ab, Aa, EVB, Ax, Ae, Ah, a2, b2, o2, u2, hv2]
  refine Ai.post (rdB C s2 ++ (T2)) ?_
  simp +contextual -dsimp only [↓SD, SU, simprocAttr, rdB, Ab, Aa, EVB, Ax, Ae, Ah, a2, b2, o2, u2, hv2, AO]
  refine ⟨?_, ?_⟩
  ·exact (by repeat (first | exact t2 | refine Ag ?_ hD2.far (by decide)))
  exact ⟨s2, T2, w2, rfl, hs2, by omega, fun h => by
    have g0 := hc2 h
    exact ⟨g0.1, by omega, by omega⟩, hX2, Bi hD2|>.dis, _, hK2, (by have hn := (B7 hN2); simpa only [List.append_assoc, List.nil_append, List.append_nil] using hn.dn)⟩
 by_cases q4 : BF t = bs [116, 114, 121]
 ·
  obtain ⟨k1, k2⟩ := hsg _ (by decide) q4
  have p4 := eq_true q4
  have hs1 := Bx hs k1
  have e : (s.i : Int) + 1 = ((s.i + 1 : Nat) : Int) := by omega
  simp +contextual -dsimp only [↓SD, SU, simprocAttr, rdB, Ab, Aa, e, q0, q1, q2, q3, p4]
  refine ⟨by omega, ?_⟩
  refine ⟨by omega, ?_⟩
  refine Ao [2100, 2101] (IH { s with i := s.i + 1 } (d + 1) (sub nm 0) hs1 (by dsimp only; omega) (by omega)) (by first | (simp +contextual -dsimp only [↓SD, SU, simprocAttr, rdB]; done) | (simp +contextual -dsimp only [↓SD, SU, simprocAttr, rdB, Af]; done) | (simp +contextual -dsimp only [↓SD, SU, simprocAttr, rdB, Af]; done)) ?_
  rintro X2 hp' ⟨s2, T2, w2, rfl, hs2, hi2, hc2, hX2, hD2, N2, hK2, hN2⟩ H2 hH2
  dsimp only at hi2 hc2
  have hv2 := hX2.ev
  have hsm2 := hs2.small
  obtain ⟨⟨a2, b2, o2, u2'⟩, t2, k2⟩ := Bp hH2 hD2
  have u2 : Unf H2 := u2' (by repeat (first | exact Ae | exact Ae | refine AR ?_))
  simp +contextual -dsimp only [↓SD, SU, simprocAttr, rdB, Ab, Aa, EVB, Ax, Ae, Ah, a2, b2, o2, u2, hv2]
  intro bx2
  refine Ao [2100, 2101] (A8 C s2 hs2 (bs [119, 105, 116, 104]) (by decide)) (by first | (simp +contextual -dsimp only [↓SD, SU, simprocAttr, rdB]; done) | (simp +contextual -dsimp only [↓SD, SU, simprocAttr, rdB, Af]; done) | (simp +contextual -dsimp only [↓SD, SU, simprocAttr, rdB, a2, b2, o2, hv2, Af]; done)) ?_
  rintro r hp' ⟨s3, rfl, hs3, hi3, hc3, rfl, hp3⟩ H3 hH3
  obtain ⟨⟨a3, b3, o3, u3'⟩, k3⟩ := AX hH3
  have u3 : Unf H3 := u3' (by repeat (first | exact u2 | exact Ae | refine AR ?_))
  have t3_T2 := k3 T2 hD2.far (by repeat (first | exact t2 | refine Ag ?_ hD2.far (by decide)))
  simp +contextual -dsimp only [↓SD, SU, simprocAttr, rdB, Ab, Aa, EVB, Ax, Ae, Ah, o2, a3, b3, o3, u3, hv2]
  refine Ao [2100, 2101] (BX C s3 hs3 3 (by decide)) (by first | (simp +contextual -dsimp only [↓SD, SU, simprocAttr, rdB]; done) | (simp +contextual -dsimp only [↓SD, SU, simprocAttr, rdB, Af]; done) | (simp +contextual -dsimp only [↓SD, SU, simprocAttr, rdB, o2, a3, b3, o3, hv2, Af]; done)) ?_
  rintro r hp' ⟨s4, rfl, hs4, hi4, hc4, x4, rfl, hx4, hp4⟩ H4 hH4
  obtain ⟨⟨a4, b4, o4, u4'⟩, k4⟩ := AX hH4
  have u4 : Unf H4 := u4' (by repeat (first | exact u3 | exact Ae | refine AR ?_))
  have t4_T2 := k4 T2 hD2.far (by repeat (first | exact t3_T2 | refine Ag ?_ hD2.far (by decide)))
  simp +contextual -dsimp only [↓SD, SU, simprocAttr, rdB, Ab, Aa, EVB, Ax, Ae, Ah, o2, o3, a4, b4, o4, u4, hv2]
  refine Ao [2100, 2101] (A8 C s4 hs4 (bs [45, 62]) (by decide)) (by first | (simp +contextual -dsimp only [↓SD, SU, simprocAttr, rdB]; done) | (simp +contextual -dsimp only [↓SD, SU, simprocAttr, rdB, Af]; done) | (simp +contextual -dsimp only [↓SD, SU, simprocAttr, rdB, o2, o3, a4, b4, o4, hv2, Af]; done)) ?_
  rintro r hp' ⟨s5, rfl, hs5, hi5, hc5, rfl, hp5⟩ H5 hH5
  obtain ⟨⟨a5, b5, o5, u5'⟩, k5⟩ := AX hH5
  have u5 : Unf H5 := u5' (by repeat (first | exact u4 | exact Ae | refine AR ?_))
  have t5_T2 := k5 T2 hD2.far (by repeat (first | exact t4_T2 | refine Ag ?_ hD2.far (by decide)))
  simp +contextual -dsimp only [↓SD, SU, simprocAttr, rdB, Ab, Aa, EVB, Ax, Ae, Ah, o2, o3, o4, a5, b5, o5, u5, hv2]
  refine ⟨by omega, ?_⟩
  refine Ao [2100, 2101] (IH s5 (d + 1) (sub nm 1) hs5 (by omega) (by omega)) (by first | (simp +contextual -dsimp only [↓SD, SU, simprocAttr, rdB]; done) | (simp +contextual -dsimp only [↓SD, SU, simprocAttr, rdB, Af]; done) | (simp +contextual -dsimp only [↓SD, SU, simprocAttr, rdB, o2, o3, o4, a5, b5, o5, hv2, Af]; done)) ?_
  rintro X6 hp' ⟨s6, T6, w6, rfl, hs6, hi6, hc6, hX6, hD6, N6, hK6, hN6⟩ H6 hH6
  have hv6 := hX6.ev
  have hsm6 := hs6.small
  obtain ⟨⟨a6, b6, o6, u6'⟩, t6, k6⟩ := Bp hH6 hD6
  have u6 : Unf H6 := u6' (by repeat (first | exact u5 | exact Ae | refine AR ?_))
  have t6_T2 := k6 T2 hD2.far (BG hD6 hD2 (by decide)) (by repeat (first | exact t5_T2 | refine Ag ?_ hD2.far (by decide)))
  simp +contextual -dsimp only [↓SD, SU, simprocAttr, rdB, Ab, Aa, EVB, Ax, Ae, Ah, o2, o3, o4, o5, a6, b6, o6, u6, hv2, hv6]
  intro bx6
  refine Ao [2100, 2101] (A8 C s6 hs6 (bs [101, 110, 100]) (by decide)) (by first | (simp +contextual -dsimp only [↓SD, SU, simprocAttr, rdB]; done) | (simp +contextual -dsimp only [↓SD, SU, simprocAttr, rdB, Af]; done) | (simp +contextual -dsimp only [↓SD, SU, simprocAttr, rdB, o2, o3, o4, o5, a6, b6, o6, hv2, hv6, Af]; done)) ?_
  rintro r hp' ⟨s7, rfl, hs7, hi7, hc7, rfl, hp7⟩ H7 hH7
  obtain ⟨⟨a7, b7, o7, u7'⟩, k7⟩ := AX hH7
  have u7 : Unf H7 := u7' (by repeat (first | exact u6 | exact Ae | refine AR ?_))
  have t7_T2 := k7 T2 hD2.far (by repeat (first | exact t6_T2 | refine Ag ?_ hD2.far (by decide)))
  have t7_T6 := k7 T6 hD6.far (by repeat (first | exact t6 | refine Ag ?_ hD6.far (by decide)))
  simp +contextual -dsimp only [↓SD, SU, simprocAttr, rdB, Ab, Aa, EVB, Ax, Ae, Ah, o2, o3, o4, o5, o6, a7, b7, o7, u7, hv2, hv6]
  refine Ad [] (Bl (15) (t.pos) (x4) (.sl [X2, X6]) (.sl _)) (by simp +contextual -dsimp only [↓SD, SU, simprocAttr]) ?_
  rintro r hp' ⟨rfl, rfl⟩
  simp +contextual -dsimp only [↓SD, SU, simprocAttr, rdB, Ab, Aa, EVB, Ax, Ae, Ah, o2, o3, o4, o5, o6, a7, b7, o7, u7, hv2, hv6]
  obtain ⟨cb6a, cb6b⟩ := comb (Bi hD2) hD6 (Nat.le_refl _)
  refine Ai.post (rdB C s7 ++ (T6 ++ T2)) ?_
  simp +contextual -dsimp only [↓SD, SU, simprocAttr, rdB, Ab, Aa, EVB, Ax, Ae, Ah, o2, o3, o4, o5, o6, a7, b7, o7, u7, hv2, hv6, AO]
  refine ⟨⟨?_, ?_⟩, ?_⟩
  ·exact (by repeat (first | exact t7_T6 | refine Ag ?_ hD6.far (by decide)))
  ·exact (by repeat (first | exact t7_T2 | refine Ag ?_ hD2.far (by decide)))
  exact ⟨s7, T6 ++ T2, w2 + w6 + 1, rfl, hs7, by omega, fun h => by
    have g0 := hc7 h
    have g1 := hc6 g0
    have g2 := hc5 g1.1
    have g3 := hc4 g2
    have g4 := hc3 g3
    have g5 := hc2 g4
    exact ⟨g5.1, by omega, by omega⟩, ea2 15 _ 0 _ hx4 (hX2.mono cb6b) (hX6.mono cb6a), Ca (Bi hD2) hD6 (Nat.le_refl _)|>.dis, _, (kd2 hK2 hK6), (by have hn := (CV (B7 hN2) hN6 (Nat.le_refl _)); simpa only [List.append_assoc, List.nil_append, List.append_nil] using hn.dn)⟩
 simp +contextual -dsimp only [↓SD, SU, simprocAttr, rdB, Ab, Aa, q0, q1, q2, q3, q4]
 refine Ao [2100, 2101] (Yb C s.i IH s hs (Nat.le_refl _) d hd2 (sub nm 0)) (by first | (simp +contextual -dsimp only [↓SD, SU, simprocAttr, rdB]; done) | (simp +contextual -dsimp only [↓SD, SU, simprocAttr, rdB, Af]; done) | (simp +contextual -dsimp only [↓SD, SU, simprocAttr, rdB, Af]; done)) ?_
 rintro X81 hp' ⟨s81, T81, w81, rfl, hs81, hi81, hc81, hX81, hD81, N81, hK81, hN81⟩ H81 hH81
 have hv81 := hX81.ev
 have hsm81 := hs81.small
 obtain ⟨⟨a81, b81, o81, u81'⟩, t81, k81⟩ := Bp hH81 hD81
 have u81 : Unf H81 := u81' (by repeat (first | exact Ae | exact Ae | refine AR ?_))
 simp +contextual -dsimp only [↓SD, SU, simprocAttr, rdB, Ab, Aa, EVB, Ax, Ae, Ah, a81, b81, o81, u81, hv81]
 intro v22
 have CJ := BP C s81 hs81 (bs [59])
 by_cases hcm : BF (A6 C s81) = bs [59]
 ·
  obtain ⟨j1, j2⟩ := Bz hs81 (by decide) hcm
  have e2 : (s81.i : Int) + 1 = ((s81.i + 1 : Nat) : Int) := by omega
  have hs3 := Bx hs81 j1
  rw [decide_eq_true hcm] at CJ
  refine Ao [2100, 2101] (CJ) (by first | (simp +contextual -dsimp only [↓SD, SU, simprocAttr, rdB]; done) | (simp +contextual -dsimp only [↓SD, SU, simprocAttr, rdB, Af]; done) | (simp +contextual -dsimp only [↓SD, SU, simprocAttr, rdB, a81, b81, o81, hv81, Af]; done)) ?_
  rintro r hp' ⟨rfl, rfl⟩ H82 hH82
  obtain ⟨⟨a82, b82, o82, u82'⟩, k82⟩ := AX hH82
  have u82 : Unf H82 := u82' (by repeat (first | exact u81 | exact Ae | refine AR ?_))
  have t82_T81 := k82 T81 hD81.far (by repeat (first | exact t81 | refine Ag ?_ hD81.far (by decide)))
  simp +contextual -dsimp only [↓SD, SU, simprocAttr, rdB, Ab, Aa, EVB, Ax, Ae, Ah, o81, a82, b82, o82, u82, hv81]
  refine Ao [2100, 2101] (Be C s81 hs81) (by first | (simp +contextual -dsimp only [↓SD, SU, simprocAttr, rdB]; done) | (simp +contextual -dsimp only [↓SD, SU, simprocAttr, rdB, Af]; done) | (simp +contextual -dsimp only [↓SD, SU, simprocAttr, rdB, o81, a82, b82, o82, hv81, Af]; done)) ?_
  rintro r hp' ⟨rfl, rfl⟩ H83 hH83
  obtain ⟨⟨a83, b83, o83, u83'⟩, k83⟩ := AX hH83
  have u83 : Unf H83 := u83' (by repeat (first | exact u82 | exact Ae | refine AR ?_))
  have t83_T81 := k83 T81 hD81.far (by repeat (first | exact t82_T81 | refine Ag ?_ hD81.far (by decide)))
  generalize A6 C s81 = u at *
  simp +contextual -dsimp only [↓SD, SU, simprocAttr, rdB, Ab, Aa, EVB, Ax, Ae, Ah, o81, o82, a83, b83, o83, u83, hv81, AY, e2]
  refine ⟨by omega, by omega, ?_⟩
  refine Ao [2100, 2101] (IH { s81 with i := s81.i + 1 } (d + 1) (sub nm 1) hs3 (by dsimp only; omega) (by omega)) (by first | (simp +contextual -dsimp only [↓SD, SU, simprocAttr, rdB]; done) | (simp +contextual -dsimp only [↓SD, SU, simprocAttr, rdB, Af]; done) | (simp +contextual -dsimp only [↓SD, SU, simprocAttr, rdB, o81, o82, a83, b83, o83, hv81, e2, Af]; done)) ?_
  rintro X84 hp' ⟨s84, T84, w84, rfl, hs84, hi84, hc84, hX84, hD84, N84, hK84, hN84⟩ H84 hH84
  dsimp only at hi84 hc84
  have hv84 := hX84.ev
  have hsm84 := hs84.small
  obtain ⟨⟨a84, b84, o84, u84'⟩, t84, k84⟩ := Bp hH84 hD84
  have u84 : Unf H84 := u84' (by repeat (first | exact u83 | exact Ae | refine AR ?_))
  have t84_T81 := k84 T81 hD81.far (BG hD84 hD81 (by decide)) (by repeat (first | exact t83_T81 | refine Ag ?_ hD81.far (by decide)))
  simp +contextual -dsimp only [↓SD, SU, simprocAttr, rdB, Ab, Aa, EVB, Ax, Ae, Ah, o81, o82, o83, a84, b84, o84, u84, hv81, hv84]
  intro v24
  refine Ad [] (Bl (19) (u.pos) (bs []) (.sl [X81, X84]) (.sl _)) (by simp +contextual -dsimp only [↓SD, SU, simprocAttr]) ?_
  rintro r hp' ⟨rfl, rfl⟩
  simp +contextual -dsimp only [↓SD, SU, simprocAttr, rdB, Ab, Aa, EVB, Ax, Ae, Ah, o81, o82, o83, a84, b84, o84, u84, hv81, hv84]
  obtain ⟨cb84a, cb84b⟩ := comb (Bi hD81) hD84 (Nat.le_refl _)
  refine Ai.post (rdB C s84 ++ (T84 ++ T81)) ?_
  simp +contextual -dsimp only [↓SD, SU, simprocAttr, rdB, Ab, Aa, EVB, Ax, Ae, Ah, o81, o82, o83, a84, b84, o84, u84, hv81, hv84, AO]
  refine ⟨⟨?_, ?_⟩, ?_⟩
  ·exact (by repeat (first | exact t84 | refine Ag ?_ hD84.far (by decide)))
  ·exact (by repeat (first | exact t84_T81 | refine Ag ?_ hD81.far (by decide)))
  exact ⟨s84, T84 ++ T81, w81 + w84 + 1, rfl, hs84, by omega, fun h => by
    have g0 := hc84 h
    have g1 := hc81 g0.1
    exact ⟨g1.1, by omega, by omega⟩, ea2 19 _ 0 _ hz (hX81.mono cb84b) (hX84.mono cb84a), Ca (Bi hD81) hD84 (Nat.le_refl _)|>.dis, _, (kd2 hK81 hK84), (by have hn := (CV (B7 hN81) hN84 (Nat.le_refl _)); simpa only [List.append_assoc, List.nil_append, List.append_nil] using hn.dn)⟩
 rw [decide_eq_false hcm] at CJ
 refine Ao [2100, 2101] (CJ) (by first | (simp +contextual -dsimp only [↓SD, SU, simprocAttr, rdB]; done) | (simp +contextual -dsimp only [↓SD, SU, simprocAttr, rdB, Af]; done) | (simp +contextual -dsimp only [↓SD, SU, simprocAttr, rdB, a81, b81, o81, hv81, Af]; done)) ?_
 rintro r hp' ⟨rfl, rfl⟩ H121 hH121
 obtain ⟨⟨a121, b121, o121, u121'⟩, k121⟩ := AX hH121
 have u121 : Unf H121 := u121' (by repeat (first | exact u81 | exact Ae | refine AR ?_))
 have t121_T81 := k121 T81 hD81.far (by repeat (first | exact t81 | refine Ag ?_ hD81.far (by decide)))
 simp +contextual -dsimp only [↓SD, SU, simprocAttr, rdB, Ab, Aa, EVB, Ax, Ae, Ah, o81, a121, b121, o121, u121, hv81]
 refine Ai.post (rdB C s81 ++ (T81)) ?_
 simp +contextual -dsimp only [↓SD, SU, simprocAttr, rdB, Ab, Aa, EVB, Ax, Ae, Ah, o81, a121, b121, o121, u121, hv81, AO]
 refine ⟨?_, ?_⟩
 ·exact (by repeat (first | exact t121_T81 | refine Ag ?_ hD81.far (by decide)))
 exact ⟨s81, T81, w81, rfl, hs81, by omega, fun h => by
   have g0 := hc81 h
   exact ⟨g0.1, by omega, by omega⟩, hX81, Bi hD81|>.dis, _, hK81, (by have hn := (B7 hN81); simpa only [List.append_assoc, List.nil_append, List.append_nil] using hn.dn)⟩
theorem U3 (C : RC) (s : RS) (hs : Bm C s) (d : Int) (hd : 0 ≤ d ∧ d ≤ 200) (nm : Nat) : ExC C 81 [.int .i64 d] s nm := SA C _ s hs rfl d hd nm
end Go.Proofs.YtoffpbehgncakaaGreat
