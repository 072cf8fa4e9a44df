/-
 A match TAKEN BY THE REFERENCE'S READER, told weakly. Conditions: none. Printed by gen/reade.py.
-/
import Derived.Test.YteeiaaogmjbcjaaGreatUReadE
import Derived.Test.YteeiaaogmjbcjaaGreatUJ33
set_option linter.unusedVariables false
set_option linter.unusedSimpArgs false
set_option maxRecDepth 100000
namespace Go.Proofs.YteeiaaogmjbcjaaGreat
open Go.RowKit Go.Proofs.YteeiaaogmjbcjaaGreat.Av Go.Proofs.YteeiaaogmjbcjaaGreat.Ml
open Go.Proofs.YteeiaaogmjbcjaaGreat.Av.AVal (av)
open OVal (ov oh on)

theorem AaZ {H0 H hp' : Hp} {nm : Nat} (hH : H = hp' ++ BS [] H0) (D : F7 nm hp') : (∀ q, q < 10000 → Aw H q = Aw H0 q) ∧ Bf H hp' ∧ (∀ T, (∀ p ∈ T, ∀ q ∈ hp', q.1 ≠ p.1) → Bf H0 T → Bf H T) ∧ (Unf H0 → Unf H) := by
 subst hH
 rw [Af]
 refine ⟨fun q hq => BV fun p hp => by have := D.far p hp; omega, Eu D.2.1, fun T ha h => AM.2 fun p hp => ?_, fun hu => IX D.2.2 hu⟩
 rw [BV (ha p hp)]
 exact AM.1 h p hp
theorem Abg {m : Nat} {T : Hp} {a b : Nat} {l : List AV} {X : AV} (h : EAs m T a l) (hX : EA m T b X) : EAs m T (a + b) (l ++ [X]) := by
 induction l generalizing a with
 | nil =>
  cases h
  have := EAs.cons b 0 X [] hX .nil
  rw [Nat.zero_add]; exact this
 | cons x l ih =>
  cases h with
  | cons c d _ _ h1 h2 => rw [Nat.add_assoc]; exact .cons c (d + b) x (l ++ [X]) h1 (ih h2)
theorem WZ {m w : Nat} {T : Hp} {l : List AV} (h : EAs m T w l) : ∀ hp, Unf hp → l.map (AV.pur hp) = l := fun hp hu => by
 induction l generalizing w with
 | nil => rfl
 | cons x l ih =>
  cases h with
  | cons a b _ _ h1 h2 => rw [List.map_cons, h1.ev.pur hp hu, ih h2]
theorem S6 {m w : Nat} {T T' : Hp} {l : List AV} (h : EAs m T w l) (hT : Bf T' T) : EAs m T' w l := (W0 hT w w (Nat.le_refl _)).2 l h
theorem AbM {l : List AV} (h : l ≠ []) : slN l = .sl l := by cases l with | nil => exact absurd rfl h | cons a r => rfl
def MtI (C : RC) (s : RS) (nm : Nat) (q : RS) (l : List Pat) (T : Hp) (n w : Nat) (es : List AV) : Prop :=
 s.i ≤ q.i ∧ (q.code = 0 → s.code = 0 ∧ s.i < q.i ∧ w + 3 * s.i + 2 ≤ 3 * q.i ∧ l.length + s.i ≤ q.i) ∧ l.length + s.i ≤ q.i + 1 ∧ (∀ x ∈ l, QOk C.m x) ∧ EAs C.m T w es ∧ es.length = l.length + 1 ∧ Lc (sub nm 1) n T
theorem Zy {C : RC} {s q s9 : RS} {nm : Nat} {l : List Pat} {vs : Nat → Nat} {T : Hp} {n w : Nat} {es : List AV} (hI : MtI C s nm q l T n w es) (hq : Bc C q) (hsi : 1 ≤ s.i) (hs9 : Bc C s9) (hi9 : q.i ≤ s9.i) (hc9 : s9.code = 0 → q.code = 0) (pos : Int) :
  ExP C s nm (.agg [.int .i64 13, .int .i64 pos, .int .i64 0, .str (bs []), .Au, .row (sub nm 0) (vs (sub nm 0)) l.length, .sl es]) (rdB C s9 ++ (oh (sub nm 0) vs l ++ T)) := by
 obtain ⟨h1, h2, h3, h4, h5, h6, h7⟩ := hI
 have hz : (bs []).size ≤ C.m := Nat.zero_le _
 have hP := ML nm 0 vs l
 have hT := h7.dis
 have hap := BB hP hT (by decide)
 have hle := Fz hP.2.1 hT.2.1 hap
 have hsm := hq.1.1
 have hql := hq.2.1
 rw [← AbM (fun h => by rw [h] at h6; simp at h6 : es ≠ [])]
 refine ⟨s9, oh (sub nm 0) vs l ++ T, w + 1, rfl, hs9, by omega, fun h => ?_, .mk 13 pos 0 _ _ es w hz (.inr ⟨sub nm 0, vs, l, rfl, BQ nm 0, Eu hP.2.1, by omega, h4⟩) (S6 h5 (AK.1 hle).2), ⟨fun p hp => ?_, hle, IX hP.2.2 hT.2.2⟩⟩
 ·have g := h2 (hc9 h)
  exact ⟨g.1, by omega, by omega⟩
 ·rcases List.mem_append.1 hp with h | h
  ·exact (Ew hP).1 p h
  ·exact (Ew hT).1 p h
theorem Kq {hp T : Hp} {k : Nat} {b : Box} (h : Bf hp T) (hk : ∀ p ∈ T, p.1 ≠ k) : Bf ((k, b) :: hp) T := AM.2 fun p hp' => by rw [A4 (fun e => hk p hp' e.symm)]; exact AM.1 h p hp'
theorem Ny {nm i j : Nat} {T : Hp} (h : F7 (sub nm i) T) (hij : i ≠ j) : ∀ p ∈ T, p.1 ≠ sub nm j := fun p hp e => hij ((h.1 p hp).2.sib (e ▸ .root))
theorem Y0 {C : RC} {s : RS} (hs : Bc C s) (z : Nat) : Bc C { s with seen := [], sv := z } := by
 obtain ⟨g0, g1, g2, g3, g4, g5, g6⟩ := hs
 exact ⟨g0, g1, g2, g3, g4, Nat.zero_le _, fun x hx => (by cases hx)⟩
theorem AbY {A : Nat} {vs : Nat → Nat} {l : List Pat} {T : Hp} (D : F7 (sub (sub A l.length) 0) T) : ∀ p ∈ oh A vs l, ∀ q ∈ T, q.1 ≠ p.1 := fun p hp q hq e => by
 have h1 := ((D.1 q hq).2).up
 rw [e] at h1
 rw [I3] at hp
 rcases List.mem_append.1 hp with h | h
 ·obtain ⟨j, hj, h2⟩ := I4 h
  have := (OVal.inh h2).sib h1
  omega
 ·rw [List.mem_singleton] at h
  subst h
  exact h1.ne rfl
theorem XN {A vA : Nat} {vs vs' : Nat → Nat} {l : List Pat} {F : List A0} {HA : Hp} (h1 : Bf HA (oh A vs l)) (h2 : Bf HA (oh (sub (sub A l.length) 0) vs' F)) :
  ∃ vs6, Bf ((A, ⟨vA, false, 25, 1, ovL A vs 0 l ++ [.agg [.row (sub (sub A l.length) 0) (vs' (sub (sub A l.length) 0)) F.length]]⟩) :: HA) (oh A vs6 (l ++ [⟨F⟩])) ∧ vs6 A = vA := by
 rw [I3, AK] at h1
 exact Zh (q := ⟨F⟩) (Kq h1.1 (fun p hp => by obtain ⟨j, _, h⟩ := Cs hp; exact h.ne)) (by rw [AbZ]; exact Kq h2 (fun p hp => (OVal.inh hp).up.ne)) Cm
theorem Ab0 {C : RC} {s q : RS} {nm : Nat} {l : List Pat} {T : Hp} {n w : Nat} {es : List AV} (h : MtI C s nm q l T n w es) : MtI C s nm { q with i := q.i + 1 } l T n w es := by
 obtain ⟨h1, h2, h3, h4⟩ := h
 exact ⟨by show s.i ≤ q.i + 1; omega, fun h => (by have g := h2 h; exact ⟨g.1, by show s.i < q.i + 1; omega, by show w + 3 * s.i + 2 ≤ 3 * (q.i + 1); omega, by show l.length + s.i ≤ q.i + 1; omega⟩), by show l.length + s.i ≤ q.i + 1 + 1; omega, h4⟩
theorem AaW (t : Px) (hp : Hp) : AV.agg (List.map (AV.Bs hp) (List.take 5 (psA t).cells)) = psA t := by
 cases t with | mk n ks => 
  rw [Ds]
  show AV.agg [_, _, _, _, AV.Bs hp (slN (ks.map psA))] = _
  rw [DY]; rfl
structure MtS where
 s : RS
 l : List Pat
 vs : Nat → Nat
 T : Hp
 n : Nat
 w : Nat
 es : List AV
 v : Nat
set_option maxHeartbeats 4000000 in
theorem Ss (C : RC) (b : Nat) (IH : ∀ s1 d nm, Bc C s1 → b < s1.i → 0 ≤ d ∧ d ≤ 200 → ExC C 114 [.int .i64 d] s1 nm) (s : RS) (hs : Bc C s) (hbi : b < s.i) (d pos : Int) (hd : 0 ≤ d ∧ d ≤ 100) (nm : Nat) : ExC C 144 [.int .i64 d, .int .i64 pos] s nm := by
 have hsm := hs.small
 have hz : (bs []).size ≤ C.m := Nat.zero_le _
 unfold ExC
 refine GN.H rfl ?_
 simp +contextual -dsimp only [↓SD, SU, simprocAttr, rdB, Ab, Aa, GN]
 intro v6
 refine ⟨by omega, ?_⟩
 refine Ak [2100, 2101] (IH s (d + 1) (sub (sub nm 1) 0) hs hbi (by omega)) (by first | (simp +contextual -dsimp only [↓SD, SU, simprocAttr, rdB]; done) | (simp +contextual -dsimp only [↓SD, SU, simprocAttr, rdB, Ae]; done) | (simp +contextual -dsimp only [↓SD, SU, simprocAttr, rdB, Ae]; done)) ?_
 rintro X1 hp' ⟨s1, T1, w1, rfl, hs1, hi1, hc1, hX1, hD1⟩ H1 hH1
 have hv1 := hX1.ev
 have hsm1 := hs1.small
 obtain ⟨⟨a1, b1, o1, u1'⟩, t1, k1⟩ := Be hH1 hD1
 have u1 : Unf H1 := u1' (by repeat (first | exact Ad | exact Ad | refine AO ?_))
 simp +contextual -dsimp only [↓SD, SU, simprocAttr, rdB, Ab, Aa, EVB, Ax, Ad, Af, a1, b1, o1, u1, hv1]
 intro v15
 refine Ac [] (A7 (13) (pos) (bs []) (.row 91 v15 1) (.row _ _ _)) (by simp +contextual -dsimp only [↓SD, SU, simprocAttr]) ?_
 rintro r hp' ⟨rfl, rfl⟩
 simp +contextual -dsimp only [↓SD, SU, simprocAttr, rdB, Ab, Aa, EVB, Ax, Ad, Af, a1, b1, o1, u1, hv1]
 intro v7
 refine Ak [2100, 2101] (AY C s1 hs1 (bs [119, 105, 116, 104]) (by decide)) (by first | (simp +contextual -dsimp only [↓SD, SU, simprocAttr, rdB]; done) | (simp +contextual -dsimp only [↓SD, SU, simprocAttr, rdB, Ae]; done) | (simp +contextual -dsimp only [↓SD, SU, simprocAttr, rdB, a1, b1, o1, hv1, Ae]; done)) ?_
 rintro r hp' ⟨s2, rfl, hs2, hi2, hc2, rfl, hp2⟩ H2 hH2
 obtain ⟨⟨a2, b2, o2, u2'⟩, k2⟩ := AP hH2
 have u2 : Unf H2 := u2' (by repeat (first | exact u1 | exact Ad | refine AO ?_))
 have t2_T1 := k2 T1 hD1.far (by repeat (first | exact t1 | refine Ah ?_ hD1.far (by decide)))
 have hAn : ∀ q, q < 10000 → (q == sub nm 0) = false := fun q hq => Dk hq
 have hAm : ∀ q, q < 10000 → (sub nm 0 == q) = false := fun q hq => beq_eq_false_iff_ne.2 (by have := BQ nm 0; omega)
 refine Cu (X := MtS) (fun q => ⟨[(0, .ptr 2100 C.v 0 0), (1, .int .i64 d), (6, .ptr 6 v6 0 0), (7, .ptr 7 v7 0 0)], (7, ⟨v7, false, 181, 7, [.agg [.int .i64 13, .int .i64 pos, .int .i64 0, .str (bs []), .Au, .row (sub nm 0) (q.vs (sub nm 0)) q.l.length, .row 91 q.v q.es.length]]⟩) :: (91, ⟨q.v, false, 181, 7, q.es⟩) :: (6, ⟨v6, false, 181, 7, [.agg [.int .i64 0, .int .i64 0, .int .i64 0, .str (bs []), .Au, .Au, .Au]]⟩) :: (rdB C q.s ++ (oh (sub nm 0) q.vs q.l ++ q.T))⟩) (fun q => Bc C q.s ∧ MtI C s nm q.s q.l q.T q.n q.w q.es) (fun q => C.L.length - q.s.i) ?_ ?_
 ·refine Ai.EB 7 0 5 (sub nm 0) 25 1 (b := ⟨v7, false, 181, 7, [.agg [.int .i64 13, .int .i64 pos, .int .i64 0, .str (bs []), .Au, .Au, .row 91 v15 1]]⟩) (by simp +contextual -dsimp only [↓SD, SU, simprocAttr, EVB, Ax, Ad, Af, o1, a2, b2, o2, hv1]) rfl Nat.zero_lt_one rfl (by have := BQ nm 0; omega) fun z => ?_
  have hI0 : MtI C s nm s2 [] T1 1 w1 [X1] := ⟨by omega, fun h => (by have g := hc1 (hc2 h); refine ⟨g.1, by omega, by omega, ?_⟩; show 0 + s.i ≤ s2.i; omega), (by show 0 + s.i ≤ s2.i + 1; omega), fun x hx => (by cases hx), (by have := EAs.cons w1 0 X1 [] hX1 .nil; exact this), rfl, A6 hD1⟩
  refine Ai.le ⟨⟨s2, [], fun _ => z, T1, 1, w1, [X1], v15⟩, ⟨hs2, hI0⟩, rfl⟩ (by simp +contextual -dsimp only [↓SD, SU, simprocAttr]) ?_
  have ho : oh (sub nm 0) (fun _ => z) ([] : List Pat) = [(sub nm 0, ⟨z, false, 25, 1, []⟩)] := rfl
  simp +contextual -dsimp only [↓SD, SU, simprocAttr, rdB, AK, ho, List.length_nil, hAn, hAm, EVB, Ax, Ad, Af, o1, a2, b2, o2, hv1]
  exact Kq (Ah t2_T1 hD1.far (by decide)) (Ny (Ew hD1) (by decide))
 rintro ⟨s5, l5, vs5, T5, n5, w5, es5, v5⟩ ⟨hs5, hI⟩
 dsimp only at hs5 hI ⊢
 have hsm5 := hs5.small
 obtain ⟨hI1, hI2, hI3, hI4, hI5, hI6, hD5⟩ := id hI
 have hpues5 := WZ hI5
 have hDP := ML nm 0 vs5 l5
 have hrootP5 : ∀ H, Bf H (oh (sub nm 0) vs5 l5) → Aw H (sub nm 0) = some ⟨vs5 (sub nm 0), false, 25, 1, ovL (sub nm 0) vs5 0 l5⟩ := fun H h => Fy h
 have hap5 := BB hDP hD5.dis (by decide)
 obtain ⟨P5, hP5⟩ : ∃ P5, P5 = oh (sub nm 0) vs5 l5 := ⟨_, rfl⟩
 rw [← hP5] at hDP hrootP5 hap5 ⊢
 have hb1 : Bf (P5 ++ T5) P5 := Eu hDP.2.1
 have hb2 : Bf (P5 ++ T5) T5 := (AK.1 (Fz hDP.2.1 hD5.2.1 hap5)).2
 have hU5 : Unf (P5 ++ T5) := IX hDP.2.2 hD5.2.2
 by_cases c0 : s5.code = 0
 case' neg =>
  have e0 := eq_false c0
  simp +contextual -dsimp only [↓SD, SU, simprocAttr, rdB, Ab, Aa, EVB, Ax, Ad, Af, hU5, e0]
  refine Ak [2100, 2101] (AY C s5 hs5 (bs [101, 110, 100]) (by decide)) (by first | (simp +contextual -dsimp only [↓SD, SU, simprocAttr, rdB]; done) | (simp +contextual -dsimp only [↓SD, SU, simprocAttr, rdB, Ae]; done) | (simp +contextual -dsimp only [↓SD, SU, simprocAttr, rdB, Ae]; done)) ?_
  rintro r hp' ⟨s99, rfl, hs99, hi99, hc99, rfl, hp99⟩ H6 hH6
  obtain ⟨⟨a6, b6, o6, u6'⟩, k6⟩ := AP hH6
  have u6 : Unf H6 := u6' (by repeat (first | exact hU5 | exact Ad | refine AO ?_))
  have t6_P5 := k6 P5 hDP.far (by repeat (first | exact hb1 | refine Ah ?_ hDP.far (by decide)))
  have t6_T5 := k6 T5 hD5.far (by repeat (first | exact hb2 | refine Ah ?_ hD5.far (by decide)))
  have hr6 := hrootP5 _ t6_P5
  simp +contextual -dsimp only [↓SD, SU, simprocAttr, rdB, Ab, Aa, EVB, Ax, Ad, Af, a6, b6, o6, u6, hr6, hAn, hAm]
  refine Ai.frz 91 (Ai.post (rdB C s99 ++ (P5 ++ T5)) ?_)
  simp +contextual -dsimp only [↓SD, SU, simprocAttr, rdB, Ab, Aa, EVB, Ax, Ad, Af, a6, b6, o6, u6, hr6, hAn, hAm, AK, hpues5, false_and, if_false, List.take_length]
  refine ⟨⟨(by repeat (first | exact t6_P5 | refine Ah ?_ hDP.far (by decide))), (by repeat (first | exact t6_T5 | refine Ah ?_ hD5.far (by decide)))⟩, ?_⟩
  have hfin := Zy (vs := vs5) hI hs5 (by omega) hs99 hi99 hc99 pos
  rw [← hP5] at hfin
  exact hfin
 case' pos =>
  have e0 := eq_true c0
  obtain ⟨q1, q2, q3, q4⟩ := hI2 c0
  simp +contextual -dsimp only [↓SD, SU, simprocAttr, rdB, Ab, Aa, EVB, Ax, Ad, Af, hU5, e0]
  refine BM (Ai.EB 2100 0 6 2101 9 1 (b := ⟨C.v, false, 173, 7, [.agg [.sl (C.L.map av), .int .i64 s5.i, .int .i64 C.E, .int .i64 s5.code, .int .i64 s5.pos, .sl (s5.vars.map av), .Au]]⟩) rfl rfl Nat.zero_lt_one rfl (by decide) fun z => Ai.here ?_)
  have hsz := Y0 hs5 z
  have CP := (UM C _ _ hsz rfl 0 (by decide)).1
  unfold T7 at CP
  simp +contextual -dsimp only [↓SD, SU, simprocAttr, rdB, Ab, Aa, EVB, Ax, Ad, Af, hU5]
  refine Ak [2100, 2101] (CP) (by first | (simp +contextual -dsimp only [↓SD, SU, simprocAttr, rdB]; done) | (simp +contextual -dsimp only [↓SD, SU, simprocAttr, rdB, Ae]; done) | (simp +contextual -dsimp only [↓SD, SU, simprocAttr, rdB, Ae]; done)) ?_
  rintro r hp' ⟨s6, rfl, hs6, hi6, hc6, e, rfl, hew, hen⟩ H7 hH7
  obtain ⟨⟨a7, b7, o7, u7'⟩, k7⟩ := AP hH7
  have u7 : Unf H7 := u7' (by repeat (first | exact hU5 | exact Ad | refine AO ?_))
  have t7_P5 := k7 P5 hDP.far (by repeat (first | exact hb1 | refine Ah ?_ hDP.far (by decide)))
  have t7_T5 := k7 T5 hD5.far (by repeat (first | exact hb2 | refine Ah ?_ hD5.far (by decide)))
  dsimp only at hi6 hc6 hen
  have hsm6 := hs6.small
  simp +contextual -dsimp only [↓SD, SU, simprocAttr, rdB, Ab, Aa, EVB, Ax, Ad, Af, a7, b7, o7, u7, CZ, EY, CX, Cz]
  intro v8
  refine Ak [2100, 2101] (AY C s6 hs6 (bs [45, 62]) (by decide)) (by first | (simp +contextual -dsimp only [↓SD, SU, simprocAttr, rdB]; done) | (simp +contextual -dsimp only [↓SD, SU, simprocAttr, rdB, Ae]; done) | (simp +contextual -dsimp only [↓SD, SU, simprocAttr, rdB, a7, b7, o7, Ae]; done)) ?_
  rintro r hp' ⟨s7, rfl, hs7, hi7, hc7, rfl, hp7⟩ H8 hH8
  obtain ⟨⟨a8, b8, o8, u8'⟩, k8⟩ := AP hH8
  have u8 : Unf H8 := u8' (by repeat (first | exact u7 | exact Ad | refine AO ?_))
  have t8_P5 := k8 P5 hDP.far (by repeat (first | exact t7_P5 | refine Ah ?_ hDP.far (by decide)))
  have t8_T5 := k8 T5 hD5.far (by repeat (first | exact t7_T5 | refine Ah ?_ hD5.far (by decide)))
  simp +contextual -dsimp only [↓SD, SU, simprocAttr, rdB, Ab, Aa, EVB, Ax, Ad, Af, o7, a8, b8, o8, u8]
  refine ⟨by omega, ?_⟩
  refine Ak [2100, 2101] (IH s7 (d + 1) (sub (sub nm 1) n5) hs7 (by omega) (by omega)) (by first | (simp +contextual -dsimp only [↓SD, SU, simprocAttr, rdB]; done) | (simp +contextual -dsimp only [↓SD, SU, simprocAttr, rdB, Ae]; done) | (simp +contextual -dsimp only [↓SD, SU, simprocAttr, rdB, o7, a8, b8, o8, Ae]; done)) ?_
  rintro X9 hp' ⟨s9, T9, w9, rfl, hs9, hi9, hc9, hX9, hD9⟩ H9 hH9
  have hv9 := hX9.ev
  have hsm9 := hs9.small
  obtain ⟨⟨a9, b9, o9, u9'⟩, t9, k9⟩ := Be hH9 hD9
  have u9 : Unf H9 := u9' (by repeat (first | exact u8 | exact Ad | refine AO ?_))
  have t9_P5 := k9 P5 hDP.far (BB (Ew hD9) hDP (by decide)) (by repeat (first | exact t8_P5 | refine Ah ?_ hDP.far (by decide)))
  have t9_T5 := k9 T5 hD5.far (ET hD5 hD9 (Nat.le_refl _)) (by repeat (first | exact t8_T5 | refine Ah ?_ hD5.far (by decide)))
  simp +contextual -dsimp only [↓SD, SU, simprocAttr, rdB, Ab, Aa, EVB, Ax, Ad, Af, o7, o8, a9, b9, o9, u9, hv9]
  intro v9
  simp +contextual -dsimp only [↓SD, SU, simprocAttr, rdB, Ab, Aa, EVB, Ax, Ad, Af, o7, o8, a9, b9, o9, u9, hv9, CZ, EY, CX, Cz, AaW]
  refine ⟨?_, ?_⟩
  all_goals
   have CPL := Ly (sub (sub (sub nm 0) l5.length) 0) e (by omega)
   unfold AcM at CPL
   have hKr := fun (H : Hp) (vs' : Nat → Nat) (h : Bf H (oh (sub (sub (sub nm 0) l5.length) 0) vs' (A2 0 e))) => Fy h
   refine Ak [] CPL rfl ?_
   rintro r hp' ⟨vs', rfl, hvs⟩ HA hHA
   have D10 := ML (sub (sub nm 0) l5.length) 0 vs' (A2 0 e)
   rw [← hvs] at D10
   have D10' := Ew (Ew D10)
   obtain ⟨lw, pH, pk, pu⟩ := AaZ hHA D10
   have hap10 := AbY (vs := vs5) D10
   rw [← hP5] at hap10
   have tA_P5 := pk P5 hap10 (by repeat (first | exact t9_P5 | refine Ah ?_ hDP.far (by decide)))
   have tA_T5 := pk T5 (BB D10' hD5.dis (by decide)) (by repeat (first | exact t9_T5 | refine Ah ?_ hD5.far (by decide)))
   have tA_T9 := pk T9 (BB D10' (Ew hD9) (by decide)) (by repeat (first | exact t9 | refine Ah ?_ hD9.far (by decide)))
   have uA := pu (by repeat (first | exact u9 | exact Ad | refine AO ?_))
   have hK10 := hKr HA vs' (hvs ▸ pH)
   have hrA := hrootP5 HA tA_P5
   have hEl : (ovL (sub nm 0) vs5 0 l5).length = l5.length := by rw [Dv]
   have hEt : List.take l5.length (ovL (sub nm 0) vs5 0 l5) = ovL (sub nm 0) vs5 0 l5 := List.take_of_length_le (by rw [hEl]; exact Nat.le_refl _)
   generalize hEL : ovL (sub nm 0) vs5 0 l5 = EL at *
   simp +contextual -dsimp only [↓SD, SU, simprocAttr, rdB, Ab, Aa, EVB, Ax, Ad, Af, o7, o8, a9, b9, o9, uA, hv9, lw, hrA, hK10, hAn, hAm, hEl, hEt, false_and, if_false, List.take_length]
   refine ⟨⟨by omega, by unfold maxLen; omega⟩, fun vA => ⟨⟨by omega, by unfold maxLen; omega⟩, fun vB => ?_⟩⟩
   obtain ⟨vs6, tP6, hv6⟩ := XN (vA := vA) (hP5 ▸ tA_P5) (hvs ▸ pH)
   rw [hEL] at tP6
   obtain ⟨HB, hHB⟩ : ∃ HB : Hp, HB = (sub nm 0, ⟨vA, false, 25, 1, EL ++ [.agg [.row (sub (sub (sub nm 0) l5.length) 0) (vs' (sub (sub (sub nm 0) l5.length) 0)) (A2 0 e).length]]⟩) :: HA := ⟨_, rfl⟩
   rw [← hHB] at tP6 ⊢
   have hDP6 := ML nm 0 vs6 (l5 ++ [⟨A2 0 e⟩])
   have hrootP6 : ∀ H, Bf H (oh (sub nm 0) vs6 (l5 ++ [⟨A2 0 e⟩])) → Aw H (sub nm 0) = some ⟨vA, false, 25, 1, ovL (sub nm 0) vs6 0 (l5 ++ [⟨A2 0 e⟩])⟩ := fun H h => hv6 ▸ Fy h
   have lwB : ∀ q, q < 10000 → Aw HB q = Aw HA q := fun q hq => by rw [hHB, A4 (by have := BQ nm 0; omega)]
   have tB_T5 : Bf HB T5 := hHB ▸ Kq tA_T5 (Ny hD5.dis (by decide))
   have tB_T9 : Bf HB T9 := hHB ▸ Kq tA_T9 (Ny (Ew hD9) (by decide))
   have uB : Unf HB := hHB ▸ AO uA
   obtain ⟨cb1, cb2⟩ := comb hD5 hD9 (Nat.le_refl _)
   have hlen6 : (l5 ++ [(⟨A2 0 e⟩ : Pat)]).length = l5.length + 1 := by simp
   have hesn : (es5 ++ [X9]).length = es5.length + 1 := by simp
   have hJ : MtI C s nm s9 (l5 ++ [⟨A2 0 e⟩]) (T9 ++ T5) (n5 + 1) (w5 + w9) (es5 ++ [X9]) := by
    have b1 := hs6.2.1
    have b2 := hs6.1.1
    refine ⟨by omega, fun h => ?_, by rw [hlen6]; omega, fun x hx => ?_, Abg (S6 hI5 cb2) (hX9.mono cb1), by rw [hesn, hlen6, hI6], B3 hD5 hD9 (Nat.le_refl _)⟩
    ·have g := hc9 h
     refine ⟨q1, by omega, by omega, ?_⟩
     rw [hlen6]; omega
    ·rcases List.mem_append.1 hx with hx | hx
     ·exact hI4 x hx
     ·rw [List.mem_singleton] at hx
      subst hx
      exact ⟨e, rfl, hew, by omega⟩
   have hpuE := WZ hJ.2.2.2.2.1
   have CK := BG C s9 hs9 (bs [124])
   obtain ⟨E6, hE6⟩ : ∃ E6, E6 = es5 ++ [X9] := ⟨_, rfl⟩
   rw [← hE6] at hJ hesn hpuE ⊢
   obtain ⟨l6, hl6⟩ : ∃ l6, l6 = l5 ++ [(⟨A2 0 e⟩ : Pat)] := ⟨_, rfl⟩
   rw [← hl6] at hJ hlen6 tP6 hDP6 hrootP6
   obtain ⟨P6, hP6⟩ : ∃ P6, P6 = oh (sub nm 0) vs6 l6 := ⟨_, rfl⟩
   rw [← hP6] at tP6 hDP6 hrootP6
   have hest : List.take (es5.length + 1) E6 = E6 := List.take_of_length_le (by rw [hesn]; exact Nat.le_refl _)
   by_cases hbar : Bv (AX C s9) = bs [124]
   ·obtain ⟨j1, j2⟩ := Bm hs9 (by decide) hbar
    have e2 : (s9.i : Int) + 1 = ((s9.i + 1 : Nat) : Int) := by omega
    rw [decide_eq_true hbar] at CK
    refine Ak [2100, 2101] (CK) (by first | (simp +contextual -dsimp only [↓SD, SU, simprocAttr, rdB]; done) | (simp +contextual -dsimp only [↓SD, SU, simprocAttr, rdB, Ae]; done) | (simp +contextual -dsimp only [↓SD, SU, simprocAttr, rdB, o7, o8, a9, b9, o9, hv9, lw, hrA, hK10, hAn, hAm, hEl, hEt, lwB, Ae]; done)) ?_
    rintro r hp' ⟨rfl, rfl⟩ H10 hH10
    obtain ⟨⟨a10, b10, o10, u10'⟩, k10⟩ := AP hH10
    have u10 : Unf H10 := u10' (by repeat (first | exact uB | exact Ad | refine AO ?_))
    have t10_P6 := k10 P6 hDP6.far (by repeat (first | exact tP6 | refine Ah ?_ hDP6.far (by decide)))
    have t10_T5 := k10 T5 hD5.far (by repeat (first | exact tB_T5 | refine Ah ?_ hD5.far (by decide)))
    have t10_T9 := k10 T9 hD9.far (by repeat (first | exact tB_T9 | refine Ah ?_ hD9.far (by decide)))
    simp +contextual -dsimp only [↓SD, SU, simprocAttr, rdB, Ab, Aa, EVB, Ax, Ad, Af, o7, o8, o9, a10, b10, o10, u10, hv9, lw, hrA, hK10, hAn, hAm, hEl, hEt, lwB, e2]
    refine ⟨by omega, ?_⟩
    refine Ai.le ⟨⟨{ s9 with i := s9.i + 1 }, l6, vs6, T9 ++ T5, n5 + 1, w5 + w9, E6, vB⟩, ⟨⟨Bl hs9 j1, Ab0 hJ⟩, by dsimp only; omega⟩, rfl⟩ (by simp +contextual -dsimp only [↓SD, SU, simprocAttr]) ?_
    dsimp only
    rw [← hP6, hv6, hlen6, hesn]
    simp +contextual -dsimp only [↓SD, SU, simprocAttr, rdB, AK, EVB, Ax, Ad, Af, o7, o8, o9, a10, b10, o10, hv9, lw, hrA, hK10, hAn, hAm, hEl, hEt, lwB]
    exact ⟨(by repeat (first | exact t10_P6 | refine Ah ?_ hDP6.far (by decide))), (by repeat (first | exact t10_T9 | refine Ah ?_ hD9.far (by decide))), (by repeat (first | exact t10_T5 | refine Ah ?_ hD5.far (by decide)))⟩
   ·rw [decide_eq_false hbar] at CK
    refine Ak [2100, 2101] (CK) (by first | (simp +contextual -dsimp only [↓SD, SU, simprocAttr, rdB]; done) | (simp +contextual -dsimp only [↓SD, SU, simprocAttr, rdB, Ae]; done) | (simp +contextual -dsimp only [↓SD, SU, simprocAttr, rdB, o7, o8, a9, b9, o9, hv9, lw, hrA, hK10, hAn, hAm, hEl, hEt, lwB, Ae]; done)) ?_
    rintro r hp' ⟨rfl, rfl⟩ H61 hH61
    obtain ⟨⟨a61, b61, o61, u61'⟩, k61⟩ := AP hH61
    have u61 : Unf H61 := u61' (by repeat (first | exact uB | exact Ad | refine AO ?_))
    have t61_P6 := k61 P6 hDP6.far (by repeat (first | exact tP6 | refine Ah ?_ hDP6.far (by decide)))
    have t61_T5 := k61 T5 hD5.far (by repeat (first | exact tB_T5 | refine Ah ?_ hD5.far (by decide)))
    have t61_T9 := k61 T9 hD9.far (by repeat (first | exact tB_T9 | refine Ah ?_ hD9.far (by decide)))
    simp +contextual -dsimp only [↓SD, SU, simprocAttr, rdB, Ab, Aa, EVB, Ax, Ad, Af, o7, o8, o9, a61, b61, o61, u61, hv9, lw, hrA, hK10, hAn, hAm, hEl, hEt, lwB]
    refine Ak [2100, 2101] (AY C s9 hs9 (bs [101, 110, 100]) (by decide)) (by first | (simp +contextual -dsimp only [↓SD, SU, simprocAttr, rdB]; done) | (simp +contextual -dsimp only [↓SD, SU, simprocAttr, rdB, Ae]; done) | (simp +contextual -dsimp only [↓SD, SU, simprocAttr, rdB, o7, o8, o9, a61, b61, o61, hv9, lw, hrA, hK10, hAn, hAm, hEl, hEt, lwB, hest, hesn, Nat.le_refl, Ae]; done)) ?_
    rintro r hp' ⟨s99, rfl, hs99, hi99, hc99, rfl, hp99⟩ H62 hH62
    obtain ⟨⟨a62, b62, o62, u62'⟩, k62⟩ := AP hH62
    have u62 : Unf H62 := u62' (by repeat (first | exact u61 | exact Ad | refine AO ?_))
    have t62_P6 := k62 P6 hDP6.far (by repeat (first | exact t61_P6 | refine Ah ?_ hDP6.far (by decide)))
    have t62_T5 := k62 T5 hD5.far (by repeat (first | exact t61_T5 | refine Ah ?_ hD5.far (by decide)))
    have t62_T9 := k62 T9 hD9.far (by repeat (first | exact t61_T9 | refine Ah ?_ hD9.far (by decide)))
    have hr62 := hrootP6 _ t62_P6
    simp +contextual -dsimp only [↓SD, SU, simprocAttr, rdB, Ab, Aa, EVB, Ax, Ad, Af, o7, o8, o9, o61, a62, b62, o62, u62, hv9, lw, hrA, hK10, hAn, hAm, hEl, hEt, lwB, hest, hesn, Nat.le_refl, hr62, hAn, hAm]
    refine Ai.frz 91 (Ai.post (rdB C s99 ++ (P6 ++ (T9 ++ T5))) ?_)
    simp +contextual -dsimp only [↓SD, SU, simprocAttr, rdB, Ab, Aa, EVB, Ax, Ad, Af, o7, o8, o9, o61, a62, b62, o62, u62, hv9, lw, hrA, hK10, hAn, hAm, hEl, hEt, lwB, hest, hesn, Nat.le_refl, hr62, hAn, hAm, AK, hpuE, false_and, if_false, List.take_length]
    refine ⟨⟨(by repeat (first | exact t62_P6 | refine Ah ?_ hDP6.far (by decide))), ⟨(by repeat (first | exact t62_T9 | refine Ah ?_ hD9.far (by decide))), (by repeat (first | exact t62_T5 | refine Ah ?_ hD5.far (by decide)))⟩⟩, ?_⟩
    have hfin := Zy (vs := vs6) hJ hs9 (by omega) hs99 hi99 hc99 pos
    rw [← hP6, hv6, hlen6] at hfin
    exact hfin
end Go.Proofs.YteeiaaogmjbcjaaGreat
