/-
 A match TAKEN BY THE REFERENCE'S READER, told weakly. Conditions: none. Printed by gen/reade.py.
-/
import Derived.Test.YtoffpbehgncakaaGreatKReadE
import Derived.Test.YtoffpbehgncakaaGreatKJ29
set_option linter.unusedVariables false
set_option linter.unusedSimpArgs false
set_option maxRecDepth 100000
namespace Go.Proofs.YtoffpbehgncakaaGreat
open Go.RowKit Go.Proofs.YtoffpbehgncakaaGreat.Av Go.Proofs.YtoffpbehgncakaaGreat.Ml
open Go.Proofs.YtoffpbehgncakaaGreat.Av.AVal (av)
open OVal (ov oh on)

theorem AaH {H0 H hp' : Hp} {nm : Nat} (hH : H = hp' ++ BU [] H0) (D : Ee nm hp') : (∀ q, q < 10000 → Ay H q = Ay H0 q) ∧ Bt H hp' ∧ (∀ T, (∀ p ∈ T, ∀ q ∈ hp', q.1 ≠ p.1) → Bt H0 T → Bt H T) ∧ (Unf H0 → Unf H) := by
 subst hH
 rw [Ah]
 refine ⟨fun q hq => Db fun p hp => by have := D.far p hp; omega, EB D.2.1, fun T ha h => AP.2 fun p hp => ?_, fun hu => He D.2.2 hu⟩
 rw [Db (ha p hp)]
 exact AP.1 h p hp
theorem AaV {m : Nat} {T : Hp} {a b : Nat} {l : List AV} {X : AV} (h : EAs m T a l) (hX : EA m T b X) : EAs m T (a + b) (l ++ [X]) := by
 induction l generalizing a with
 | nil =>
  cases h
  have := EAs.cons b 0 X [] hX .nil
  rw [Nat.zero_add]; exact this
 | cons x l ih =>
  cases h with
  | cons c d _ _ h1 h2 => rw [Nat.add_assoc]; exact .cons c (d + b) x (l ++ [X]) h1 (ih h2)
theorem W3 {m w : Nat} {T : Hp} {l : List AV} (h : EAs m T w l) : ∀ hp, Unf hp → l.map (AV.pur hp) = l := fun hp hu => by
 induction l generalizing w with
 | nil => rfl
 | cons x l ih =>
  cases h with
  | cons a b _ _ h1 h2 => rw [List.map_cons, h1.ev.pur hp hu, ih h2]
theorem Td {m w : Nat} {T T' : Hp} {l : List AV} (h : EAs m T w l) (hT : Bt T' T) : EAs m T' w l := (W4 hT w w (Nat.le_refl _)).2 l h
theorem Abr {l : List AV} (h : l ≠ []) : slN l = .sl l := by cases l with | nil => exact absurd rfl h | cons a r => rfl
def MtI (C : RC) (s : RS) (nm : Nat) (q : RS) (l : List Pat) (T : Hp) (n w : Nat) (es : List AV) (N : List Nat) : Prop :=
 s.i ≤ q.i ∧ (q.code = 0 → s.code = 0 ∧ s.i < q.i ∧ w + 3 * s.i + 2 ≤ 3 * q.i ∧ l.length + s.i ≤ q.i) ∧ l.length + s.i ≤ q.i + 1 ∧ (∀ x ∈ l, QOk C.m x) ∧ EAs C.m T w es ∧ es.length = l.length + 1 ∧ Lm (sub nm 1) n T ∧ KDs es N ∧ DNR (sub nm 1) n N
theorem Zk {C : RC} {s q s9 : RS} {nm : Nat} {l : List Pat} {vs : Nat → Nat} {T : Hp} {n w : Nat} {es : List AV} {N : List Nat} (hI : MtI C s nm q l T n w es N) (hq : Bm C q) (hsi : 1 ≤ s.i) (hs9 : Bm C s9) (hi9 : q.i ≤ s9.i) (hc9 : s9.code = 0 → q.code = 0) (pos : Int) :
  ExP C s nm (.agg [.int .i64 13, .int .i64 pos, .int .i64 0, .str (bs []), .Au, .row (sub nm 0) (vs (sub nm 0)) l.length, .sl es]) (rdB C s9 ++ (oh (sub nm 0) vs l ++ T)) := by
 obtain ⟨h1, h2, h3, h4, h5, h6, h7, h8, h9⟩ := hI
 have hz : (bs []).size ≤ C.m := Nat.zero_le _
 have hP := Qy nm 0 vs l
 have hT := h7.dis
 have hap := BG hP hT (by decide)
 have hle := EX hP.2.1 hT.2.1 hap
 have hsm := hq.1.1
 have hql := hq.2.1
 rw [← Abr (fun h => by rw [h] at h6; simp at h6 : es ≠ [])]
 refine ⟨s9, oh (sub nm 0) vs l ++ T, w + 1, rfl, hs9, by omega, fun h => ?_, .mk 13 pos 0 _ _ es w hz (.inr ⟨sub nm 0, vs, l, rfl, EP nm 0, EB hP.2.1, by omega, h4⟩) (Td h5 (AO.1 hle).2), ⟨fun p hp => ?_, hle, He hP.2.2 hT.2.2⟩, _, .mk 13 pos 0 _ _ es N h8, ⟨List.nodup_cons.2 ⟨fun hm => ?_, h9.1⟩, fun k hk => ?_⟩⟩
 ·have g := h2 (hc9 h)
  exact ⟨g.1, by omega, by omega⟩
 ·rcases List.mem_append.1 hp with h | h
  ·exact (Eb hP).1 p h
  ·exact (Eb hT).1 p h
 ·have := (h9.dn.2 _ hm).sib (i := 1) (j := 0) .root
  omega
 ·rcases List.mem_cons.1 hk with rfl | h
  ·exact InT.up (i := 0) .root
  ·exact (h9.dn.2 k h).up
theorem KC {hp T : Hp} {k : Nat} {b : Box} (h : Bt hp T) (hk : ∀ p ∈ T, p.1 ≠ k) : Bt ((k, b) :: hp) T := AP.2 fun p hp' => by rw [B5 (fun e => hk p hp' e.symm)]; exact AP.1 h p hp'
theorem Nz {nm i j : Nat} {T : Hp} (h : Ee (sub nm i) T) (hij : i ≠ j) : ∀ p ∈ T, p.1 ≠ sub nm j := fun p hp e => hij ((h.1 p hp).2.sib (e ▸ .root))
theorem YM {C : RC} {s : RS} (hs : Bm C s) (z : Nat) : Bm C { s with seen := [], sv := z } := by
 obtain ⟨g0, g1, g2, g3, g4, g5, g6⟩ := hs
 exact ⟨g0, g1, g2, g3, g4, Nat.zero_le _, fun x hx => (by cases hx)⟩
theorem AbE {A : Nat} {vs : Nat → Nat} {l : List Pat} {T : Hp} (D : Ee (sub (sub A l.length) 0) T) : ∀ p ∈ oh A vs l, ∀ q ∈ T, q.1 ≠ p.1 := fun p hp q hq e => by
 have h1 := ((D.1 q hq).2).up
 rw [e] at h1
 rw [Jb] at hp
 rcases List.mem_append.1 hp with h | h
 ·obtain ⟨j, hj, h2⟩ := Kp h
  have := (OVal.inh h2).sib h1
  omega
 ·rw [List.mem_singleton] at h
  subst h
  exact h1.ne rfl
theorem XQ {A vA : Nat} {vs vs' : Nat → Nat} {l : List Pat} {F : List BD} {HA : Hp} (h1 : Bt HA (oh A vs l)) (h2 : Bt HA (oh (sub (sub A l.length) 0) vs' F)) :
  ∃ vs6, Bt ((A, ⟨vA, false, 66, 1, ovL A vs 0 l ++ [.agg [.row (sub (sub A l.length) 0) (vs' (sub (sub A l.length) 0)) F.length]]⟩) :: HA) (oh A vs6 (l ++ [⟨F⟩])) ∧ vs6 A = vA := by
 rw [Jb, AO] at h1
 exact Y3 (q := ⟨F⟩) (KC h1.1 (fun p hp => by obtain ⟨j, _, h⟩ := Et hp; exact h.ne)) (by rw [AbF]; exact KC h2 (fun p hp => (OVal.inh hp).up.ne)) Ft
theorem AbH {C : RC} {s q : RS} {nm : Nat} {l : List Pat} {T : Hp} {n w : Nat} {es : List AV} {N : List Nat} (h : MtI C s nm q l T n w es N) : MtI C s nm { q with i := q.i + 1 } l T n w es N := by
 obtain ⟨h1, h2, h3, h4⟩ := h
 exact ⟨by show s.i ≤ q.i + 1; omega, fun h => (by have g := h2 h; exact ⟨g.1, by show s.i < q.i + 1; omega, by show w + 3 * s.i + 2 ≤ 3 * (q.i + 1); omega, by show l.length + s.i ≤ q.i + 1; omega⟩), by show l.length + s.i ≤ q.i + 1 + 1; omega, h4⟩
theorem AaG (t : Px) (hp : Hp) : AV.agg (List.map (AV.Bu hp) (List.take 5 (psA t).cells)) = psA t := by
 cases t with | mk n ks => 
  rw [Gt]
  show AV.agg [_, _, _, _, AV.Bu hp (slN (ks.map psA))] = _
  rw [GI]; rfl
structure MtS where
 s : RS
 l : List Pat
 vs : Nat → Nat
 T : Hp
 n : Nat
 w : Nat
 es : List AV
 v : Nat
 N : List Nat
set_option maxHeartbeats 4000000 in
theorem Sy (C : RC) (b : Nat) (IH : ∀ s1 d nm, Bm C s1 → b < s1.i → 0 ≤ d ∧ d ≤ 200 → ExC C 81 [.int .i64 d] s1 nm) (s : RS) (hs : Bm C s) (hbi : b < s.i) (d pos : Int) (hd : 0 ≤ d ∧ d ≤ 100) (nm : Nat) : ExC C 145 [.int .i64 d, .int .i64 pos] s nm := by
 have hsm := hs.small
 have hz : (bs []).size ≤ C.m := Nat.zero_le _
 unfold ExC
 refine GX.H rfl ?_
 simp +contextual -dsimp only [↓SD, SU, simprocAttr, rdB, Ab, Aa, GX]
 intro v6
 refine ⟨by omega, ?_⟩
 refine Ao [2100, 2101] (IH s (d + 1) (sub (sub nm 1) 0) hs hbi (by omega)) (by first | (simp +contextual -dsimp only [↓SD, SU, simprocAttr, rdB]; done) | (simp +contextual -dsimp only [↓SD, SU, simprocAttr, rdB, Af]; done) | (simp +contextual -dsimp only [↓SD, SU, simprocAttr, rdB, Af]; done)) ?_
 rintro X1 hp' ⟨s1, T1, w1, rfl, hs1, hi1, hc1, hX1, hD1, N1, hK1, hN1⟩ H1 hH1
 have hv1 := hX1.ev
 have hsm1 := hs1.small
 obtain ⟨⟨a1, b1, o1, u1'⟩, t1, k1⟩ := Bp hH1 hD1
 have u1 : Unf H1 := u1' (by repeat (first | exact Ae | exact Ae | refine AR ?_))
 simp +contextual -dsimp only [↓SD, SU, simprocAttr, rdB, Ab, Aa, EVB, Ax, Ae, Ah, a1, b1, o1, u1, hv1]
 intro v15
 refine Ad [] (Bl (13) (pos) (bs []) (.row 91 v15 1) (.row _ _ _)) (by simp +contextual -dsimp only [↓SD, SU, simprocAttr]) ?_
 rintro r hp' ⟨rfl, rfl⟩
 simp +contextual -dsimp only [↓SD, SU, simprocAttr, rdB, Ab, Aa, EVB, Ax, Ae, Ah, a1, b1, o1, u1, hv1]
 intro v7
 refine Ao [2100, 2101] (A8 C s1 hs1 (bs [119, 105, 116, 104]) (by decide)) (by first | (simp +contextual -dsimp only [↓SD, SU, simprocAttr, rdB]; done) | (simp +contextual -dsimp only [↓SD, SU, simprocAttr, rdB, Af]; done) | (simp +contextual -dsimp only [↓SD, SU, simprocAttr, rdB, a1, b1, o1, hv1, Af]; done)) ?_
 rintro r hp' ⟨s2, rfl, hs2, hi2, hc2, rfl, hp2⟩ H2 hH2
 obtain ⟨⟨a2, b2, o2, u2'⟩, k2⟩ := AX hH2
 have u2 : Unf H2 := u2' (by repeat (first | exact u1 | exact Ae | refine AR ?_))
 have t2_T1 := k2 T1 hD1.far (by repeat (first | exact t1 | refine Ag ?_ hD1.far (by decide)))
 have hAn : ∀ q, q < 10000 → (q == sub nm 0) = false := fun q hq => Me hq
 have hAm : ∀ q, q < 10000 → (sub nm 0 == q) = false := fun q hq => beq_eq_false_iff_ne.2 (by have := EP nm 0; omega)
 refine C0 (X := MtS) (fun q => ⟨[(0, .ptr 2100 C.v 0 0), (1, .int .i64 d), (6, .ptr 6 v6 0 0), (7, .ptr 7 v7 0 0)], (7, ⟨v7, false, 54, 7, [.agg [.int .i64 13, .int .i64 pos, .int .i64 0, .str (bs []), .Au, .row (sub nm 0) (q.vs (sub nm 0)) q.l.length, .row 91 q.v q.es.length]]⟩) :: (91, ⟨q.v, false, 54, 7, q.es⟩) :: (6, ⟨v6, false, 54, 7, [.agg [.int .i64 0, .int .i64 0, .int .i64 0, .str (bs []), .Au, .Au, .Au]]⟩) :: (rdB C q.s ++ (oh (sub nm 0) q.vs q.l ++ q.T))⟩) (fun q => Bm C q.s ∧ MtI C s nm q.s q.l q.T q.n q.w q.es q.N) (fun q => C.L.length - q.s.i) ?_ ?_
 ·refine Ai.Fl 7 0 5 (sub nm 0) 66 1 (b := ⟨v7, false, 54, 7, [.agg [.int .i64 13, .int .i64 pos, .int .i64 0, .str (bs []), .Au, .Au, .row 91 v15 1]]⟩) (by simp +contextual -dsimp only [↓SD, SU, simprocAttr, EVB, Ax, Ae, Ah, o1, a2, b2, o2, hv1]) rfl Nat.zero_lt_one rfl (by have := EP nm 0; omega) fun z => ?_
  have hI0 : MtI C s nm s2 [] T1 1 w1 [X1] N1 := ⟨by omega, fun h => (by have g := hc1 (hc2 h); refine ⟨g.1, by omega, by omega, ?_⟩; show 0 + s.i ≤ s2.i; omega), (by show 0 + s.i ≤ s2.i + 1; omega), fun x hx => (by cases hx), (by have := EAs.cons w1 0 X1 [] hX1 .nil; exact this), rfl, Bi hD1, WB hK1, B7 hN1⟩
  refine Ai.le ⟨⟨s2, [], fun _ => z, T1, 1, w1, [X1], v15, N1⟩, ⟨hs2, hI0⟩, rfl⟩ (by simp +contextual -dsimp only [↓SD, SU, simprocAttr]) ?_
  have ho : oh (sub nm 0) (fun _ => z) ([] : List Pat) = [(sub nm 0, ⟨z, false, 66, 1, []⟩)] := rfl
  simp +contextual -dsimp only [↓SD, SU, simprocAttr, rdB, AO, ho, List.length_nil, hAn, hAm, EVB, Ax, Ae, Ah, o1, a2, b2, o2, hv1]
  exact KC (Ag t2_T1 hD1.far (by decide)) (Nz (Eb hD1) (by decide))
 rintro ⟨s5, l5, vs5, T5, n5, w5, es5, v5, N5⟩ ⟨hs5, hI⟩
 dsimp only at hs5 hI ⊢
 have hsm5 := hs5.small
 obtain ⟨hI1, hI2, hI3, hI4, hI5, hI6, hD5, hK5, hN5⟩ := id hI
 have hpues5 := W3 hI5
 have hDP := Qy nm 0 vs5 l5
 have hrootP5 : ∀ H, Bt H (oh (sub nm 0) vs5 l5) → Ay H (sub nm 0) = some ⟨vs5 (sub nm 0), false, 66, 1, ovL (sub nm 0) vs5 0 l5⟩ := fun H h => Cc h
 have hap5 := BG hDP hD5.dis (by decide)
 obtain ⟨P5, hP5⟩ : ∃ P5, P5 = oh (sub nm 0) vs5 l5 := ⟨_, rfl⟩
 rw [← hP5] at hDP hrootP5 hap5 ⊢
 have hb1 : Bt (P5 ++ T5) P5 := EB hDP.2.1
 have hb2 : Bt (P5 ++ T5) T5 := (AO.1 (EX hDP.2.1 hD5.2.1 hap5)).2
 have hU5 : Unf (P5 ++ T5) := He hDP.2.2 hD5.2.2
 by_cases c0 : s5.code = 0
 case' neg =>
  have e0 := eq_false c0
  simp +contextual -dsimp only [↓SD, SU, simprocAttr, rdB, Ab, Aa, EVB, Ax, Ae, Ah, hU5, e0]
  refine Ao [2100, 2101] (A8 C s5 hs5 (bs [101, 110, 100]) (by decide)) (by first | (simp +contextual -dsimp only [↓SD, SU, simprocAttr, rdB]; done) | (simp +contextual -dsimp only [↓SD, SU, simprocAttr, rdB, Af]; done) | (simp +contextual -dsimp only [↓SD, SU, simprocAttr, rdB, Af]; done)) ?_
  rintro r hp' ⟨s99, rfl, hs99, hi99, hc99, rfl, hp99⟩ H6 hH6
  obtain ⟨⟨a6, b6, o6, u6'⟩, k6⟩ := AX hH6
  have u6 : Unf H6 := u6' (by repeat (first | exact hU5 | exact Ae | refine AR ?_))
  have t6_P5 := k6 P5 hDP.far (by repeat (first | exact hb1 | refine Ag ?_ hDP.far (by decide)))
  have t6_T5 := k6 T5 hD5.far (by repeat (first | exact hb2 | refine Ag ?_ hD5.far (by decide)))
  have hr6 := hrootP5 _ t6_P5
  simp +contextual -dsimp only [↓SD, SU, simprocAttr, rdB, Ab, Aa, EVB, Ax, Ae, Ah, a6, b6, o6, u6, hr6, hAn, hAm]
  refine Ai.frz 91 (Ai.post (rdB C s99 ++ (P5 ++ T5)) ?_)
  simp +contextual -dsimp only [↓SD, SU, simprocAttr, rdB, Ab, Aa, EVB, Ax, Ae, Ah, a6, b6, o6, u6, hr6, hAn, hAm, AO, hpues5, false_and, if_false, List.take_length]
  refine ⟨⟨(by repeat (first | exact t6_P5 | refine Ag ?_ hDP.far (by decide))), (by repeat (first | exact t6_T5 | refine Ag ?_ hD5.far (by decide)))⟩, ?_⟩
  have hfin := Zk (vs := vs5) hI hs5 (by omega) hs99 hi99 hc99 pos
  rw [← hP5] at hfin
  exact hfin
 case' pos =>
  have e0 := eq_true c0
  obtain ⟨q1, q2, q3, q4⟩ := hI2 c0
  simp +contextual -dsimp only [↓SD, SU, simprocAttr, rdB, Ab, Aa, EVB, Ax, Ae, Ah, hU5, e0]
  refine BQ (Ai.Fl 2100 0 6 2101 9 1 (b := ⟨C.v, false, 120, 7, [.agg [.sl (C.L.map av), .int .i64 s5.i, .int .i64 C.E, .int .i64 s5.code, .int .i64 s5.pos, .sl (s5.vars.map av), .Au]]⟩) rfl rfl Nat.zero_lt_one rfl (by decide) fun z => Ai.here ?_)
  have hsz := YM hs5 z
  have CP := (UZ C _ _ hsz rfl 0 (by decide)).1
  unfold Uh at CP
  simp +contextual -dsimp only [↓SD, SU, simprocAttr, rdB, Ab, Aa, EVB, Ax, Ae, Ah, hU5]
  refine Ao [2100, 2101] (CP) (by first | (simp +contextual -dsimp only [↓SD, SU, simprocAttr, rdB]; done) | (simp +contextual -dsimp only [↓SD, SU, simprocAttr, rdB, Af]; done) | (simp +contextual -dsimp only [↓SD, SU, simprocAttr, rdB, Af]; done)) ?_
  rintro r hp' ⟨s6, rfl, hs6, hi6, hc6, e, rfl, hew, hen⟩ H7 hH7
  obtain ⟨⟨a7, b7, o7, u7'⟩, k7⟩ := AX hH7
  have u7 : Unf H7 := u7' (by repeat (first | exact hU5 | exact Ae | refine AR ?_))
  have t7_P5 := k7 P5 hDP.far (by repeat (first | exact hb1 | refine Ag ?_ hDP.far (by decide)))
  have t7_T5 := k7 T5 hD5.far (by repeat (first | exact hb2 | refine Ag ?_ hD5.far (by decide)))
  dsimp only at hi6 hc6 hen
  have hsm6 := hs6.small
  simp +contextual -dsimp only [↓SD, SU, simprocAttr, rdB, Ab, Aa, EVB, Ax, Ae, Ah, a7, b7, o7, u7, Ea, Hu, Es, D0]
  intro v8
  refine Ao [2100, 2101] (A8 C s6 hs6 (bs [45, 62]) (by decide)) (by first | (simp +contextual -dsimp only [↓SD, SU, simprocAttr, rdB]; done) | (simp +contextual -dsimp only [↓SD, SU, simprocAttr, rdB, Af]; done) | (simp +contextual -dsimp only [↓SD, SU, simprocAttr, rdB, a7, b7, o7, Af]; done)) ?_
  rintro r hp' ⟨s7, rfl, hs7, hi7, hc7, rfl, hp7⟩ H8 hH8
  obtain ⟨⟨a8, b8, o8, u8'⟩, k8⟩ := AX hH8
  have u8 : Unf H8 := u8' (by repeat (first | exact u7 | exact Ae | refine AR ?_))
  have t8_P5 := k8 P5 hDP.far (by repeat (first | exact t7_P5 | refine Ag ?_ hDP.far (by decide)))
  have t8_T5 := k8 T5 hD5.far (by repeat (first | exact t7_T5 | refine Ag ?_ hD5.far (by decide)))
  simp +contextual -dsimp only [↓SD, SU, simprocAttr, rdB, Ab, Aa, EVB, Ax, Ae, Ah, o7, a8, b8, o8, u8]
  refine ⟨by omega, ?_⟩
  refine Ao [2100, 2101] (IH s7 (d + 1) (sub (sub nm 1) n5) hs7 (by omega) (by omega)) (by first | (simp +contextual -dsimp only [↓SD, SU, simprocAttr, rdB]; done) | (simp +contextual -dsimp only [↓SD, SU, simprocAttr, rdB, Af]; done) | (simp +contextual -dsimp only [↓SD, SU, simprocAttr, rdB, o7, a8, b8, o8, Af]; done)) ?_
  rintro X9 hp' ⟨s9, T9, w9, rfl, hs9, hi9, hc9, hX9, hD9, N9, hK9, hN9⟩ H9 hH9
  have hv9 := hX9.ev
  have hsm9 := hs9.small
  obtain ⟨⟨a9, b9, o9, u9'⟩, t9, k9⟩ := Bp hH9 hD9
  have u9 : Unf H9 := u9' (by repeat (first | exact u8 | exact Ae | refine AR ?_))
  have t9_P5 := k9 P5 hDP.far (BG (Eb hD9) hDP (by decide)) (by repeat (first | exact t8_P5 | refine Ag ?_ hDP.far (by decide)))
  have t9_T5 := k9 T5 hD5.far (E3 hD5 hD9 (Nat.le_refl _)) (by repeat (first | exact t8_T5 | refine Ag ?_ hD5.far (by decide)))
  simp +contextual -dsimp only [↓SD, SU, simprocAttr, rdB, Ab, Aa, EVB, Ax, Ae, Ah, o7, o8, a9, b9, o9, u9, hv9]
  intro v9
  simp +contextual -dsimp only [↓SD, SU, simprocAttr, rdB, Ab, Aa, EVB, Ax, Ae, Ah, o7, o8, a9, b9, o9, u9, hv9, Ea, Hu, Es, D0, AaG]
  refine ⟨?_, ?_⟩
  all_goals
   have CPL := Sw (sub (sub (sub nm 0) l5.length) 0) e (by omega)
   unfold Aco at CPL
   have hKr := fun (H : Hp) (vs' : Nat → Nat) (h : Bt H (oh (sub (sub (sub nm 0) l5.length) 0) vs' (B9 0 e))) => Cc h
   refine Ao [] CPL rfl ?_
   rintro r hp' ⟨vs', rfl, hvs⟩ HA hHA
   have D10 := Qy (sub (sub nm 0) l5.length) 0 vs' (B9 0 e)
   rw [← hvs] at D10
   have D10' := Eb (Eb D10)
   obtain ⟨lw, pH, pk, pu⟩ := AaH hHA D10
   have hap10 := AbE (vs := vs5) D10
   rw [← hP5] at hap10
   have tA_P5 := pk P5 hap10 (by repeat (first | exact t9_P5 | refine Ag ?_ hDP.far (by decide)))
   have tA_T5 := pk T5 (BG D10' hD5.dis (by decide)) (by repeat (first | exact t9_T5 | refine Ag ?_ hD5.far (by decide)))
   have tA_T9 := pk T9 (BG D10' (Eb hD9) (by decide)) (by repeat (first | exact t9 | refine Ag ?_ hD9.far (by decide)))
   have uA := pu (by repeat (first | exact u9 | exact Ae | refine AR ?_))
   have hK10 := hKr HA vs' (hvs ▸ pH)
   have hrA := hrootP5 HA tA_P5
   have hEl : (ovL (sub nm 0) vs5 0 l5).length = l5.length := by rw [Kd]
   have hEt : List.take l5.length (ovL (sub nm 0) vs5 0 l5) = ovL (sub nm 0) vs5 0 l5 := List.take_of_length_le (by rw [hEl]; exact Nat.le_refl _)
   generalize hEL : ovL (sub nm 0) vs5 0 l5 = EL at *
   simp +contextual -dsimp only [↓SD, SU, simprocAttr, rdB, Ab, Aa, EVB, Ax, Ae, Ah, o7, o8, a9, b9, o9, uA, hv9, lw, hrA, hK10, hAn, hAm, hEl, hEt, false_and, if_false, List.take_length]
   refine ⟨⟨by omega, by unfold maxLen; omega⟩, fun vA => ⟨⟨by omega, by unfold maxLen; omega⟩, fun vB => ?_⟩⟩
   obtain ⟨vs6, tP6, hv6⟩ := XQ (vA := vA) (hP5 ▸ tA_P5) (hvs ▸ pH)
   rw [hEL] at tP6
   obtain ⟨HB, hHB⟩ : ∃ HB : Hp, HB = (sub nm 0, ⟨vA, false, 66, 1, EL ++ [.agg [.row (sub (sub (sub nm 0) l5.length) 0) (vs' (sub (sub (sub nm 0) l5.length) 0)) (B9 0 e).length]]⟩) :: HA := ⟨_, rfl⟩
   rw [← hHB] at tP6 ⊢
   have hDP6 := Qy nm 0 vs6 (l5 ++ [⟨B9 0 e⟩])
   have hrootP6 : ∀ H, Bt H (oh (sub nm 0) vs6 (l5 ++ [⟨B9 0 e⟩])) → Ay H (sub nm 0) = some ⟨vA, false, 66, 1, ovL (sub nm 0) vs6 0 (l5 ++ [⟨B9 0 e⟩])⟩ := fun H h => hv6 ▸ Cc h
   have lwB : ∀ q, q < 10000 → Ay HB q = Ay HA q := fun q hq => by rw [hHB, B5 (by have := EP nm 0; omega)]
   have tB_T5 : Bt HB T5 := hHB ▸ KC tA_T5 (Nz hD5.dis (by decide))
   have tB_T9 : Bt HB T9 := hHB ▸ KC tA_T9 (Nz (Eb hD9) (by decide))
   have uB : Unf HB := hHB ▸ AR uA
   obtain ⟨cb1, cb2⟩ := comb hD5 hD9 (Nat.le_refl _)
   have hlen6 : (l5 ++ [(⟨B9 0 e⟩ : Pat)]).length = l5.length + 1 := by simp
   have hesn : (es5 ++ [X9]).length = es5.length + 1 := by simp
   have hJ : MtI C s nm s9 (l5 ++ [⟨B9 0 e⟩]) (T9 ++ T5) (n5 + 1) (w5 + w9) (es5 ++ [X9]) (N5 ++ N9) := by
    have b1 := hs6.2.1
    have b2 := hs6.1.1
    refine ⟨by omega, fun h => ?_, by rw [hlen6]; omega, fun x hx => ?_, AaV (Td hI5 cb2) (hX9.mono cb1), by rw [hesn, hlen6, hI6], Ca hD5 hD9 (Nat.le_refl _), AaO hK5 hK9, CV hN5 hN9 (Nat.le_refl _)⟩
    ·have g := hc9 h
     refine ⟨q1, by omega, by omega, ?_⟩
     rw [hlen6]; omega
    ·rcases List.mem_append.1 hx with hx | hx
     ·exact hI4 x hx
     ·rw [List.mem_singleton] at hx
      subst hx
      exact ⟨e, rfl, hew, by omega⟩
   have hpuE := W3 hJ.2.2.2.2.1
   have CK := BP C s9 hs9 (bs [124])
   obtain ⟨E6, hE6⟩ : ∃ E6, E6 = es5 ++ [X9] := ⟨_, rfl⟩
   rw [← hE6] at hJ hesn hpuE ⊢
   obtain ⟨l6, hl6⟩ : ∃ l6, l6 = l5 ++ [(⟨B9 0 e⟩ : Pat)] := ⟨_, rfl⟩
   rw [← hl6] at hJ hlen6 tP6 hDP6 hrootP6
   obtain ⟨P6, hP6⟩ : ∃ P6, P6 = oh (sub nm 0) vs6 l6 := ⟨_, rfl⟩
   rw [← hP6] at tP6 hDP6 hrootP6
   have hest : List.take (es5.length + 1) E6 = E6 := List.take_of_length_le (by rw [hesn]; exact Nat.le_refl _)
   by_cases hbar : BF (A6 C s9) = bs [124]
   ·obtain ⟨j1, j2⟩ := Bz hs9 (by decide) hbar
    have e2 : (s9.i : Int) + 1 = ((s9.i + 1 : Nat) : Int) := by omega
    rw [decide_eq_true hbar] at CK
    refine Ao [2100, 2101] (CK) (by first | (simp +contextual -dsimp only [↓SD, SU, simprocAttr, rdB]; done) | (simp +contextual -dsimp only [↓SD, SU, simprocAttr, rdB, Af]; done) | (simp +contextual -dsimp only [↓SD, SU, simprocAttr, rdB, o7, o8, a9, b9, o9, hv9, lw, hrA, hK10, hAn, hAm, hEl, hEt, lwB, Af]; done)) ?_
    rintro r hp' ⟨rfl, rfl⟩ H10 hH10
    obtain ⟨⟨a10, b10, o10, u10'⟩, k10⟩ := AX hH10
    have u10 : Unf H10 := u10' (by repeat (first | exact uB | exact Ae | refine AR ?_))
    have t10_P6 := k10 P6 hDP6.far (by repeat (first | exact tP6 | refine Ag ?_ hDP6.far (by decide)))
    have t10_T5 := k10 T5 hD5.far (by repeat (first | exact tB_T5 | refine Ag ?_ hD5.far (by decide)))
    have t10_T9 := k10 T9 hD9.far (by repeat (first | exact tB_T9 | refine Ag ?_ hD9.far (by decide)))
    simp +contextual -dsimp only [↓SD, SU, simprocAttr, rdB, Ab, Aa, EVB, Ax, Ae, Ah, o7, o8, o9, a10, b10, o10, u10, hv9, lw, hrA, hK10, hAn, hAm, hEl, hEt, lwB, e2]
    refine ⟨by omega, ?_⟩
    refine Ai.le ⟨⟨{ s9 with i := s9.i + 1 }, l6, vs6, T9 ++ T5, n5 + 1, w5 + w9, E6, vB, N5 ++ N9⟩, ⟨⟨Bx hs9 j1, AbH hJ⟩, by dsimp only; omega⟩, rfl⟩ (by simp +contextual -dsimp only [↓SD, SU, simprocAttr]) ?_
    dsimp only
    rw [← hP6, hv6, hlen6, hesn]
    simp +contextual -dsimp only [↓SD, SU, simprocAttr, rdB, AO, EVB, Ax, Ae, Ah, o7, o8, o9, a10, b10, o10, hv9, lw, hrA, hK10, hAn, hAm, hEl, hEt, lwB]
    exact ⟨(by repeat (first | exact t10_P6 | refine Ag ?_ hDP6.far (by decide))), (by repeat (first | exact t10_T9 | refine Ag ?_ hD9.far (by decide))), (by repeat (first | exact t10_T5 | refine Ag ?_ hD5.far (by decide)))⟩
   ·rw [decide_eq_false hbar] at CK
    refine Ao [2100, 2101] (CK) (by first | (simp +contextual -dsimp only [↓SD, SU, simprocAttr, rdB]; done) | (simp +contextual -dsimp only [↓SD, SU, simprocAttr, rdB, Af]; done) | (simp +contextual -dsimp only [↓SD, SU, simprocAttr, rdB, o7, o8, a9, b9, o9, hv9, lw, hrA, hK10, hAn, hAm, hEl, hEt, lwB, Af]; done)) ?_
    rintro r hp' ⟨rfl, rfl⟩ H61 hH61
    obtain ⟨⟨a61, b61, o61, u61'⟩, k61⟩ := AX hH61
    have u61 : Unf H61 := u61' (by repeat (first | exact uB | exact Ae | refine AR ?_))
    have t61_P6 := k61 P6 hDP6.far (by repeat (first | exact tP6 | refine Ag ?_ hDP6.far (by decide)))
    have t61_T5 := k61 T5 hD5.far (by repeat (first | exact tB_T5 | refine Ag ?_ hD5.far (by decide)))
    have t61_T9 := k61 T9 hD9.far (by repeat (first | exact tB_T9 | refine Ag ?_ hD9.far (by decide)))
    simp +contextual -dsimp only [↓SD, SU, simprocAttr, rdB, Ab, Aa, EVB, Ax, Ae, Ah, o7, o8, o9, a61, b61, o61, u61, hv9, lw, hrA, hK10, hAn, hAm, hEl, hEt, lwB]
    refine Ao [2100, 2101] (A8 C s9 hs9 (bs [101, 110, 100]) (by decide)) (by first | (simp +contextual -dsimp only [↓SD, SU, simprocAttr, rdB]; done) | (simp +contextual -dsimp only [↓SD, SU, simprocAttr, rdB, Af]; done) | (simp +contextual -dsimp only [↓SD, SU, simprocAttr, rdB, o7, o8, o9, a61, b61, o61, hv9, lw, hrA, hK10, hAn, hAm, hEl, hEt, lwB, hest, hesn, Nat.le_refl, Af]; done)) ?_
    rintro r hp' ⟨s99, rfl, hs99, hi99, hc99, rfl, hp99⟩ H62 hH62
    obtain ⟨⟨a62, b62, o62, u62'⟩, k62⟩ := AX hH62
    have u62 : Unf H62 := u62' (by repeat (first | exact u61 | exact Ae | refine AR ?_))
    have t62_P6 := k62 P6 hDP6.far (by repeat (first | exact t61_P6 | refine Ag ?_ hDP6.far (by decide)))
    have t62_T5 := k62 T5 hD5.far (by repeat (first | exact t61_T5 | refine Ag ?_ hD5.far (by decide)))
    have t62_T9 := k62 T9 hD9.far (by repeat (first | exact t61_T9 | refine Ag ?_ hD9.far (by decide)))
    have hr62 := hrootP6 _ t62_P6
    simp +contextual -dsimp only [↓SD, SU, simprocAttr, rdB, Ab, Aa, EVB, Ax, Ae, Ah, o7, o8, o9, o61, a62, b62, o62, u62, hv9, lw, hrA, hK10, hAn, hAm, hEl, hEt, lwB, hest, hesn, Nat.le_refl, hr62, hAn, hAm]
    refine Ai.frz 91 (Ai.post (rdB C s99 ++ (P6 ++ (T9 ++ T5))) ?_)
    simp +contextual -dsimp only [↓SD, SU, simprocAttr, rdB, Ab, Aa, EVB, Ax, Ae, Ah, o7, o8, o9, o61, a62, b62, o62, u62, hv9, lw, hrA, hK10, hAn, hAm, hEl, hEt, lwB, hest, hesn, Nat.le_refl, hr62, hAn, hAm, AO, hpuE, false_and, if_false, List.take_length]
    refine ⟨⟨(by repeat (first | exact t62_P6 | refine Ag ?_ hDP6.far (by decide))), ⟨(by repeat (first | exact t62_T9 | refine Ag ?_ hD9.far (by decide))), (by repeat (first | exact t62_T5 | refine Ag ?_ hD5.far (by decide)))⟩⟩, ?_⟩
    have hfin := Zk (vs := vs6) hJ hs9 (by omega) hs99 hi99 hc99 pos
    rw [← hP6, hv6, hlen6] at hfin
    exact hfin
end Go.Proofs.YtoffpbehgncakaaGreat
