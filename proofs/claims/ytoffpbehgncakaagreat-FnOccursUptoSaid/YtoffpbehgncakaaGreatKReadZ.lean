/-
 A PROGRAM TAKEN BY THE REFERENCE, told weakly: Parse. Conditions: none. (Printed by gen/reade.py, then changed by hand.)
-/
import Derived.Test.YtoffpbehgncakaaGreatKReadL
set_option linter.unusedVariables false
set_option linter.unusedSimpArgs false
set_option maxRecDepth 100000
namespace Go.Proofs.YtoffpbehgncakaaGreat
open Go.RowKit Go.Proofs.YtoffpbehgncakaaGreat.Av Go.Proofs.YtoffpbehgncakaaGreat.Ml
open Go.Proofs.YtoffpbehgncakaaGreat.Av.AVal (av)
open OVal (ov oh on)

def Vt (m : Nat) (l : List Con) : Prop := l.length ≤ m + 1 ∧ ∀ c ∈ l, c.name.size ≤ m ∧ c.arg.items.length ≤ 2 * m + 1 ∧ ∀ y ∈ c.arg.items, y.name.size ≤ m
def TyA (m : Nat) (y : AV) : Prop := ∃ (x : ByteArray) (n : Int) (l : List Con), y = .agg [.str x, .int .i64 n, .sl (l.map av)] ∧ x.size ≤ m ∧ (0 ≤ n ∧ n ≤ 2) ∧ Vt m l
def Lj (m : Nat) (T : Hp) (tys : List AV) : Prop := tys = [] ∨ ∃ (x : ByteArray) (n : Int) (l : List Con) (K v : Nat) (R : List AV), tys = .agg [.str x, .int .i64 n, .row K v l.length] :: R ∧ x.size ≤ m ∧ (0 ≤ n ∧ n ≤ 2) ∧ Vt m l ∧ 10000 ≤ K ∧ Ay T K = some ⟨v, false, 96, 3, l.map av⟩ ∧ ∀ y ∈ R, TyA m y
theorem Lj.mono {m : Nat} {T T' : Hp} {l : List AV} (h : Lj m T l) (hT : Bt T' T) : Lj m T' l := by
 rcases h with h | ⟨x, n, l, K, v, R, h1, h2, h3, h4, h5, h6, h7⟩
 ·exact .inl h
 ·exact .inr ⟨x, n, l, K, v, R, h1, h2, h3, h4, h5, G5 hT _ _ h6, h7⟩
theorem Lj.add {m : Nat} {T : Hp} {l : List AV} {y : AV} (h : Lj m T l) (hl : l ≠ []) (hy : TyA m y) : Lj m T (l ++ [y]) := by
 rcases h with h | ⟨x, n, l, K, v, R, h1, h2, h3, h4, h5, h6, h7⟩
 ·exact absurd h hl
 ·refine .inr ⟨x, n, l, K, v, R ++ [y], by rw [h1]; rfl, h2, h3, h4, h5, h6, fun z hz => ?_⟩
  rcases List.mem_append.1 hz with h | h
  ·exact h7 z h
  ·rw [List.mem_singleton.1 h]; exact hy
def Yz (tys : List AV) : Prop := ∀ (a b : AV) (K v n : Nat) (R : List AV), tys = .agg [a, b, .row K v n] :: R → 1 ≤ n
theorem Yz.add {tys : List AV} {y : AV} (h : Yz tys) (h0 : tys ≠ []) : Yz (tys ++ [y]) := fun a b K v n R e => by
 cases tys with
 | nil => exact absurd rfl h0
 | cons z l =>
  rw [List.cons_append] at e
  exact h a b K v n l (by rw [(List.cons.inj e).1])
theorem F4.mono {m : Nat} {T T' : Hp} {y : AV} (h : F4 m T y) (hT : Bt T' T) : F4 m T' y := by
 obtain ⟨k, p, n, s, ks, P, h1, h2, h3⟩ := h
 exact ⟨k, p, n, s, ks, P, h1, h2.mono hT, h3⟩
theorem AaX {nm i j : Nat} {a b : Hp} (ha : Ee (sub nm i) a) (hb : Ee (sub nm j) b) (hij : i ≠ j) : Ee nm (a ++ b) := ⟨fun p hp => by
 rcases List.mem_append.1 hp with h | h
 ·exact (Eb ha).1 p h
 ·exact (Eb hb).1 p h, EX ha.2.1 hb.2.1 (BG ha hb hij), He ha.2.2 hb.2.2⟩
theorem AaW (nm v : Nat) (ty : TypeId) (esz : Nat) (es : List AV) (h : 10000 ≤ nm) : Ee nm [(nm, ⟨v, false, ty, esz, es⟩)] := ⟨fun p hp => by rw [List.mem_singleton.1 hp]; exact ⟨h, InT.root⟩, ⟨Ft, trivial⟩, AR Ae⟩
def Aah (k0 nm m : Nat) (r : AV) (hp' : Hp) : Prop := (∃ c p : Int, r = .tup [.agg [.Au, .Au], .int .i64 c, .int .i64 p] ∧ c ≠ 0 ∧ hp' = []) ∨
 ∃ (TY : List AV) (u v : Nat) (F : List AV) (T : Hp), r = .tup [.agg [.row k0 u TY.length, .row 2102 v F.length], .int .i64 0, .int .i64 0] ∧ hp' = (k0, ⟨u, false, 91, 3, TY⟩) :: (2102, ⟨v, false, 51, 6, F⟩) :: T ∧ Ee nm T ∧ F.length ≤ 600 ∧ (∀ y ∈ F, F4 m T y) ∧ (F.flatMap kq).Nodup ∧ Lj m T TY ∧ TY.length ≤ m ∧ Yz TY
structure PaS where
 s : RS
 tys : List AV
 v : Nat
 Q : Hp
set_option maxHeartbeats 8000000 in
theorem Yy (nm : Nat) (t : ByteArray) (ht : t.size ≤ 5000) : AW Tryz.prog 42 [.str t] [] (Aah 93 nm (t.size + 2)) := by
 refine Jw.H rfl ?_
 simp +contextual -dsimp only [↓SD, SU, simprocAttr, Jw]
 intro v2
 refine Ad [] (AbT t (by omega)) (by simp +contextual -dsimp only [↓SD, SU, simprocAttr]) ?_
 rintro r hp' (⟨c, p, rfl, hc, hp0, rfl⟩ | ⟨l, rfl, hl, hlk, rfl⟩)
 ·have hc0 : ¬ c = 0 := by omega
  simp +contextual -dsimp only [↓SD, SU, simprocAttr, hc0]
  refine Ai.post [] ?_
  simp +contextual -dsimp only [↓SD, SU, simprocAttr]
  exact .inl ⟨c, p, rfl, hc0, rfl⟩
 simp +contextual -dsimp only [↓SD, SU, simprocAttr]
 intro v29
 obtain ⟨C, rfl, rfl, hE, hm⟩ : ∃ C : RC, C.L = l ∧ C.v = v29 ∧ C.E = t.size ∧ C.m = t.size + 2 := ⟨⟨l, t.size, t.size + 2, v29⟩, rfl, rfl, rfl, rfl⟩
 have hCok : C.ok := ⟨by omega, fun x hx => (by obtain ⟨k1, k2, k3, k4, k5⟩ := hlk x hx; exact ⟨k1, k2, by omega, k4, by omega⟩), by omega, by omega, by omega, by omega⟩
 rw [← hm]
 refine BQ (Ai.slB 2100 0 5 rfl rfl (by simp [AV.one]) rfl (Ai.Fl 2100 0 6 2101 9 1 (b := ⟨C.v, false, 120, 7, [.agg [.sl (C.L.map av), .int .i64 0, .int .i64 t.size, .int .i64 0, .int .i64 0, .sl [], .Au]]⟩) rfl rfl Nat.zero_lt_one rfl (by decide) fun z => Ai.here ?_))
 have hs0 : Bm C ⟨0, 0, 0, [], [], z⟩ := ⟨hCok, Nat.zero_le _, (by show (0 : Int) ≤ 0 ∧ (0 : Int) ≤ 100; decide), ⟨Int.le_refl 0, Int.natCast_nonneg _⟩, Nat.zero_le 2, Nat.le_refl 0, fun x hx => (by cases hx)⟩
 simp +contextual -dsimp only [↓SD, SU, simprocAttr]
 intro v9
 refine C0 (X := PaS) (fun q => ⟨[(2, .ptr 2 v2 0 0), (5, .sl (C.L.map av)), (8, .ptr 2100 C.v 0 0), (9, .ptr 9 v9 0 0)], (9, ⟨v9, false, 26, 2, [.agg [.row 93 q.v q.tys.length, .Au]]⟩) :: (93, ⟨q.v, false, 91, 3, q.tys⟩) :: (2, ⟨v2, false, 26, 2, [.agg [.Au, .Au]]⟩) :: (rdB C q.s ++ q.Q)⟩) (fun q => Bm C q.s ∧ q.tys.length ≤ q.s.i ∧ Lj C.m q.Q q.tys ∧ Ee (sub nm 1) q.Q ∧ (q.s.code = 0 → Yz q.tys)) (fun q => C.L.length - q.s.i) ?_ ?_
 ·refine Ai.Fl 9 0 0 93 91 3 (b := ⟨v9, false, 26, 2, [.agg [.Au, .Au]]⟩) rfl rfl Nat.zero_lt_one rfl (by decide) fun u => ?_
  exact Ai.le ⟨⟨⟨0, 0, 0, [], [], z⟩, [], u, []⟩, ⟨hs0, Nat.le_refl _, .inl rfl, W6 _, fun _ _ _ _ _ _ _ e => by cases e⟩, rfl⟩ (by simp +contextual -dsimp only [↓SD, SU, simprocAttr]) (by simp +contextual -dsimp only [↓SD, SU, simprocAttr, rdB, hE])
 rintro ⟨s, tys, v93, Q⟩ ⟨hs, htl, hty, hDQ, hO⟩
 dsimp only at hs htl hty hDQ hO ⊢
 have hsm := hs.small
 have hfQ := hDQ.far
 have hQQ := hDQ.2.1
 have hUQ := hDQ.2.2
 have CI := BP C s hs (bs [116, 121, 112, 101])
 by_cases hq : BF (A6 C s) = bs [116, 121, 112, 101]
 ·obtain ⟨j1, j2⟩ := Bz hs (by decide) hq
  have e : (s.i : Int) + 1 = ((s.i + 1 : Nat) : Int) := by omega
  have hs1 := Bx hs j1
  rw [decide_eq_true hq] at CI
  simp +contextual -dsimp only [↓SD, SU, simprocAttr, rdB, Ab, Aa]
  refine Ao [2100, 2101] (CI) (by first | (simp +contextual -dsimp only [↓SD, SU, simprocAttr, rdB]; done) | (simp +contextual -dsimp only [↓SD, SU, simprocAttr, rdB, Af]; done) | (simp +contextual -dsimp only [↓SD, SU, simprocAttr, rdB, Af]; done)) ?_
  rintro r hp' ⟨rfl, rfl⟩ H1 hH1
  obtain ⟨⟨a1, b1, o1, u1'⟩, k1⟩ := AX hH1
  have u1 : Unf H1 := u1' (by repeat (first | exact hUQ | exact Ae | refine AR ?_))
  have q1 := k1 Q hfQ (by repeat (first | exact hQQ | refine Ag ?_ hfQ (by decide)))
  simp +contextual -dsimp only [↓SD, SU, simprocAttr, rdB, Ab, Aa, EVB, Ax, Ae, Ah, a1, b1, o1, u1, e]
  refine ⟨by omega, ?_⟩
  by_cases h0 : tys = []
  ·have CT := Sv C { s with i := s.i + 1 } hs1 (sub nm 1) (EP nm 1)
   subst h0
   refine ⟨?_, ?_⟩
   all_goals
    refine Ao [2100, 2101] (CT) (by first | (simp +contextual -dsimp only [↓SD, SU, simprocAttr, rdB]; done) | (simp +contextual -dsimp only [↓SD, SU, simprocAttr, rdB, Af]; done) | (simp +contextual -dsimp only [↓SD, SU, simprocAttr, rdB, a1, b1, o1, e, Af]; done)) ?_
    rintro r hp' ⟨s2, vk, x, nv, lc, rfl, hs2, hi2, hc2, rfl, hx, hnv, hl1, hlc, hcc⟩ H2 hH2
    have hDK := AaW (sub nm 1) vk 96 3 (lc.map av) (EP nm 1)
    obtain ⟨⟨a2, b2, o2, u2'⟩, t2, k2⟩ := Bp hH2 hDK
    have u2 : Unf H2 := u2' (by repeat (first | exact u1 | exact Ae | refine AR ?_))
    have hKT := t2.1
    dsimp only at hi2 hc2 hlc hKT
    have hsm2 := hs2.small
    have hb2 := hs2.2.1
    simp +contextual -dsimp only [↓SD, SU, simprocAttr, rdB, Ab, Aa, EVB, Ax, Ae, Ah, o1, a2, b2, o2, u2, Me, hKT, List.take_length]
    refine ⟨by unfold maxLen; omega, fun u => ?_⟩
    exact Ai.le ⟨⟨s2, [.agg [.str x, .int .i64 nv, .row (sub nm 1) vk lc.length]], u, [(sub nm 1, ⟨vk, false, 96, 3, lc.map av⟩)]⟩, ⟨⟨hs2, by dsimp only [List.length_cons, List.length_nil]; omega, .inr ⟨x, nv, lc, sub nm 1, vk, [], rfl, hx, hnv, ⟨by omega, hcc⟩, EP nm 1, Ft, fun y hy => by cases hy⟩, hDK, fun h a b K v n R e => by cases e; exact hl1 h⟩, by dsimp only; omega⟩, rfl⟩ (by simp +contextual -dsimp only [↓SD, SU, simprocAttr]) (by simp +contextual -dsimp only [↓SD, SU, simprocAttr, rdB, List.take_length, List.length_append, EVB, Ax, Ae, Ah, o1, a2, b2, o2, Me, hKT])
  ·have CT := UW C { s with i := s.i + 1 } hs1
   refine ⟨?_, ?_⟩
   all_goals
    refine Ao [2100, 2101] (CT) (by first | (simp +contextual -dsimp only [↓SD, SU, simprocAttr, rdB]; done) | (simp +contextual -dsimp only [↓SD, SU, simprocAttr, rdB, Af]; done) | (simp +contextual -dsimp only [↓SD, SU, simprocAttr, rdB, a1, b1, o1, e, Af]; done)) ?_
    rintro r hp' ⟨s2, rfl, hs2, hi2, hc2, x, nv, lc, rfl, hx, hnv, hlc, hcc⟩ H2 hH2
    obtain ⟨⟨a2, b2, o2, u2'⟩, k2⟩ := AX hH2
    have u2 : Unf H2 := u2' (by repeat (first | exact u1 | exact Ae | refine AR ?_))
    have q2 := k2 Q hfQ (by repeat (first | exact q1 | refine Ag ?_ hfQ (by decide)))
    dsimp only at hi2 hc2 hlc
    have hsm2 := hs2.small
    have hb2 := hs2.2.1
    simp +contextual -dsimp only [↓SD, SU, simprocAttr, rdB, Ab, Aa, EVB, Ax, Ae, Ah, o1, a2, b2, o2, u2, List.take_length]
    refine ⟨⟨by omega, by unfold maxLen; omega⟩, fun u => ?_⟩
    exact Ai.le ⟨⟨s2, tys ++ [.agg [.str x, .int .i64 nv, .sl (lc.map av)]], u, Q⟩, ⟨⟨hs2, by simp; omega, hty.add h0 ⟨x, nv, lc, rfl, hx, hnv, by omega, hcc⟩, hDQ, fun h => (hO (hc2 h)).add h0⟩, by dsimp only; omega⟩, rfl⟩ (by simp +contextual -dsimp only [↓SD, SU, simprocAttr]) (by simp +contextual -dsimp only [↓SD, SU, simprocAttr, rdB, List.take_length, List.length_append, EVB, Ax, Ae, Ah, o1, a2, b2, o2]; (repeat (first | exact q2 | refine Ag ?_ hfQ (by decide))))
 rw [decide_eq_false hq] at CI
 simp +contextual -dsimp only [↓SD, SU, simprocAttr, rdB, Ab, Aa]
 refine Ao [2100, 2101] (CI) (by first | (simp +contextual -dsimp only [↓SD, SU, simprocAttr, rdB]; done) | (simp +contextual -dsimp only [↓SD, SU, simprocAttr, rdB, Af]; done) | (simp +contextual -dsimp only [↓SD, SU, simprocAttr, rdB, Af]; done)) ?_
 rintro r hp' ⟨rfl, rfl⟩ H21 hH21
 obtain ⟨⟨a21, b21, o21, u21'⟩, k21⟩ := AX hH21
 have u21 : Unf H21 := u21' (by repeat (first | exact hUQ | exact Ae | refine AR ?_))
 have q21 := k21 Q hfQ (by repeat (first | exact hQQ | refine Ag ?_ hfQ (by decide)))
 simp +contextual -dsimp only [↓SD, SU, simprocAttr, rdB, Ab, Aa, EVB, Ax, Ae, Ah, a21, b21, o21, u21]
 refine Ao [2100, 2101] (U3 C s hs 0 (by decide) (sub nm 0)) (by first | (simp +contextual -dsimp only [↓SD, SU, simprocAttr, rdB]; done) | (simp +contextual -dsimp only [↓SD, SU, simprocAttr, rdB, Af]; done) | (simp +contextual -dsimp only [↓SD, SU, simprocAttr, rdB, a21, b21, o21, Af]; done)) ?_
 rintro X22 hp' ⟨s22, T22, w22, rfl, hs22, hi22, hc22, hX22, hD22, N22, hK22, hN22⟩ H22 hH22
 have hv22 := hX22.ev
 have hsm22 := hs22.small
 obtain ⟨⟨a22, b22, o22, u22'⟩, t22, k22⟩ := Bp hH22 hD22
 have u22 : Unf H22 := u22' (by repeat (first | exact u21 | exact Ae | refine AR ?_))
 simp +contextual -dsimp only [↓SD, SU, simprocAttr, rdB, Ab, Aa, EVB, Ax, Ae, Ah, o21, a22, b22, o22, u22, hv22]
 intro v10
 have hap : ∀ p ∈ Q, ∀ q ∈ T22, q.1 ≠ p.1 := BG hD22 hDQ (by decide)
 have q22 := k22 Q hfQ hap (by repeat (first | exact q21 | refine Ag ?_ hfQ (by decide)))
 have hDn : Ee nm (T22 ++ Q) := AaX hD22 hDQ (by decide)
 have hlen : C.L.length ≤ t.size := hl
 by_cases hcd : s22.code = 0
 case' neg =>
  have e0 := eq_false hcd
  simp +contextual -dsimp only [↓SD, SU, simprocAttr, rdB, Ab, Aa, EVB, Ax, Ae, Ah, o21, a22, b22, o22, u22, hv22, e0]
  repeat' (refine And.intro ?_ ?_)
  all_goals
   refine Ai.post [] ?_
   simp +contextual -dsimp only [↓SD, SU, simprocAttr, rdB, Ab, Aa]
   exact .inl ⟨_, _, rfl, hcd, rfl⟩
 have e0 := eq_true hcd
 by_cases hil : s22.i < C.L.length
 ·
  have e1 := eq_true hil
  simp +contextual -dsimp only [↓SD, SU, simprocAttr, rdB, Ab, Aa, EVB, Ax, Ae, Ah, o21, a22, b22, o22, u22, hv22, e0, e1, Aa]
  refine Ao [2100, 2101] (B4 C s22 hs22 7 (by omega)) (by first | (simp +contextual -dsimp only [↓SD, SU, simprocAttr, rdB]; done) | (simp +contextual -dsimp only [↓SD, SU, simprocAttr, rdB, Af]; done) | (simp +contextual -dsimp only [↓SD, SU, simprocAttr, rdB, o21, a22, b22, o22, hv22, Af]; done)) ?_
  rintro r hp' ⟨s41, rfl, hs41, hi41, hc41, rfl, _, hf41⟩ H41 hH41
  obtain ⟨⟨a41, b41, o41, u41'⟩, k41⟩ := AX hH41
  have u41 : Unf H41 := u41' (by repeat (first | exact u22 | exact Ae | refine AR ?_))
  have t41_T22 := k41 T22 hD22.far (by repeat (first | exact t22 | refine Ag ?_ hD22.far (by decide)))
  have e41 := eq_false hf41
  simp +contextual -dsimp only [↓SD, SU, simprocAttr, rdB, Ab, Aa, EVB, Ax, Ae, Ah, o21, o22, a41, b41, o41, u41, hv22, e41]
  repeat' (refine And.intro ?_ ?_)
  all_goals
   refine Ai.post [] ?_
   simp +contextual -dsimp only [↓SD, SU, simprocAttr, rdB, Ab, Aa]
   exact .inl ⟨_, _, rfl, hf41, rfl⟩
 have e1 := eq_false hil
 simp +contextual -dsimp only [↓SD, SU, simprocAttr, rdB, Ab, Aa, EVB, Ax, Ae, Ah, o21, a22, b22, o22, u22, hv22, e0, e1, Aa]
 obtain ⟨g1, g2, g3⟩ := hc22 hcd
 have hb2 := hs22.2.1
 have hsm2 := hs22.small
 have CL := U1 C.m T22 w22 X22 N22 hX22 hK22 [] .Au [] (.inl ⟨rfl, rfl, rfl⟩) (by simp; omega)
 refine Ao [] CL rfl ?_
 rintro r hp' ⟨v, F, rfl, rfl, hFl, hFn, hFq⟩ HA hHA
 rw [Ah] at hHA
 subst hFl
 have hTt : Bt H22 (T22 ++ Q) := AO.2 ⟨t22, q22⟩
 have hty' := hty.mono (AO.1 hDn.2.1).2
 have hFn' := fun y hy => (hFn y hy).mono (EB (b := Q) hD22.2.1)
 generalize hTe : T22 ++ Q = T at *
 have hfarT : L9 T := hDn.far
 subst hHA
 simp +contextual -dsimp only [↓SD, SU, simprocAttr, rdB, Ab, Aa, List.nil_append, List.length_nil, Nat.zero_add, List.cons_append, EVB, Ax, Ae, Ah, o21, a22, b22, o22, hv22]
 by_cases hF : (600 : Int) < F.length
 case' pos =>
  have eF := eq_true hF
  simp +contextual -dsimp only [↓SD, SU, simprocAttr, rdB, Ab, Aa, eF, EVB, Ax, Ae, Ah, o21, a22, b22, o22, hv22]
  refine AB (X := Nat × Bool) (fun q => ⟨[(2, .ptr 2 v2 0 0), (9, .ptr 9 v9 0 0), (11, .bool q.2), (93, .row 93 v93 tys.length), (94, .int .i64 tys.length), (95, .int .i64 q.1)], (9, ⟨v9, false, 26, 2, [.agg [.row 93 v93 tys.length, .row 2102 v F.length]]⟩) :: (93, ⟨v93, false, 91, 3, tys⟩) :: (2, ⟨v2, false, 26, 2, [.agg [.Au, .Au]]⟩) :: (2102, ⟨v, false, 51, 6, F⟩) :: T⟩) (fun q => q.1 ≤ tys.length ∧ (q.2 = false → F.length ≤ 600)) (fun q => tys.length - q.1) (0, true) ⟨Nat.zero_le _, fun h => by cases h⟩ (by simp +contextual -dsimp only [↓SD, SU, simprocAttr]) (by simp +contextual -dsimp only [↓SD, SU, simprocAttr, EVB, Ax, Ae, Ah, o21, a22, b22, o22, hv22]; (repeat (first | exact hTt | refine Ag ?_ hfarT (by decide)))) ?_
 case' neg =>
  have eF := eq_false hF
  simp +contextual -dsimp only [↓SD, SU, simprocAttr, rdB, Ab, Aa, eF, EVB, Ax, Ae, Ah, o21, a22, b22, o22, hv22]
  refine AB (X := Nat × Bool) (fun q => ⟨[(2, .ptr 2 v2 0 0), (9, .ptr 9 v9 0 0), (11, .bool q.2), (93, .row 93 v93 tys.length), (94, .int .i64 tys.length), (95, .int .i64 q.1)], (9, ⟨v9, false, 26, 2, [.agg [.row 93 v93 tys.length, .row 2102 v F.length]]⟩) :: (93, ⟨v93, false, 91, 3, tys⟩) :: (2, ⟨v2, false, 26, 2, [.agg [.Au, .Au]]⟩) :: (2102, ⟨v, false, 51, 6, F⟩) :: T⟩) (fun q => q.1 ≤ tys.length ∧ (q.2 = false → F.length ≤ 600)) (fun q => tys.length - q.1) (0, decide ((8 : Int) < tys.length)) ⟨Nat.zero_le _, fun _ => by omega⟩ (by simp +contextual -dsimp only [↓SD, SU, simprocAttr]) (by simp +contextual -dsimp only [↓SD, SU, simprocAttr, EVB, Ax, Ae, Ah, o21, a22, b22, o22, hv22]; (repeat (first | exact hTt | refine Ag ?_ hfarT (by decide)))) ?_
 all_goals
  rintro ⟨j, B⟩ ⟨hj, hB⟩
  dsimp only at hj hB ⊢
  by_cases hlt : j < tys.length
  ·have e3 : tys.getD j .top = tys[j] := by rw [List.getD_eq_getElem?_getD, List.getElem?_eq_getElem hlt]; rfl
   have key : (∃ x nv, ∃ l : List Con, tys[j] = .agg [.str x, .int .i64 nv, .sl (l.map av)]) ∨ ∃ x nv, ∃ l : List Con, ∃ K vk, tys[j] = .agg [.str x, .int .i64 nv, .row K vk l.length] ∧ 10000 ≤ K ∧ Ay T K = some ⟨vk, false, 96, 3, l.map av⟩ := by
    rcases hty' with h | ⟨x, n, l, K, vk, R, h1, h2, h3, h4, h5, h6, h7⟩
    ·rw [h] at hlt; exact absurd hlt (by simp)
    ·subst h1
     cases j with
     | zero => exact .inr ⟨x, n, l, K, vk, rfl, h5, h6⟩
     | succ j =>
      obtain ⟨x, n, l, h, _⟩ := h7 _ (List.getElem_mem (l := R) (n := j) (by simpa using hlt))
      exact .inl ⟨x, n, l, h⟩
   rcases key with ⟨x, nv, lc, e2⟩ | ⟨x, nv, lc, K, vk, e2, hK, hKT⟩
   all_goals rw [e2] at e3
   case' inl =>
    simp +contextual -dsimp only [↓SD, SU, simprocAttr, hlt, e3, Aa, Ab, false_and]
    intro v13
   case' inr =>
    have hKn : ∀ q, q < 10000 → (q == K) = false := fun q hq => beq_eq_false_iff_ne.2 (by omega)
    simp +contextual -dsimp only [↓SD, SU, simprocAttr, hlt, e3, Aa, Ab, false_and, hKn, hKT]
    intro v13
   all_goals
    by_cases h8 : (8 : Int) < lc.length
    ·have e8 := eq_true h8
     first
      | (simp +contextual -dsimp only [↓SD, SU, simprocAttr, e8, Aa, Ab, hKn, hKT]; exact ⟨by omega, Ai.le ⟨(j + 1, true), ⟨⟨hlt, fun h => by cases h⟩, (by first | omega | (simp only; omega))⟩, rfl⟩ (by simp +contextual -dsimp only [↓SD, SU, simprocAttr, Int.natCast_add]) (by simp +contextual -dsimp only [↓SD, SU, simprocAttr]; (repeat (first | exact hDn.2.1 | refine Ag ?_ hfarT (by decide))))⟩)
      | (simp +contextual -dsimp only [↓SD, SU, simprocAttr, e8, Aa, Ab]; exact ⟨by omega, Ai.le ⟨(j + 1, true), ⟨⟨hlt, fun h => by cases h⟩, (by first | omega | (simp only; omega))⟩, rfl⟩ (by simp +contextual -dsimp only [↓SD, SU, simprocAttr, Int.natCast_add]) (by simp +contextual -dsimp only [↓SD, SU, simprocAttr]; (repeat (first | exact hDn.2.1 | refine Ag ?_ hfarT (by decide))))⟩)
    ·have e8 := eq_false h8
     first
      | (simp +contextual -dsimp only [↓SD, SU, simprocAttr, e8, Aa, Ab, hKn, hKT]; exact ⟨by omega, Ai.le ⟨(j + 1, B), ⟨⟨hlt, hB⟩, (by first | omega | (simp only; omega))⟩, rfl⟩ (by simp +contextual -dsimp only [↓SD, SU, simprocAttr, Int.natCast_add]) (by simp +contextual -dsimp only [↓SD, SU, simprocAttr]; (repeat (first | exact hDn.2.1 | refine Ag ?_ hfarT (by decide))))⟩)
      | (simp +contextual -dsimp only [↓SD, SU, simprocAttr, e8, Aa, Ab]; exact ⟨by omega, Ai.le ⟨(j + 1, B), ⟨⟨hlt, hB⟩, (by first | omega | (simp only; omega))⟩, rfl⟩ (by simp +contextual -dsimp only [↓SD, SU, simprocAttr, Int.natCast_add]) (by simp +contextual -dsimp only [↓SD, SU, simprocAttr]; (repeat (first | exact hDn.2.1 | refine Ag ?_ hfarT (by decide))))⟩)
  ·obtain rfl : j = tys.length := by omega
   cases B with
   | true =>
    simp +contextual -dsimp only [↓SD, SU, simprocAttr, Nat.lt_irrefl]
    refine BQ (Ai.here ?_)
    simp +contextual -dsimp only [↓SD, SU, simprocAttr]
    refine Ai.post [] ?_
    simp +contextual -dsimp only [↓SD, SU, simprocAttr]
    exact .inl ⟨10, 0, rfl, by decide, rfl⟩
   | false =>
    simp +contextual -dsimp only [↓SD, SU, simprocAttr, Nat.lt_irrefl]
    refine Ai.post ((93, ⟨v93, false, 91, 3, tys⟩) :: (2102, ⟨v, false, 51, 6, F⟩) :: T) ?_
    simp +contextual -dsimp only [↓SD, SU, simprocAttr]
    exact ⟨(by repeat (first | exact hDn.2.1 | refine Ag ?_ hfarT (by decide))), .inr ⟨_, v93, v, F, T, rfl, rfl, hDn, hB rfl, hFn', hFq ▸ hN22.1, hty', by omega, hO (hc22 hcd).1⟩⟩
theorem Oc (nm : Nat) (t : ByteArray) (ht : t.size ≤ 5000) : AW Tryz.prog 42 [.str t] [] (Aah 2103 nm (t.size + 2)) := Gq (Yy nm t ht) fun r hp' h => by
 rcases h with ⟨c, p, rfl, h1, rfl⟩ | ⟨TY, u, v, F, T, rfl, rfl, hD, h⟩
 ·exact Ai.le (t := ⟨[(0, .tup [.agg [.Au, .Au], .int .i64 c, .int .i64 p])], []⟩) (.inl ⟨c, p, rfl, h1, rfl⟩) (by simp [Oq, Bf]) trivial
 ·refine Ai.Acy 0 0 0 93 2103 (cs := [.row 93 u TY.length, .row 2102 v F.length]) (ts := [.agg [.row 93 u TY.length, .row 2102 v F.length], .int .i64 0, .int .i64 0]) (b := ⟨u, false, 91, 3, TY⟩) rfl rfl rfl rfl rfl fun v' => ?_
  refine Ai.le (t := ⟨[(0, .tup [.agg [.row 2103 v' TY.length, .row 2102 v F.length], .int .i64 0, .int .i64 0])], (2103, ⟨v', false, 91, 3, TY⟩) :: (2102, ⟨v, false, 51, 6, F⟩) :: T⟩) (.inr ⟨TY, v', v, F, T, rfl, rfl, hD, h⟩) (by simp [Oq, Bf]) ?_
  have hr : BU [93] ((93, (⟨u, false, 91, 3, TY⟩ : Box)) :: (2102, ⟨v, false, 51, 6, F⟩) :: T) = (2102, ⟨v, false, 51, 6, F⟩) :: T := by
   show (2102, _) :: BU [93] T = _
   rw [Ps hD.far]
  rw [hr]
  exact ⟨Ft, (B5 (by decide)).trans Ft, AP.2 fun p hp => by
   have := hD.far p hp
   rw [B5 (by omega), B5 (by omega)]
   exact AP.1 hD.2.1 p hp⟩
end Go.Proofs.YtoffpbehgncakaaGreat
