/-
 TYPES TAKEN BY THE REFERENCE'S READER, told weakly: some type within bounds. Conditions: none.
-/
import Derived.Test.YtoffpbehgncakaaGreatKReadW
import Derived.Test.YtoffpbehgncakaaGreatKJ19
import Derived.Test.YtoffpbehgncakaaGreatKJ20
set_option linter.unusedVariables false
set_option linter.unusedSimpArgs false
set_option maxRecDepth 100000
namespace Go.Proofs.YtoffpbehgncakaaGreat
open Go.RowKit Go.Proofs.YtoffpbehgncakaaGreat.Av Go.Proofs.YtoffpbehgncakaaGreat.Ml
open Go.Proofs.YtoffpbehgncakaaGreat.Av.AVal (av)

def TyP (C : RC) (s : RS) (s' : RS) (r : AV) : Prop := ∃ l : List Bs, r = .agg [.sl (l.map av)] ∧ (s'.code = 0 → l.length + s.i ≤ s'.i ∧ s.i < s'.i) ∧ l.length + 2 * s.i ≤ 2 * s'.i + 1 ∧ ∀ x ∈ l, x.name.size ≤ C.m
def TyC (C : RC) (s : RS) (d : Int) : Prop := AW Tryz.prog 141 [.ptr 2100 C.v 0 0, .int .i64 d] (rdB C s) (RP C s (TyP C s))
theorem Kr {C : RC} {x : ByteArray} {l : List Ty} (hx : x.size ≤ C.m) (h : ∀ t ∈ l, ∀ y ∈ t.items, y.name.size ≤ C.m) : ∀ y ∈ (Dz x l).items, y.name.size ≤ C.m := by
 intro y hy
 rcases List.mem_cons.1 (show y ∈ (⟨0, x, l.length⟩ : Bs) :: BV l from hy) with rfl | hy
 ·exact hx
 ·obtain ⟨m, hm, hy⟩ := List.mem_flatten.1 hy
  obtain ⟨t, ht, rfl⟩ := List.mem_map.1 hm
  exact h t ht y hy
theorem LG (C : RC) (s : RS) (hs : Bm C s) (d : Int) (hc : s.code ≠ 0) : TyC C s d := by
 refine Dp.H rfl ?_
 simp +contextual -dsimp only [↓SD, SU, simprocAttr, rdB, Ab, Aa, Dp, hc]
 intro v4
 refine Ai.slB 4 0 0 rfl rfl (by simp [AV.one]) rfl ?_
 refine Ai.post (rdB C s) ?_
 simp +contextual -dsimp only [↓SD, SU, simprocAttr, rdB, Ab, Aa]
 exact ⟨s, rfl, hs, Nat.le_refl _, fun h => h, [], rfl, fun h => absurd h hc, by simp, fun x hx => by cases hx⟩
theorem SE (C : RC) (s : RS) (hs : Bm C s) (d : Int) (hd : 0 ≤ d ∧ d ≤ 100) (IH : ∀ s1 d, Bm C s1 → s.i < s1.i → 0 ≤ d ∧ d ≤ 200 → TyC C s1 d) : AW Tryz.prog 184 [.ptr 2100 C.v 0 0, .int .i64 d] (rdB C s) (RP C s (TyP C s)) := by
 have CT : ∀ s1 d, Bm C s1 → (s1.code ≠ 0 ∨ s.i < s1.i) → 0 ≤ d ∧ d ≤ 200 → TyC C s1 d := fun s1 d h1 h2 h3 => by
  by_cases hc : s1.code = 0
  ·exact IH s1 d h1 (h2.resolve_left (fun h => h hc)) h3
  ·exact LG C s1 h1 d hc
 obtain ⟨ht, hat⟩ := Cw hs
 have hsm := hs.small
 refine GY.H rfl ?_
 simp +contextual -dsimp only [↓SD, SU, simprocAttr, rdB, Ab, Aa, GY]
 intro v4
 (refine Ad [2100, 2101] (Be C s hs) (by first | (simp +contextual -dsimp only [↓SD, SU, simprocAttr, rdB]; done) | (simp +contextual -dsimp only [↓SD, SU, simprocAttr, rdB, Af]; done) | (simp +contextual -dsimp only [↓SD, SU, simprocAttr, rdB, c0]; done)) ?_; rintro r hp' ⟨rfl, rfl⟩)
 by_cases h5 : (A6 C s).kind = 5
 ·obtain ⟨h1, h2⟩ := hat (by omega)
  have hvl := hs.2.2.2.2.1
  simp +contextual -dsimp only [↓SD, SU, simprocAttr, rdB, Ab, Aa, AY, h5]
  intro v5
  refine AB (X := Nat × Bool) (fun x => ⟨[(0, .ptr 2100 C.v 0 0), (4, .ptr 4 v4 0 0), (5, .ptr 5 v5 0 0), (6, .bool x.2), (23, .sl (s.vars.map av)), (24, .int .i64 s.vars.length), (25, .int .i64 x.1)], (5, ⟨v5, false, 158, 4, [.agg [.int .i64 5, .int .i64 (A6 C s).n, .str (A6 C s).s, .int .i64 (A6 C s).pos]]⟩) :: (4, ⟨v4, false, 94, 1, [.agg [.Au]]⟩) :: rdB C s⟩) (fun x => x.1 ≤ s.vars.length) (fun x => s.vars.length - x.1) (0, false) (Nat.zero_le _) (by simp +contextual -dsimp only [↓SD, SU, simprocAttr]) (by simp +contextual -dsimp only [↓SD, SU, simprocAttr, rdB]) ?_
  rintro ⟨k, b⟩ hk
  dsimp only at hk ⊢
  by_cases hlt : k < s.vars.length
  ·have e1 := getD_map av s.vars k .top hlt
   generalize s.vars[k] = x at *
   by_cases hx : x = (A6 C s).n
   ·simp +contextual -dsimp only [↓SD, SU, simprocAttr, rdB, Ab, Aa, hlt, e1, Af, hx]
    exact ⟨by omega, Ai.le ⟨(k + 1, true), ⟨hlt, (by first | omega | (simp only; omega))⟩, rfl⟩ (by simp +contextual -dsimp only [↓SD, SU, simprocAttr, Int.natCast_add]) (by simp +contextual -dsimp only [↓SD, SU, simprocAttr, rdB])⟩
   ·simp +contextual -dsimp only [↓SD, SU, simprocAttr, rdB, Ab, Aa, hlt, e1, Af, hx]
    exact ⟨by omega, Ai.le ⟨(k + 1, b), ⟨hlt, (by first | omega | (simp only; omega))⟩, rfl⟩ (by simp +contextual -dsimp only [↓SD, SU, simprocAttr, Int.natCast_add]) (by simp +contextual -dsimp only [↓SD, SU, simprocAttr, rdB])⟩
  cases b with
  | false =>
   simp +contextual -dsimp only [↓SD, SU, simprocAttr, rdB, Ab, Aa, hlt]
   (refine Ad [2100, 2101] (B4 C s hs 7 (by omega)) (by first | (simp +contextual -dsimp only [↓SD, SU, simprocAttr, rdB]; done) | (simp +contextual -dsimp only [↓SD, SU, simprocAttr, rdB, Af]; done) | (simp +contextual -dsimp only [↓SD, SU, simprocAttr, rdB, c0]; done)) ?_; rintro r hp' ⟨s1, rfl, hs1, hi1, hc1, rfl, hi1', hc1'⟩)
   simp +contextual -dsimp only [↓SD, SU, simprocAttr, rdB, Ab, Aa]
   refine Ai.slB 4 0 0 rfl rfl (by simp [AV.one]) rfl ?_
   refine Ai.post (rdB C s1) ?_
   simp +contextual -dsimp only [↓SD, SU, simprocAttr, rdB, Ab, Aa]
   exact ⟨s1, rfl, hs1, hi1, hc1, [], rfl, fun h => absurd h hc1', by simp; omega, fun x hx => by cases hx⟩
  | true =>
   have hsv := hs
   obtain ⟨g0, g1, g2, g3, g4, g5, g6⟩ := hs
   have e : (s.i : Int) + 1 = ((s.i + 1 : Nat) : Int) := by omega
   simp +contextual -dsimp only [↓SD, SU, simprocAttr, rdB, Ab, Aa, hlt, e]
   refine ⟨by omega, fun v47 v9 => ?_⟩
   refine AB (X := Nat × Int) (fun x => ⟨[(4, .ptr 4 v4 0 0), (5, .ptr 5 v5 0 0), (9, .ptr 9 v9 0 0), (52, .sl (s.vars.map av)), (53, .int .i64 s.vars.length), (54, .int .i64 x.1)], (9, ⟨v9, false, 94, 1, [.agg [.row 47 v47 1]]⟩) :: (47, ⟨v47, false, 136, 3, [.agg [.int .i64 x.2, .str (bs []), .int .i64 0]]⟩) :: (5, ⟨v5, false, 158, 4, [.agg [.int .i64 5, .int .i64 (A6 C s).n, .str (A6 C s).s, .int .i64 (A6 C s).pos]]⟩) :: (4, ⟨v4, false, 94, 1, [.agg [.Au]]⟩) :: rdB C { s with i := s.i + 1 }⟩) (fun x => x.1 ≤ s.vars.length) (fun x => s.vars.length - x.1) (0, 0) (Nat.zero_le _) (by simp +contextual -dsimp only [↓SD, SU, simprocAttr]) (by simp +contextual -dsimp only [↓SD, SU, simprocAttr, rdB]) ?_
   rintro ⟨k, y⟩ hk
   dsimp only at hk ⊢
   by_cases hlt : k < s.vars.length
   ·have e1 := getD_map av s.vars k .top hlt
    generalize s.vars[k] = x at *
    by_cases hx : x = (A6 C s).n
    ·simp +contextual -dsimp only [↓SD, SU, simprocAttr, rdB, Ab, Aa, hlt, e1, Af, hx]
     exact ⟨by omega, Ai.le ⟨(k + 1, (k : Int)), ⟨hlt, (by first | omega | (simp only; omega))⟩, rfl⟩ (by simp +contextual -dsimp only [↓SD, SU, simprocAttr, Int.natCast_add]) (by simp +contextual -dsimp only [↓SD, SU, simprocAttr, rdB])⟩
    ·simp +contextual -dsimp only [↓SD, SU, simprocAttr, rdB, Ab, Aa, hlt, e1, Af, hx]
     exact ⟨by omega, Ai.le ⟨(k + 1, y), ⟨hlt, (by first | omega | (simp only; omega))⟩, rfl⟩ (by simp +contextual -dsimp only [↓SD, SU, simprocAttr, Int.natCast_add]) (by simp +contextual -dsimp only [↓SD, SU, simprocAttr, rdB])⟩
   ·simp +contextual -dsimp only [↓SD, SU, simprocAttr, rdB, Ab, Aa, hlt]
    refine Ai.frz 47 (Ai.post (rdB C { s with i := s.i + 1 }) ?_)
    simp +contextual -dsimp only [↓SD, SU, simprocAttr, rdB, Ab, Aa]
    exact ⟨{ s with i := s.i + 1 }, rfl, ⟨g0, h1, g2, g3, g4, by dsimp only; omega, g6⟩, Nat.le_succ _, fun h => h, [⟨y, bs [], 0⟩], rfl, fun _ => by simp; omega, by simp; omega, fun x hx => by rw [List.mem_singleton.1 hx]; exact Nat.zero_le _⟩
 by_cases h3 : (A6 C s).kind = 3
 ·obtain ⟨h1, h2⟩ := hat (by omega)
  obtain ⟨g0, g1, g2, g3, g4, g5, g6⟩ := hs
  have e : (s.i : Int) + 1 = ((s.i + 1 : Nat) : Int) := by omega
  simp +contextual -dsimp only [↓SD, SU, simprocAttr, rdB, Ab, Aa, AY, h5, h3, e]
  intro v5
  refine ⟨by omega, ?_⟩
  refine Ad [] (QG _) (by simp +contextual -dsimp only [↓SD, SU, simprocAttr]) ?_
  rintro r hp' ⟨rfl, rfl⟩
  simp +contextual -dsimp only [↓SD, SU, simprocAttr, rdB, Ab, Aa, P2]
  refine Ai.post (rdB C { s with i := s.i + 1 }) ?_
  simp +contextual -dsimp only [↓SD, SU, simprocAttr, rdB, Ab, Aa]
  exact ⟨{ s with i := s.i + 1 }, rfl, ⟨g0, h1, g2, g3, g4, by dsimp only; omega, g6⟩, Nat.le_succ _, fun h => h, (Dz (A6 C s).s []).items, rfl, fun _ => by simp [Dz, BV]; omega, by simp [Dz, BV]; omega, Kr ht.2.2.1 (fun t ht => by cases ht)⟩
 ·simp +contextual -dsimp only [↓SD, SU, simprocAttr, rdB, Ab, Aa, AY, h5, h3]
  intro v5
  (refine Ad [2100, 2101] (A8 C s hs (bs [40]) (by decide)) (by first | (simp +contextual -dsimp only [↓SD, SU, simprocAttr, rdB]; done) | (simp +contextual -dsimp only [↓SD, SU, simprocAttr, rdB, Af]; done) | (simp +contextual -dsimp only [↓SD, SU, simprocAttr, rdB, c0]; done)) ?_; rintro r hp' ⟨s1, rfl, hs1, hi1, hc1, rfl, hp1⟩)
  simp +contextual -dsimp only [↓SD, SU, simprocAttr, rdB, Ab, Aa]
  refine ⟨by omega, ?_⟩
  (refine Ad [2100, 2101] (CT s1 (d + 1) hs1 (by omega) (by omega)) (by first | (simp +contextual -dsimp only [↓SD, SU, simprocAttr, rdB]; done) | (simp +contextual -dsimp only [↓SD, SU, simprocAttr, rdB, Af]; done) | (simp +contextual -dsimp only [↓SD, SU, simprocAttr, rdB, c0]; done)) ?_; rintro r hp' ⟨s2, rfl, hs2, hi2, hc2, l, rfl, ha, hb, hn⟩)
  have hsm2 := hs2.small
  simp +contextual -dsimp only [↓SD, SU, simprocAttr, rdB, Ab, Aa]
  intro v12
  have CI := BP C s2 hs2 (bs [44])
  by_cases hcm : BF (A6 C s2) = bs [44]
  ·obtain ⟨k1, k2⟩ := Bz hs2 (by decide) hcm
   have e : (s2.i : Int) + 1 = ((s2.i + 1 : Nat) : Int) := by omega
   rw [decide_eq_true hcm] at CI
   (refine Ad [2100, 2101] (CI) (by first | (simp +contextual -dsimp only [↓SD, SU, simprocAttr, rdB]; done) | (simp +contextual -dsimp only [↓SD, SU, simprocAttr, rdB, Af]; done) | (simp +contextual -dsimp only [↓SD, SU, simprocAttr, rdB, c0]; done)) ?_; rintro r hp' ⟨rfl, rfl⟩)
   simp +contextual -dsimp only [↓SD, SU, simprocAttr, rdB, Ab, Aa, e]
   refine ⟨by omega, by omega, ?_⟩
   have hs3 : Bm C { s2 with i := s2.i + 1 } := by
    obtain ⟨g0, g1, g2, g3, g4, g5, g6⟩ := hs2
    exact ⟨g0, k1, g2, g3, g4, by dsimp only; omega, g6⟩
   (refine Ad [2100, 2101] (CT { s2 with i := s2.i + 1 } (d + 1) hs3 (.inr (by dsimp only; omega)) (by omega)) (by first | (simp +contextual -dsimp only [↓SD, SU, simprocAttr, rdB]; done) | (simp +contextual -dsimp only [↓SD, SU, simprocAttr, rdB, Af]; done) | (simp +contextual -dsimp only [↓SD, SU, simprocAttr, rdB, c0]; done)) ?_; rintro r hp' ⟨s4, rfl, hs4, hi4, hc4, l4, rfl, ha4, hb4, hn4⟩)
   dsimp only at hi4 ha4 hb4 hc4
   simp +contextual -dsimp only [↓SD, SU, simprocAttr, rdB, Ab, Aa]
   intro v13
   (refine Ad [2100, 2101] (A8 C s4 hs4 (bs [41]) (by decide)) (by first | (simp +contextual -dsimp only [↓SD, SU, simprocAttr, rdB]; done) | (simp +contextual -dsimp only [↓SD, SU, simprocAttr, rdB, Af]; done) | (simp +contextual -dsimp only [↓SD, SU, simprocAttr, rdB, c0]; done)) ?_; rintro r hp' ⟨s5, rfl, hs5, hi5, hc5, rfl, hp5⟩)
   simp +contextual -dsimp only [↓SD, SU, simprocAttr, rdB, Ab, Aa]
   (refine Ad [2100, 2101] (BX C s5 hs5 3 (by decide)) (by first | (simp +contextual -dsimp only [↓SD, SU, simprocAttr, rdB]; done) | (simp +contextual -dsimp only [↓SD, SU, simprocAttr, rdB, Af]; done) | (simp +contextual -dsimp only [↓SD, SU, simprocAttr, rdB, c0]; done)) ?_; rintro r hp' ⟨s6, rfl, hs6, hi6, hc6, x, rfl, hx, hp6⟩)
   have hsm6 := hs6.small
   simp +contextual -dsimp only [↓SD, SU, simprocAttr, rdB, Ab, Aa]
   refine Ad [] (Gd x [⟨l⟩, ⟨l4⟩] (by simp) (by simp [BV]; omega)) (by simp +contextual -dsimp only [↓SD, SU, simprocAttr]) ?_
   rintro r hp' ⟨rfl, rfl⟩
   simp +contextual -dsimp only [↓SD, SU, simprocAttr, rdB, Ab, Aa, P2]
   refine Ai.post (rdB C s6) ?_
   simp +contextual -dsimp only [↓SD, SU, simprocAttr, rdB, Ab, Aa]
   have hlen : (Dz x [⟨l⟩, ⟨l4⟩]).items.length = 1 + l.length + l4.length := by simp [Dz, BV]; omega
   refine ⟨s6, rfl, hs6, by omega, by omega, (Dz x [⟨l⟩, ⟨l4⟩]).items, rfl, fun h6 => ?_, by omega, Kr hx (fun t ht => by
    rcases List.mem_cons.1 ht with rfl | ht
    ·exact hn
    ·rw [List.mem_singleton.1 ht]; exact hn4)⟩
   have c5 := hc6 h6
   have c4 := hc5 c5
   have c2 := hc4 c4
   have := ha4 c4
   have := ha c2
   omega
  ·rw [decide_eq_false hcm] at CI
   (refine Ad [2100, 2101] (CI) (by first | (simp +contextual -dsimp only [↓SD, SU, simprocAttr, rdB]; done) | (simp +contextual -dsimp only [↓SD, SU, simprocAttr, rdB, Af]; done) | (simp +contextual -dsimp only [↓SD, SU, simprocAttr, rdB, c0]; done)) ?_; rintro r hp' ⟨rfl, rfl⟩)
   simp +contextual -dsimp only [↓SD, SU, simprocAttr, rdB, Ab, Aa]
   (refine Ad [2100, 2101] (A8 C s2 hs2 (bs [41]) (by decide)) (by first | (simp +contextual -dsimp only [↓SD, SU, simprocAttr, rdB]; done) | (simp +contextual -dsimp only [↓SD, SU, simprocAttr, rdB, Af]; done) | (simp +contextual -dsimp only [↓SD, SU, simprocAttr, rdB, c0]; done)) ?_; rintro r hp' ⟨s3, rfl, hs3, hi3, hc3, rfl, hp3⟩)
   simp +contextual -dsimp only [↓SD, SU, simprocAttr, rdB, Ab, Aa]
   refine Ai.post (rdB C s3) ?_
   simp +contextual -dsimp only [↓SD, SU, simprocAttr, rdB, Ab, Aa, Ab]
   refine ⟨s3, rfl, hs3, by omega, by omega, l, rfl, fun h3 => ?_, by omega, hn⟩
   have := ha (hc3 h3)
   omega
theorem Bx {C : RC} {s : RS} (hs : Bm C s) (h : s.i < C.L.length) : Bm C { s with i := s.i + 1 } := by
 obtain ⟨g0, g1, g2, g3, g4, g5, g6⟩ := hs
 exact ⟨g0, h, g2, g3, g4, by dsimp only; omega, g6⟩
structure PrS where
 s : RS
 l : List Bs
theorem Zj {C : RC} {x : ByteArray} {a b : List Bs} (hx : x.size ≤ C.m) (ha : ∀ y ∈ a, y.name.size ≤ C.m) (hb : ∀ y ∈ b, y.name.size ≤ C.m) : ∀ y ∈ (Dz x [⟨a⟩, ⟨b⟩]).items, y.name.size ≤ C.m :=
 Kr hx (fun t ht => by
  rcases List.mem_cons.1 ht with rfl | ht
  ·exact ha
  ·rw [List.mem_singleton.1 ht]; exact hb)
theorem MQ (x : ByteArray) (a b : List Bs) : (Dz x [⟨a⟩, ⟨b⟩]).items.length = 1 + a.length + b.length := by simp [Dz, BV]; omega
theorem UJ (x : ByteArray) (a : List Bs) : (Dz x [⟨a⟩]).items.length = 1 + a.length := by simp [Dz, BV]; omega
set_option maxHeartbeats 1000000 in
theorem UY (C : RC) (b : Nat) (IH : ∀ s1 d, Bm C s1 → b < s1.i → 0 ≤ d ∧ d ≤ 200 → TyC C s1 d) : ∀ (n : Nat) (s : RS), Bm C s → C.L.length - s.i = n → b ≤ s.i → ∀ d : Int, 0 ≤ d ∧ d ≤ 100 → AW Tryz.prog 172 [.ptr 2100 C.v 0 0, .int .i64 d] (rdB C s) (RP C s (TyP C s)) := by
 intro n
 induction n using Nat.strongRecOn with
 | ind n ihn =>
 intro s hs hn hb d hd
 refine HH.H rfl ?_
 simp +contextual -dsimp only [↓SD, SU, simprocAttr, rdB, Ab, Aa, HH]
 intro v4
 (refine Ad [2100, 2101] (SE C s hs d hd (fun s1 d h1 h2 h3 => IH s1 d h1 (by omega) h3)) (by first | (simp +contextual -dsimp only [↓SD, SU, simprocAttr, rdB]; done) | (simp +contextual -dsimp only [↓SD, SU, simprocAttr, rdB, Af]; done) | (simp +contextual -dsimp only [↓SD, SU, simprocAttr, rdB, c0]; done)) ?_; rintro r hp' ⟨s0, rfl, hs0, hi0, hc0, l0, rfl, ha0, hb0, hn0⟩)
 simp +contextual -dsimp only [↓SD, SU, simprocAttr, rdB, Ab, Aa]
 intro v5
 refine AB (X := PrS) (fun x => ⟨[(0, .ptr 2100 C.v 0 0), (1, .int .i64 d), (4, .ptr 4 v4 0 0), (5, .ptr 5 v5 0 0)], (5, ⟨v5, false, 94, 1, [.agg [.sl (x.l.map av)]]⟩) :: (4, ⟨v4, false, 94, 1, [.agg [.Au]]⟩) :: rdB C x.s⟩) (fun x => Bm C x.s ∧ s.i ≤ x.s.i ∧ (x.s.code = 0 → s.code = 0 ∧ x.l.length + s.i ≤ x.s.i ∧ s.i < x.s.i) ∧ x.l.length + 2 * s.i ≤ 2 * x.s.i + 1 ∧ ∀ y ∈ x.l, y.name.size ≤ C.m) (fun x => 2 * (C.L.length - x.s.i) + (if x.s.code = 0 then 1 else 0)) ⟨s0, l0⟩ ⟨hs0, hi0, fun h => ⟨hc0 h, ha0 h⟩, hb0, hn0⟩ (by simp +contextual -dsimp only [↓SD, SU, simprocAttr]) (by simp +contextual -dsimp only [↓SD, SU, simprocAttr, rdB]) ?_
 clear hs0 hi0 hc0 ha0 hb0 hn0
 rintro ⟨s1, l⟩ ⟨hs1, hi1, hc1, hb1, hn1⟩
 dsimp only at hs1 hi1 hc1 hb1 hn1 ⊢
 have hsm := hs1.small
 have fin : ∀ (_ : True), True := fun h => h
 have CI := BP C s1 hs1 (bs [42])
 have CW := Kt C s1 hs1
 by_cases hloop : s1.code = 0 ∧ E5 (A6 C s1) = true
 ·obtain ⟨c0, hw⟩ := hloop
  obtain ⟨q1, q2, q3⟩ := hc1 c0
  obtain ⟨k1, _⟩ := OC hs1 hw
  rw [hw] at CW
  simp +contextual -dsimp only [↓SD, SU, simprocAttr, rdB, Ab, Aa, c0]
  (refine Ad [2100, 2101] (CW) (by first | (simp +contextual -dsimp only [↓SD, SU, simprocAttr, rdB]; done) | (simp +contextual -dsimp only [↓SD, SU, simprocAttr, rdB, Af]; done) | (simp +contextual -dsimp only [↓SD, SU, simprocAttr, rdB, c0]; done)) ?_; rintro r hp' ⟨rfl, rfl⟩)
  simp +contextual -dsimp only [↓SD, SU, simprocAttr, rdB, Ab, Aa, c0]
  refine ⟨?_, ?_, ?_⟩
  all_goals
   (refine Ad [2100, 2101] (QF C s1 hs1) (by first | (simp +contextual -dsimp only [↓SD, SU, simprocAttr, rdB]; done) | (simp +contextual -dsimp only [↓SD, SU, simprocAttr, rdB, Af]; done) | (simp +contextual -dsimp only [↓SD, SU, simprocAttr, rdB, c0]; done)) ?_; rintro r hp' ⟨s2, rfl, hs2, hi2, hc2, x, rfl, hx, hp2⟩)
   have hsm2 := hs2.small
   simp +contextual -dsimp only [↓SD, SU, simprocAttr, rdB, Ab, Aa, Ab]
   refine Ad [] (Gd x [⟨l⟩] (by simp) (by simp [BV]; omega)) (by simp +contextual -dsimp only [↓SD, SU, simprocAttr]) ?_
   rintro r hp' ⟨rfl, rfl⟩
   simp +contextual -dsimp only [↓SD, SU, simprocAttr, rdB, Ab, Aa, P2]
   have hl := UJ x l
   exact Ai.le ⟨⟨s2, (Dz x [⟨l⟩]).items⟩, ⟨⟨hs2, by dsimp only; omega, fun h => ⟨q1, by dsimp only at h ⊢; rcases hp2 with h' | h' <;> omega, by dsimp only at h ⊢; omega⟩, by dsimp only; omega, Kr hx (fun t ht => by rw [List.mem_singleton.1 ht]; exact hn1)⟩, by
    dsimp only
    rw [if_pos c0]
    rcases hp2 with h' | h'
    ·rw [if_neg h']; omega
    ·split <;> omega⟩, rfl⟩ (by simp +contextual -dsimp only [↓SD, SU, simprocAttr]) (by simp +contextual -dsimp only [↓SD, SU, simprocAttr, rdB])
 case neg =>
 have hskip : ∀ (_ : True), True := fun h => h
 by_cases hst : BF (A6 C s1) = bs [42]
 case' pos =>
  obtain ⟨k1, c0⟩ := Bz hs1 (by decide) hst
  have e : (s1.i : Int) + 1 = ((s1.i + 1 : Nat) : Int) := by omega
  rw [decide_eq_true hst] at CI
  have hw : E5 (A6 C s1) = false := by
   cases h : E5 (A6 C s1) with
   | false => rfl
   | true => exact absurd ⟨c0, h⟩ hloop
  rw [hw] at CW
  simp +contextual -dsimp only [↓SD, SU, simprocAttr, rdB, Ab, Aa, c0]
  (refine Ad [2100, 2101] (CW) (by first | (simp +contextual -dsimp only [↓SD, SU, simprocAttr, rdB]; done) | (simp +contextual -dsimp only [↓SD, SU, simprocAttr, rdB, Af]; done) | (simp +contextual -dsimp only [↓SD, SU, simprocAttr, rdB, c0]; done)) ?_; rintro r hp' ⟨rfl, rfl⟩)
  simp +contextual -dsimp only [↓SD, SU, simprocAttr, rdB, Ab, Aa, c0]
  (refine Ad [2100, 2101] (CI) (by first | (simp +contextual -dsimp only [↓SD, SU, simprocAttr, rdB]; done) | (simp +contextual -dsimp only [↓SD, SU, simprocAttr, rdB, Af]; done) | (simp +contextual -dsimp only [↓SD, SU, simprocAttr, rdB, c0]; done)) ?_; rintro r hp' ⟨rfl, rfl⟩)
  simp +contextual -dsimp only [↓SD, SU, simprocAttr, rdB, Ab, Aa, e, Ab]
  obtain ⟨q1, q2, q3⟩ := hc1 c0
  have hs2 := Bx hs1 k1
  have CP := ihn (C.L.length - (s1.i + 1)) (by omega) { s1 with i := s1.i + 1 } hs2 rfl (by dsimp only; omega) d hd
  refine ⟨by omega, ?_, ?_⟩
  all_goals
   (refine Ad [2100, 2101] (CP) (by first | (simp +contextual -dsimp only [↓SD, SU, simprocAttr, rdB]; done) | (simp +contextual -dsimp only [↓SD, SU, simprocAttr, rdB, Af]; done) | (simp +contextual -dsimp only [↓SD, SU, simprocAttr, rdB, c0]; done)) ?_; rintro r hp' ⟨s4, rfl, hs4, hi4, hc4, l4, rfl, ha4, hb4, hn4⟩)
   dsimp only at hi4 ha4 hb4 hc4
   have hsm4 := hs4.small
   simp +contextual -dsimp only [↓SD, SU, simprocAttr, rdB, Ab, Aa, Ab]
   refine Ad [] (Gd (bs [42]) [⟨l⟩, ⟨l4⟩] (by simp) (by simp [BV]; omega)) (by simp +contextual -dsimp only [↓SD, SU, simprocAttr]) ?_
   rintro r hp' ⟨rfl, rfl⟩
   simp +contextual -dsimp only [↓SD, SU, simprocAttr, rdB, Ab, Aa, P2]
   refine Ai.post (rdB C s4) ?_
   simp +contextual -dsimp only [↓SD, SU, simprocAttr, rdB, Ab, Aa]
   have hlen := MQ (bs [42]) l l4
   refine ⟨s4, rfl, hs4, by omega, fun _ => q1, (Dz (bs [42]) [⟨l⟩, ⟨l4⟩]).items, rfl, fun h4 => ?_, by omega, Zj (by have := hs1.1.1; rw [show (bs [42]).size = 1 from rfl]; omega) hn1 hn4⟩
   have := ha4 h4
   omega
 case' neg =>
  rw [decide_eq_false hst] at CI
  by_cases c0 : s1.code = 0
  case' pos =>
   have hw : E5 (A6 C s1) = false := by
    cases h : E5 (A6 C s1) with
    | false => rfl
    | true => exact absurd ⟨c0, h⟩ hloop
   rw [hw] at CW
   simp +contextual -dsimp only [↓SD, SU, simprocAttr, rdB, Ab, Aa, c0]
   (refine Ad [2100, 2101] (CW) (by first | (simp +contextual -dsimp only [↓SD, SU, simprocAttr, rdB]; done) | (simp +contextual -dsimp only [↓SD, SU, simprocAttr, rdB, Af]; done) | (simp +contextual -dsimp only [↓SD, SU, simprocAttr, rdB, c0]; done)) ?_; rintro r hp' ⟨rfl, rfl⟩)
   simp +contextual -dsimp only [↓SD, SU, simprocAttr, rdB, Ab, Aa, c0]
  case' neg =>
   simp +contextual -dsimp only [↓SD, SU, simprocAttr, rdB, Ab, Aa, c0]
  all_goals
   (refine Ad [2100, 2101] (CI) (by first | (simp +contextual -dsimp only [↓SD, SU, simprocAttr, rdB]; done) | (simp +contextual -dsimp only [↓SD, SU, simprocAttr, rdB, Af]; done) | (simp +contextual -dsimp only [↓SD, SU, simprocAttr, rdB, c0]; done)) ?_; rintro r hp' ⟨rfl, rfl⟩)
   simp +contextual -dsimp only [↓SD, SU, simprocAttr, rdB, Ab, Aa, Ab]
   refine Ai.post (rdB C s1) ?_
   simp +contextual -dsimp only [↓SD, SU, simprocAttr, rdB, Ab, Aa, Ab]
   exact ⟨s1, rfl, hs1, hi1, fun h => (hc1 h).1, l, rfl, fun h => (hc1 h).2, hb1, hn1⟩
theorem Zw (C : RC) : ∀ (n : Nat) (s : RS), Bm C s → C.L.length - s.i = n → ∀ d : Int, 0 ≤ d ∧ d ≤ 200 → TyC C s d := by
 intro n
 induction n using Nat.strongRecOn with
 | ind n ihn =>
 intro s hs hn d hd
 have IH : ∀ s1 d, Bm C s1 → s.i < s1.i → 0 ≤ d ∧ d ≤ 200 → TyC C s1 d := fun s1 d h1 h2 h3 => ihn (C.L.length - s1.i) (by have := h1.2.1; omega) s1 h1 rfl d h3
 by_cases hc : s.code = 0
 case neg => exact LG C s hs d hc
 by_cases h100 : 100 < d
 ·refine Dp.H rfl ?_
  have c0 := hc
  simp +contextual -dsimp only [↓SD, SU, simprocAttr, rdB, Ab, Aa, Dp, hc, h100]
  intro v4
  (refine Ad [2100, 2101] (MV C s hs) (by first | (simp +contextual -dsimp only [↓SD, SU, simprocAttr, rdB]; done) | (simp +contextual -dsimp only [↓SD, SU, simprocAttr, rdB, Af]; done) | (simp +contextual -dsimp only [↓SD, SU, simprocAttr, rdB, c0]; done)) ?_; rintro r hp' ⟨b, rfl, rfl⟩)
  simp +contextual -dsimp only [↓SD, SU, simprocAttr, rdB, Ab, Aa, c0]
  (refine Ad [2100, 2101] (JS C s hs b) (by first | (simp +contextual -dsimp only [↓SD, SU, simprocAttr, rdB]; done) | (simp +contextual -dsimp only [↓SD, SU, simprocAttr, rdB, Af]; done) | (simp +contextual -dsimp only [↓SD, SU, simprocAttr, rdB, c0]; done)) ?_; rintro r hp' ⟨s1, rfl, hs1, hi1, hc1, rfl, hi1', hc1'⟩)
  simp +contextual -dsimp only [↓SD, SU, simprocAttr, rdB, Ab, Aa]
  refine Ai.slB 4 0 0 rfl rfl (by simp [AV.one]) rfl ?_
  refine Ai.post (rdB C s1) ?_
  simp +contextual -dsimp only [↓SD, SU, simprocAttr, rdB, Ab, Aa]
  exact ⟨s1, rfl, hs1, hi1, hc1, [], rfl, fun h => absurd h hc1', by simp; omega, fun x hx => by cases hx⟩
 have CP := UY C s.i IH (C.L.length - s.i) s hs rfl (Nat.le_refl _) d (by omega)
 refine Dp.H rfl ?_
 have c0 := hc
 simp +contextual -dsimp only [↓SD, SU, simprocAttr, rdB, Ab, Aa, Dp, hc, h100]
 intro v4
 (refine Ad [2100, 2101] (CP) (by first | (simp +contextual -dsimp only [↓SD, SU, simprocAttr, rdB]; done) | (simp +contextual -dsimp only [↓SD, SU, simprocAttr, rdB, Af]; done) | (simp +contextual -dsimp only [↓SD, SU, simprocAttr, rdB, c0]; done)) ?_; rintro r hp' ⟨s1, rfl, hs1, hi1, hc1, l, rfl, ha1, hb1, hn1⟩)
 have hsm := hs1.small
 clear c0
 simp +contextual -dsimp only [↓SD, SU, simprocAttr, rdB, Ab, Aa]
 intro v5
 have CI := BP C s1 hs1 (bs [45, 62])
 by_cases hst : BF (A6 C s1) = bs [45, 62]
 ·obtain ⟨k1, c0⟩ := Bz hs1 (by decide) hst
  have e : (s1.i : Int) + 1 = ((s1.i + 1 : Nat) : Int) := by omega
  rw [decide_eq_true hst] at CI
  (refine Ad [2100, 2101] (CI) (by first | (simp +contextual -dsimp only [↓SD, SU, simprocAttr, rdB]; done) | (simp +contextual -dsimp only [↓SD, SU, simprocAttr, rdB, Af]; done) | (simp +contextual -dsimp only [↓SD, SU, simprocAttr, rdB, c0]; done)) ?_; rintro r hp' ⟨rfl, rfl⟩)
  simp +contextual -dsimp only [↓SD, SU, simprocAttr, rdB, Ab, Aa, e, Ab]
  obtain ⟨q1, q2⟩ := ha1 c0
  have hs2 := Bx hs1 k1
  have CP := IH { s1 with i := s1.i + 1 } (d + 1) hs2 (by dsimp only; omega) (by omega)
  refine ⟨by omega, by omega, ?_, ?_⟩
  all_goals
   (refine Ad [2100, 2101] (CP) (by first | (simp +contextual -dsimp only [↓SD, SU, simprocAttr, rdB]; done) | (simp +contextual -dsimp only [↓SD, SU, simprocAttr, rdB, Af]; done) | (simp +contextual -dsimp only [↓SD, SU, simprocAttr, rdB, c0]; done)) ?_; rintro r hp' ⟨s4, rfl, hs4, hi4, hc4, l4, rfl, ha4, hb4, hn4⟩)
   dsimp only at hi4 ha4 hb4 hc4
   have hsm4 := hs4.small
   simp +contextual -dsimp only [↓SD, SU, simprocAttr, rdB, Ab, Aa, Ab]
   refine Ad [] (Gd (bs [45, 62]) [⟨l⟩, ⟨l4⟩] (by simp) (by simp [BV]; omega)) (by simp +contextual -dsimp only [↓SD, SU, simprocAttr]) ?_
   rintro r hp' ⟨rfl, rfl⟩
   simp +contextual -dsimp only [↓SD, SU, simprocAttr, rdB, Ab, Aa, P2]
   refine Ai.post (rdB C s4) ?_
   simp +contextual -dsimp only [↓SD, SU, simprocAttr, rdB, Ab, Aa]
   have hlen := MQ (bs [45, 62]) l l4
   refine ⟨s4, rfl, hs4, by omega, fun _ => hc, (Dz (bs [45, 62]) [⟨l⟩, ⟨l4⟩]).items, rfl, fun h4 => ?_, by omega, Zj (by have := hs1.1.1; rw [show (bs [45, 62]).size = 2 from rfl]; omega) hn1 hn4⟩
   have := ha4 h4
   omega
 ·rw [decide_eq_false hst] at CI
  (refine Ad [2100, 2101] (CI) (by first | (simp +contextual -dsimp only [↓SD, SU, simprocAttr, rdB]; done) | (simp +contextual -dsimp only [↓SD, SU, simprocAttr, rdB, Af]; done) | (simp +contextual -dsimp only [↓SD, SU, simprocAttr, rdB, c0]; done)) ?_; rintro r hp' ⟨rfl, rfl⟩)
  simp +contextual -dsimp only [↓SD, SU, simprocAttr, rdB, Ab, Aa, Ab]
  refine Ai.post (rdB C s1) ?_
  simp +contextual -dsimp only [↓SD, SU, simprocAttr, rdB, Ab, Aa, Ab]
  exact ⟨s1, rfl, hs1, hi1, hc1, l, rfl, ha1, hb1, hn1⟩
def Acq (C : RC) (s : RS) (s' : RS) (r : AV) : Prop := ∃ (x : ByteArray) (n : Int), r = .agg [.str x, .int .i64 n, .Au] ∧ x.size ≤ C.m ∧ (0 ≤ n ∧ n ≤ 2)
def Ack (C : RC) (s : RS) (s' : RS) (r : AV) : Prop := ∃ (x : ByteArray) (n : Int) (l : List Con), r = .agg [.str x, .int .i64 n, .sl (l.map av)] ∧ x.size ≤ C.m ∧ (0 ≤ n ∧ n ≤ 2) ∧ l.length + s.i ≤ s'.i + 1 ∧ ∀ c ∈ l, c.name.size ≤ C.m ∧ c.arg.items.length ≤ 2 * C.m + 1 ∧ ∀ y ∈ c.arg.items, y.name.size ≤ C.m
theorem J7 {C : RC} {s : RS} (hs : Bm C s) {l : List Int} (h : l.length ≤ 2) : Bm C { s with vars := l } := by
 obtain ⟨g0, g1, g2, g3, g4, g5, g6⟩ := hs
 exact ⟨g0, g1, g2, g3, h, g5, g6⟩
theorem U2 (C : RC) (s : RS) (hs : Bm C s) : AW Tryz.prog 138 [.ptr 2100 C.v 0 0] (rdB C s) (RP C s (Acq C s)) := by
 refine HI.H rfl ?_
 simp +contextual -dsimp only [↓SD, SU, simprocAttr, rdB, Ab, Aa, HI]
 intro v2
 refine BQ (Ai.slB 2100 0 5 rfl rfl (by simp [AV.one]) rfl (Ai.here ?_))
 simp +contextual -dsimp only [↓SD, SU, simprocAttr, rdB, Ab, Aa]
 have hs0 := J7 (l := []) hs (by simp)
 have hsm := hs.small
 have CI := BP C { s with vars := [] } hs0 (bs [40])
 by_cases hst : BF (A6 C { s with vars := [] }) = bs [40]
 case pos =>
  obtain ⟨k1, k2⟩ := Bz hs0 (by decide) hst
  dsimp only at k1 k2
  have e : (s.i : Int) + 1 = ((s.i + 1 : Nat) : Int) := by omega
  rw [decide_eq_true hst] at CI
  (refine Ad [2100, 2101] (CI) (by first | (simp +contextual -dsimp only [↓SD, SU, simprocAttr, rdB]; done) | (simp +contextual -dsimp only [↓SD, SU, simprocAttr, rdB, Af]; done) | (simp +contextual -dsimp only [↓SD, SU, simprocAttr, rdB, c0]; done)) ?_; rintro r hp' ⟨rfl, rfl⟩)
  simp +contextual -dsimp only [↓SD, SU, simprocAttr, rdB, Ab, Aa, e]
  refine ⟨by omega, ?_⟩
  have hs1 : Bm C { s with i := s.i + 1, vars := [] } := J7 (Bx hs k1) (by simp)
  (refine Ad [2100, 2101] (Be C { s with i := s.i + 1, vars := [] } hs1) (by first | (simp +contextual -dsimp only [↓SD, SU, simprocAttr, rdB]; done) | (simp +contextual -dsimp only [↓SD, SU, simprocAttr, rdB, Af]; done) | (simp +contextual -dsimp only [↓SD, SU, simprocAttr, rdB, c0]; done)) ?_; rintro r hp' ⟨rfl, rfl⟩)
  generalize A6 C { s with i := s.i + 1, vars := [] } = t1
  simp +contextual -dsimp only [↓SD, SU, simprocAttr, rdB, Ab, Aa, AY]
  intro v3
  (refine Ad [2100, 2101] (BX C { s with i := s.i + 1, vars := [] } hs1 5 (by decide)) (by first | (simp +contextual -dsimp only [↓SD, SU, simprocAttr, rdB]; done) | (simp +contextual -dsimp only [↓SD, SU, simprocAttr, rdB, Af]; done) | (simp +contextual -dsimp only [↓SD, SU, simprocAttr, rdB, c0]; done)) ?_; rintro r hp' ⟨s2, rfl, hs2, hi2, hc2, x2, rfl, hx2, hp2⟩)
  dsimp only at hi2 hc2
  simp +contextual -dsimp only [↓SD, SU, simprocAttr, rdB, Ab, Aa]
  (refine Ad [2100, 2101] (A8 C s2 hs2 (bs [44]) (by decide)) (by first | (simp +contextual -dsimp only [↓SD, SU, simprocAttr, rdB]; done) | (simp +contextual -dsimp only [↓SD, SU, simprocAttr, rdB, Af]; done) | (simp +contextual -dsimp only [↓SD, SU, simprocAttr, rdB, c0]; done)) ?_; rintro r hp' ⟨s3, rfl, hs3, hi3, hc3, rfl, hp3⟩)
  simp +contextual -dsimp only [↓SD, SU, simprocAttr, rdB, Ab, Aa]
  (refine Ad [2100, 2101] (Be C s3 hs3) (by first | (simp +contextual -dsimp only [↓SD, SU, simprocAttr, rdB]; done) | (simp +contextual -dsimp only [↓SD, SU, simprocAttr, rdB, Af]; done) | (simp +contextual -dsimp only [↓SD, SU, simprocAttr, rdB, c0]; done)) ?_; rintro r hp' ⟨rfl, rfl⟩)
  generalize A6 C s3 = t2
  by_cases hb : t2.kind = 5 ∧ t2.n = t1.n
  case pos =>
   obtain ⟨hb1, hb2⟩ := hb
   simp +contextual -dsimp only [↓SD, SU, simprocAttr, rdB, Ab, Aa, AY, hb1, hb2]
   intro v4
   (refine Ad [2100, 2101] (B4 C s3 hs3 7 (by omega)) (by first | (simp +contextual -dsimp only [↓SD, SU, simprocAttr, rdB]; done) | (simp +contextual -dsimp only [↓SD, SU, simprocAttr, rdB, Af]; done) | (simp +contextual -dsimp only [↓SD, SU, simprocAttr, rdB, c0]; done)) ?_; rintro r hp' ⟨s4, rfl, hs4, hi4, hc4, rfl, _, _⟩)
   simp +contextual -dsimp only [↓SD, SU, simprocAttr, rdB, Ab, Aa]
   (refine Ad [2100, 2101] (BX C s4 hs4 5 (by decide)) (by first | (simp +contextual -dsimp only [↓SD, SU, simprocAttr, rdB]; done) | (simp +contextual -dsimp only [↓SD, SU, simprocAttr, rdB, Af]; done) | (simp +contextual -dsimp only [↓SD, SU, simprocAttr, rdB, c0]; done)) ?_; rintro r hp' ⟨s5, rfl, hs5, hi5, hc5, x5, rfl, hx5, hp5⟩)
   simp +contextual -dsimp only [↓SD, SU, simprocAttr, rdB, Ab, Aa]
   (refine Ad [2100, 2101] (A8 C s5 hs5 (bs [41]) (by decide)) (by first | (simp +contextual -dsimp only [↓SD, SU, simprocAttr, rdB]; done) | (simp +contextual -dsimp only [↓SD, SU, simprocAttr, rdB, Af]; done) | (simp +contextual -dsimp only [↓SD, SU, simprocAttr, rdB, c0]; done)) ?_; rintro r hp' ⟨s6, rfl, hs6, hi6, hc6, rfl, hp6⟩)
   simp +contextual -dsimp only [↓SD, SU, simprocAttr, rdB, Ab, Aa]
   have hs7 := J7 (l := [t1.n, t1.n]) hs6 (by simp)
   refine ⟨?_, ?_⟩
   all_goals
    (refine Ad [2100, 2101] (BX C { s6 with vars := [t1.n, t1.n] } hs7 3 (by decide)) (by first | (simp +contextual -dsimp only [↓SD, SU, simprocAttr, rdB]; done) | (simp +contextual -dsimp only [↓SD, SU, simprocAttr, rdB, Af]; done) | (simp +contextual -dsimp only [↓SD, SU, simprocAttr, rdB, c0]; done)) ?_; rintro r hp' ⟨s8, rfl, hs8, hi8, hc8, x8, rfl, hx8, hp8⟩)
    dsimp only at hi8 hc8
    have hv8 := hs8.2.2.2.2.1
    simp +contextual -dsimp only [↓SD, SU, simprocAttr, rdB, Ab, Aa]
    refine Ai.post (rdB C s8) ?_
    simp +contextual -dsimp only [↓SD, SU, simprocAttr, rdB, Ab, Aa]
    exact ⟨s8, rfl, hs8, by omega, by omega, x8, _, rfl, hx8, by omega⟩
  case neg =>
   obtain ⟨s4, hs4e⟩ : ∃ s4, s4 = s3 := ⟨_, rfl⟩
   have hi4 : s3.i ≤ s4.i := by rw [hs4e]; exact Nat.le_refl _
   have hc4 : s4.code = 0 → s3.code = 0 := fun h => by rw [← hs4e]; exact h
   have hs4 : Bm C s4 := by rw [hs4e]; exact hs3
   rw [← hs4e]
   by_cases hb1 : t2.kind = 5
   case' pos =>
    have hb2 : ¬ t2.n = t1.n := fun h => hb ⟨hb1, h⟩
    simp +contextual -dsimp only [↓SD, SU, simprocAttr, rdB, Ab, Aa, AY, hb1, hb2]
   case' neg =>
    simp +contextual -dsimp only [↓SD, SU, simprocAttr, rdB, Ab, Aa, AY, hb1]
   all_goals
    intro v4
   all_goals
    (refine Ad [2100, 2101] (BX C s4 hs4 5 (by decide)) (by first | (simp +contextual -dsimp only [↓SD, SU, simprocAttr, rdB]; done) | (simp +contextual -dsimp only [↓SD, SU, simprocAttr, rdB, Af]; done) | (simp +contextual -dsimp only [↓SD, SU, simprocAttr, rdB, c0]; done)) ?_; rintro r hp' ⟨s5, rfl, hs5, hi5, hc5, x5, rfl, hx5, hp5⟩)
    simp +contextual -dsimp only [↓SD, SU, simprocAttr, rdB, Ab, Aa]
    (refine Ad [2100, 2101] (A8 C s5 hs5 (bs [41]) (by decide)) (by first | (simp +contextual -dsimp only [↓SD, SU, simprocAttr, rdB]; done) | (simp +contextual -dsimp only [↓SD, SU, simprocAttr, rdB, Af]; done) | (simp +contextual -dsimp only [↓SD, SU, simprocAttr, rdB, c0]; done)) ?_; rintro r hp' ⟨s6, rfl, hs6, hi6, hc6, rfl, hp6⟩)
    simp +contextual -dsimp only [↓SD, SU, simprocAttr, rdB, Ab, Aa]
    have hs7 := J7 (l := [t1.n, t2.n]) hs6 (by simp)
    refine ⟨?_, ?_⟩
    all_goals
     (refine Ad [2100, 2101] (BX C { s6 with vars := [t1.n, t2.n] } hs7 3 (by decide)) (by first | (simp +contextual -dsimp only [↓SD, SU, simprocAttr, rdB]; done) | (simp +contextual -dsimp only [↓SD, SU, simprocAttr, rdB, Af]; done) | (simp +contextual -dsimp only [↓SD, SU, simprocAttr, rdB, c0]; done)) ?_; rintro r hp' ⟨s8, rfl, hs8, hi8, hc8, x8, rfl, hx8, hp8⟩)
     dsimp only at hi8 hc8
     have hv8 := hs8.2.2.2.2.1
     simp +contextual -dsimp only [↓SD, SU, simprocAttr, rdB, Ab, Aa]
     refine Ai.post (rdB C s8) ?_
     simp +contextual -dsimp only [↓SD, SU, simprocAttr, rdB, Ab, Aa]
     exact ⟨s8, rfl, hs8, by omega, by omega, x8, _, rfl, hx8, by omega⟩
 case neg =>
  rw [decide_eq_false hst] at CI
  (refine Ad [2100, 2101] (CI) (by first | (simp +contextual -dsimp only [↓SD, SU, simprocAttr, rdB]; done) | (simp +contextual -dsimp only [↓SD, SU, simprocAttr, rdB, Af]; done) | (simp +contextual -dsimp only [↓SD, SU, simprocAttr, rdB, c0]; done)) ?_; rintro r hp' ⟨rfl, rfl⟩)
  simp +contextual -dsimp only [↓SD, SU, simprocAttr, rdB, Ab, Aa]
  (refine Ad [2100, 2101] (Be C { s with vars := [] } hs0) (by first | (simp +contextual -dsimp only [↓SD, SU, simprocAttr, rdB]; done) | (simp +contextual -dsimp only [↓SD, SU, simprocAttr, rdB, Af]; done) | (simp +contextual -dsimp only [↓SD, SU, simprocAttr, rdB, c0]; done)) ?_; rintro r hp' ⟨rfl, rfl⟩)
  obtain ⟨_, hat⟩ := Cw hs0
  dsimp only at hat
  by_cases h5 : (A6 C { s with vars := [] }).kind = 5
  case' pos =>
   obtain ⟨k1, k2⟩ := hat (by omega)
   have e : (s.i : Int) + 1 = ((s.i + 1 : Nat) : Int) := by omega
   simp +contextual -dsimp only [↓SD, SU, simprocAttr, rdB, Ab, Aa, AY, h5]
   (refine Ad [2100, 2101] (Be C { s with vars := [] } hs0) (by first | (simp +contextual -dsimp only [↓SD, SU, simprocAttr, rdB]; done) | (simp +contextual -dsimp only [↓SD, SU, simprocAttr, rdB, Af]; done) | (simp +contextual -dsimp only [↓SD, SU, simprocAttr, rdB, c0]; done)) ?_; rintro r hp' ⟨rfl, rfl⟩)
   generalize A6 C { s with vars := [] } = t1
   simp +contextual -dsimp only [↓SD, SU, simprocAttr, rdB, Ab, Aa, AY, e]
   refine ⟨by omega, ?_⟩
   have hs7 : Bm C { s with i := s.i + 1, vars := [t1.n] } := J7 (Bx hs k1) (by simp)
   refine ⟨?_, ?_⟩
   all_goals
    (refine Ad [2100, 2101] (BX C { s with i := s.i + 1, vars := [t1.n] } hs7 3 (by decide)) (by first | (simp +contextual -dsimp only [↓SD, SU, simprocAttr, rdB]; done) | (simp +contextual -dsimp only [↓SD, SU, simprocAttr, rdB, Af]; done) | (simp +contextual -dsimp only [↓SD, SU, simprocAttr, rdB, c0]; done)) ?_; rintro r hp' ⟨s8, rfl, hs8, hi8, hc8, x8, rfl, hx8, hp8⟩)
    dsimp only at hi8 hc8
    have hv8 := hs8.2.2.2.2.1
    simp +contextual -dsimp only [↓SD, SU, simprocAttr, rdB, Ab, Aa]
    refine Ai.post (rdB C s8) ?_
    simp +contextual -dsimp only [↓SD, SU, simprocAttr, rdB, Ab, Aa]
    exact ⟨s8, rfl, hs8, by omega, by omega, x8, _, rfl, hx8, by omega⟩
  case' neg =>
   simp +contextual -dsimp only [↓SD, SU, simprocAttr, rdB, Ab, Aa, AY, h5]
   refine ⟨?_, ?_⟩
   all_goals
    (refine Ad [2100, 2101] (BX C { s with vars := [] } hs0 3 (by decide)) (by first | (simp +contextual -dsimp only [↓SD, SU, simprocAttr, rdB]; done) | (simp +contextual -dsimp only [↓SD, SU, simprocAttr, rdB, Af]; done) | (simp +contextual -dsimp only [↓SD, SU, simprocAttr, rdB, c0]; done)) ?_; rintro r hp' ⟨s8, rfl, hs8, hi8, hc8, x8, rfl, hx8, hp8⟩)
    dsimp only at hi8 hc8
    have hv8 := hs8.2.2.2.2.1
    simp +contextual -dsimp only [↓SD, SU, simprocAttr, rdB, Ab, Aa]
    refine Ai.post (rdB C s8) ?_
    simp +contextual -dsimp only [↓SD, SU, simprocAttr, rdB, Ab, Aa]
    exact ⟨s8, rfl, hs8, by omega, by omega, x8, _, rfl, hx8, by omega⟩
def Acl (C : RC) (s : RS) (nm : Nat) (r : AV) (hp' : Hp) : Prop := ∃ (s' : RS) (v : Nat) (x : ByteArray) (n : Int) (l : List Con), hp' = rdB C s' ++ [(nm, ⟨v, false, 96, 3, l.map av⟩)] ∧ Bm C s' ∧ s.i ≤ s'.i ∧ (s'.code = 0 → s.code = 0) ∧ r = .agg [.str x, .int .i64 n, .row nm v l.length] ∧ x.size ≤ C.m ∧ (0 ≤ n ∧ n ≤ 2) ∧ (s'.code = 0 → 1 ≤ l.length) ∧ l.length + s.i ≤ s'.i + 1 ∧ ∀ c ∈ l, c.name.size ≤ C.m ∧ c.arg.items.length ≤ 2 * C.m + 1 ∧ ∀ y ∈ c.arg.items, y.name.size ≤ C.m
theorem LF (C : RC) (s : RS) (hs : Bm C s) : AW Tryz.prog 80 [.ptr 2100 C.v 0 0] (rdB C s) (Acl C s 34) := by
 refine HF.H rfl ?_
 simp +contextual -dsimp only [↓SD, SU, simprocAttr, rdB, Ab, Aa, HF]
 intro v2
 (refine Ad [2100, 2101] (U2 C s hs) (by first | (simp +contextual -dsimp only [↓SD, SU, simprocAttr, rdB]; done) | (simp +contextual -dsimp only [↓SD, SU, simprocAttr, rdB, Af]; done) | (simp +contextual -dsimp only [↓SD, SU, simprocAttr, rdB, c0]; done)) ?_; rintro r hp' ⟨s1, rfl, hs1, hi1, hc1, x, n, rfl, hx, hn⟩)
 simp +contextual -dsimp only [↓SD, SU, simprocAttr, rdB, Ab, Aa]
 intro v3
 (refine Ad [2100, 2101] (A8 C s1 hs1 (bs [61]) (by decide)) (by first | (simp +contextual -dsimp only [↓SD, SU, simprocAttr, rdB]; done) | (simp +contextual -dsimp only [↓SD, SU, simprocAttr, rdB, Af]; done) | (simp +contextual -dsimp only [↓SD, SU, simprocAttr, rdB, c0]; done)) ?_; rintro r hp' ⟨s2, rfl, hs2, hi2, hc2, rfl, hp2⟩)
 simp +contextual -dsimp only [↓SD, SU, simprocAttr, rdB, Ab, Aa]
 refine C0 (X := RS × List Con × Nat) (fun q => ⟨[(0, .ptr 2100 C.v 0 0), (2, .ptr 2 v2 0 0), (3, .ptr 3 v3 0 0)], (3, ⟨v3, false, 91, 3, [.agg [.str x, .int .i64 n, .row 34 q.2.2 q.2.1.length]]⟩) :: (34, ⟨q.2.2, false, 96, 3, q.2.1.map av⟩) :: (2, ⟨v2, false, 91, 3, [.agg [.str (bs []), .int .i64 0, .Au]]⟩) :: rdB C q.1⟩) (fun q => Bm C q.1 ∧ s.i ≤ q.1.i ∧ (q.1.code = 0 → s.code = 0 ∧ q.2.1.length + s.i ≤ q.1.i) ∧ q.2.1.length + s.i ≤ q.1.i + 1 ∧ ∀ c ∈ q.2.1, c.name.size ≤ C.m ∧ c.arg.items.length ≤ 2 * C.m + 1 ∧ ∀ y ∈ c.arg.items, y.name.size ≤ C.m) (fun q => 2 * (C.L.length - q.1.i) + (if q.1.code = 0 then 1 else 0)) ?_ ?_
 ·refine Ai.Fl 3 0 2 34 96 3 rfl rfl Nat.zero_lt_one rfl (by decide) fun z => ?_
  exact Ai.le ⟨⟨s2, [], z⟩, ⟨hs2, by dsimp only; omega, fun h => ⟨hc1 (hc2 h), by simp; omega⟩, by simp; omega, fun c hc => by cases hc⟩, rfl⟩ (by simp +contextual -dsimp only [↓SD, SU, simprocAttr]) (by simp +contextual -dsimp only [↓SD, SU, simprocAttr, rdB])
 rintro ⟨s3, l, u⟩ ⟨hs3, hi3, hc3, hl3, hn3⟩
 dsimp only at hs3 hi3 hc3 hl3 hn3 ⊢
 have hsm := hs3.small
 have ht2 : List.take l.length (l.map (av : Con → AV)) = l.map av := List.take_of_length_le (by simp)
 by_cases c0 : s3.code = 0
 ·simp +contextual -dsimp only [↓SD, SU, simprocAttr, rdB, Ab, Aa, c0]
  (refine Ad [2100, 2101] (BX C s3 hs3 4 (by decide)) (by first | (simp +contextual -dsimp only [↓SD, SU, simprocAttr, rdB]; done) | (simp +contextual -dsimp only [↓SD, SU, simprocAttr, rdB, Af]; done) | (simp +contextual -dsimp only [↓SD, SU, simprocAttr, rdB, c0]; done)) ?_; rintro r hp' ⟨s4, rfl, hs4, hi4, hc4, y, rfl, hy, hp4⟩)
  have hsm4 := hs4.small
  simp +contextual -dsimp only [↓SD, SU, simprocAttr, rdB, Ab, Aa]
  intro v4
  have CI := BP C s4 hs4 (bs [111, 102])
  by_cases hof : BF (A6 C s4) = bs [111, 102]
  case' pos =>
   obtain ⟨k1, k2⟩ := Bz hs4 (by decide) hof
   have e : (s4.i : Int) + 1 = ((s4.i + 1 : Nat) : Int) := by omega
   rw [decide_eq_true hof] at CI
   (refine Ad [2100, 2101] (CI) (by first | (simp +contextual -dsimp only [↓SD, SU, simprocAttr, rdB]; done) | (simp +contextual -dsimp only [↓SD, SU, simprocAttr, rdB, Af]; done) | (simp +contextual -dsimp only [↓SD, SU, simprocAttr, rdB, c0]; done)) ?_; rintro r hp' ⟨rfl, rfl⟩)
   simp +contextual -dsimp only [↓SD, SU, simprocAttr, rdB, Ab, Aa, e]
   refine ⟨by omega, ?_⟩
   have hs5 := Bx hs4 k1
   (refine Ad [2100, 2101] (Zw C _ { s4 with i := s4.i + 1 } hs5 rfl 0 (by omega)) (by first | (simp +contextual -dsimp only [↓SD, SU, simprocAttr, rdB]; done) | (simp +contextual -dsimp only [↓SD, SU, simprocAttr, rdB, Af]; done) | (simp +contextual -dsimp only [↓SD, SU, simprocAttr, rdB, c0]; done)) ?_; rintro r hp' ⟨s8, rfl, hs8, hi8, hc8, it, rfl, ha8, hb8, hit⟩)
   dsimp only at hi8 hc8 ha8 hb8
   have hsm8 := hs8.small
   simp +contextual -dsimp only [↓SD, SU, simprocAttr, rdB, Ab, Aa]
   refine BQ (Ai.here ?_)
   obtain ⟨c, hce⟩ : ∃ c : Con, c = ⟨y, true, ⟨it⟩⟩ := ⟨_, rfl⟩
   have hE : it.map (av : Bs → AV) = it.map av := rfl
   have hl8 : s8.code = 0 → l.length + 1 + s.i ≤ s8.i := fun h => by omega
   have hl9 : l.length + 1 + s.i ≤ s8.i + 1 := by omega
   have hl7 : s3.i < s8.i ∨ s8.code ≠ 0 := by omega
   have hz8 := hs8.2.1
   have hz9 := hs8.1.1
   have hitl : it.length ≤ 2 * C.m + 1 := by omega
  case' neg =>
   rw [decide_eq_false hof] at CI
   (refine Ad [2100, 2101] (CI) (by first | (simp +contextual -dsimp only [↓SD, SU, simprocAttr, rdB]; done) | (simp +contextual -dsimp only [↓SD, SU, simprocAttr, rdB, Af]; done) | (simp +contextual -dsimp only [↓SD, SU, simprocAttr, rdB, c0]; done)) ?_; rintro r hp' ⟨rfl, rfl⟩)
   simp +contextual -dsimp only [↓SD, SU, simprocAttr, rdB, Ab, Aa]
   refine BQ (Ai.slB 4 0 2 rfl rfl (by simp [AV.one]) rfl (Ai.here ?_))
   obtain ⟨it, hite⟩ : ∃ it : List Bs, it = [] := ⟨_, rfl⟩
   obtain ⟨c, hce⟩ : ∃ c : Con, c = ⟨y, false, ⟨it⟩⟩ := ⟨_, rfl⟩
   have hE : it.map (av : Bs → AV) = [] := by rw [hite]; rfl
   obtain ⟨s8, hs8e⟩ : ∃ s8, s8 = s4 := ⟨_, rfl⟩
   rw [← hs8e] at hs4 hsm4 hc4 hi4 hp4 ⊢
   have hs8 := hs4
   have hc8 : s8.code = 0 → s3.code = 0 := hc4
   have hitl : it.length ≤ 2 * C.m + 1 := by rw [hite]; simp
   obtain ⟨_, hl0⟩ := hc3 c0
   have hl8 : s8.code = 0 → l.length + 1 + s.i ≤ s8.i := fun h => by have := hp4.resolve_left (fun h' => h' h); omega
   have hl9 : l.length + 1 + s.i ≤ s8.i + 1 := by omega
   have hl7 : s3.i < s8.i ∨ s8.code ≠ 0 := by rcases hp4 with h' | h' <;> omega
   have hit : ∀ y ∈ it, y.name.size ≤ C.m := fun y hy => by rw [hite] at hy; cases hy
  all_goals
   have ht3 : List.take (l.length + 1) (l.map (av : Con → AV) ++ [av c]) = l.map av ++ [av c] := List.take_of_length_le (by simp)
   have hlm : (l.map (av : Con → AV)).length = l.length := List.length_map _
   have hav : (av c : AV) = .agg [.str y, .bool c.has, .sl (it.map av)] := by rw [hce]; rfl
   rw [hE] at hav
   have hch := congrArg Con.has hce
   dsimp only at hch
   rw [hch] at hav
   have hn8 : ∀ d ∈ l ++ [c], d.name.size ≤ C.m ∧ d.arg.items.length ≤ 2 * C.m + 1 ∧ ∀ y ∈ d.arg.items, y.name.size ≤ C.m := fun d hd => by
    rcases List.mem_append.1 hd with h | h
    ·exact hn3 d h
    ·rw [List.mem_singleton.1 h, hce]; exact ⟨hy, hitl, hit⟩
   have CB := BP C s8 hs8 (bs [124])
   have hq3 : s8.code = 0 → s.code = 0 := fun h => by
    first
     | exact (hc3 (hc8 h)).1
     | exact (hc3 (hc4 (hc8 h))).1
   by_cases hbar : BF (A6 C s8) = bs [124]
   ·obtain ⟨k3, k4⟩ := Bz hs8 (by decide) hbar
    have e : (s8.i : Int) + 1 = ((s8.i + 1 : Nat) : Int) := by omega
    rw [decide_eq_true hbar] at CB
    simp +contextual -dsimp only [↓SD, SU, simprocAttr, rdB, Ab, Aa, ht2, hlm]
    refine ⟨⟨by omega, by unfold maxLen; omega⟩, fun w => ?_⟩
    (refine Ad [2100, 2101] (CB) (by first | (simp +contextual -dsimp only [↓SD, SU, simprocAttr, rdB]; done) | (simp +contextual -dsimp only [↓SD, SU, simprocAttr, rdB, Af]; done) | (simp +contextual -dsimp only [↓SD, SU, simprocAttr, rdB, c0]; done)) ?_; rintro r hp' ⟨rfl, rfl⟩)
    simp +contextual -dsimp only [↓SD, SU, simprocAttr, rdB, Ab, Aa, e]
    refine ⟨by omega, ?_⟩
    have hs9 := Bx hs8 k3
    exact Ai.le ⟨⟨{ s8 with i := s8.i + 1 }, l ++ [c], w⟩, ⟨⟨hs9, by dsimp only; omega, fun h => ⟨hq3 k4, by simp only [List.length_append, List.length_cons, List.length_nil]; have := hl8 k4; omega⟩, by simp only [List.length_append, List.length_cons, List.length_nil]; omega, hn8⟩, by
     dsimp only
     rw [if_pos c0]
     split <;> omega⟩, rfl⟩ (by simp +contextual -dsimp only [↓SD, SU, simprocAttr]) (by simp +contextual -dsimp only [↓SD, SU, simprocAttr, rdB, List.length_append, List.map_append, hav])
   ·rw [decide_eq_false hbar] at CB
    simp +contextual -dsimp only [↓SD, SU, simprocAttr, rdB, Ab, Aa, ht2, hlm]
    refine ⟨⟨by omega, by unfold maxLen; omega⟩, fun w => ?_⟩
    (refine Ad [2100, 2101] (CB) (by first | (simp +contextual -dsimp only [↓SD, SU, simprocAttr, rdB]; done) | (simp +contextual -dsimp only [↓SD, SU, simprocAttr, rdB, Af]; done) | (simp +contextual -dsimp only [↓SD, SU, simprocAttr, rdB, c0]; done)) ?_; rintro r hp' ⟨rfl, rfl⟩)
    simp +contextual -dsimp only [↓SD, SU, simprocAttr, rdB, Ab, Aa]
    (refine Ad [2100, 2101] (A8 C s8 hs8 (bs [59]) (by decide)) (by first | (simp +contextual -dsimp only [↓SD, SU, simprocAttr, rdB]; done) | (simp +contextual -dsimp only [↓SD, SU, simprocAttr, rdB, Af]; done) | (simp +contextual -dsimp only [↓SD, SU, simprocAttr, rdB, c0]; done)) ?_; rintro r hp' ⟨s9, rfl, hs9, hi9, hc9, rfl, hp9⟩)
    simp +contextual -dsimp only [↓SD, SU, simprocAttr, rdB, Ab, Aa]
    refine Ai.post (rdB C s9 ++ [(34, ⟨w, false, 96, 3, (l ++ [c]).map av⟩)]) ?_
    simp +contextual -dsimp only [↓SD, SU, simprocAttr, rdB, Ab, Aa, List.length_append, List.map_append, hav]
    exact ⟨s9, w, x, n, l ++ [c], by rw [List.map_append, List.map_cons, List.map_nil, hav]; rfl, hs9, by omega, fun h => hq3 (hc9 h), by rw [List.length_append]; rfl, hx, hn, (fun _ => by rw [List.length_append]; exact Nat.le_add_left 1 _), by simp only [List.length_append, List.length_cons, List.length_nil]; omega, hn8⟩
 ·simp +contextual -dsimp only [↓SD, SU, simprocAttr, rdB, Ab, Aa, c0]
  (refine Ad [2100, 2101] (A8 C s3 hs3 (bs [59]) (by decide)) (by first | (simp +contextual -dsimp only [↓SD, SU, simprocAttr, rdB]; done) | (simp +contextual -dsimp only [↓SD, SU, simprocAttr, rdB, Af]; done) | (simp +contextual -dsimp only [↓SD, SU, simprocAttr, rdB, c0]; done)) ?_; rintro r hp' ⟨s4, rfl, hs4, hi4, hc4, rfl, hp4⟩)
  simp +contextual -dsimp only [↓SD, SU, simprocAttr, rdB, Ab, Aa]
  refine Ai.post (rdB C s4 ++ [(34, ⟨u, false, 96, 3, l.map av⟩)]) ?_
  simp +contextual -dsimp only [↓SD, SU, simprocAttr, rdB, Ab, Aa]
  exact ⟨s4, u, x, n, l, rfl, hs4, by omega, fun h => (hc3 (hc4 h)).1, rfl, hx, hn, fun h => absurd (hc4 h) c0, by omega, hn3⟩
theorem Sv (C : RC) (s : RS) (hs : Bm C s) (nm : Nat) (hnm : 10000 ≤ nm) : AW Tryz.prog 80 [.ptr 2100 C.v 0 0] (rdB C s) (Acl C s nm) := Gq (LF C s hs) fun r hp' ⟨s', v, x, n, l, h1, h2, h3, h4, h5, h6⟩ => by
 subst h1 h5
 refine Ai.Acz 0 2 34 nm (cs := [.str x, .int .i64 n, .row 34 v l.length]) (b := ⟨v, false, 96, 3, l.map av⟩) rfl rfl rfl rfl fun v' => ?_
 have e1 : ∀ k, k < 10000 → ∀ b hp, Ay ((nm, b) :: hp) k = Ay hp k := fun k hk b hp => B5 (by omega)
 refine Ai.le (t := ⟨[(0, .agg [.str x, .int .i64 n, .row nm v' l.length])], rdB C s' ++ [(nm, ⟨v', false, 96, 3, l.map av⟩)]⟩) ⟨s', v', x, n, l, rfl, h2, h3, h4, rfl, h6⟩ (by simp [Oq, Bf]) ?_
 refine AO.2 ⟨?_, ?_⟩
 ·refine ⟨?_, ?_, trivial⟩
  ·rw [e1 _ (by decide)]; rfl
  ·rw [e1 _ (by decide)]; rfl
 ·exact ⟨Ft, trivial⟩
theorem UW (C : RC) (s : RS) (hs : Bm C s) : AW Tryz.prog 80 [.ptr 2100 C.v 0 0] (rdB C s) (RP C s (Ack C s)) := Gq (LF C s hs) fun r hp' ⟨s', v, x, n, l, h1, h2, h3, h4, h5, h6, h7, _, h8⟩ => by
 subst h1 h5
 have ht : List.take l.length (l.map (av : Con → AV)) = l.map av := List.take_of_length_le (by simp)
 refine Ai.frz 34 (Ai.pur 0 (Ai.le (t := ⟨[(0, .agg [.str x, .int .i64 n, .sl (l.map av)])], rdB C s'⟩) ⟨s', rfl, h2, h3, h4, x, n, l, rfl, h6, h7, h8⟩ ?_ ?_))
 ·simp +contextual -dsimp only [↓SD, SU, simprocAttr, rdB, Ab, Aa, ht, Nat.le_refl]
 ·simp +contextual -dsimp only [↓SD, SU, simprocAttr, rdB, Ab, Aa]
end Go.Proofs.YtoffpbehgncakaaGreat
