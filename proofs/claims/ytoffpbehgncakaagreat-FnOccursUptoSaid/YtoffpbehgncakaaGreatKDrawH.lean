/-
 TEXTS DRAWN, AND PROGRAMS READ FROM THEM: l08More, l09Text, l16Text, l08Any, l09Any, l16Any. Conditions: none.
-/
import Derived.Test.YtoffpbehgncakaaGreatKDrawG
set_option linter.unusedVariables false
set_option linter.unusedSimpArgs false
set_option maxRecDepth 100000
namespace Go.Proofs.YtoffpbehgncakaaGreat
open Go.RowKit Go.Proofs.YtoffpbehgncakaaGreat.Av Go.Proofs.YtoffpbehgncakaaGreat.Ml
open Go.Proofs.YtoffpbehgncakaaGreat.Av.AVal (av)

def strs (n : Nat) : List AV → Bool
 | [] => true
 | .str s :: l => decide (s.size ≤ n) && strs n l
 | _ :: _ => false
def sAt (L : List AV) (q : Nat) : ByteArray := match L.getD q .top with
 | .str s => s
 | _ => bs []
theorem Fv {n : Nat} : ∀ {L : List AV} {q : Nat}, strs n L = true → q < L.length → L.getD q .top = .str (sAt L q) ∧ (sAt L q).size ≤ n
 | [], _, _, h => absurd h (Nat.not_lt_zero _)
 | .str s :: l, 0, h, _ => by
  simp only [strs, Bool.and_eq_true, decide_eq_true_eq] at h
  exact ⟨rfl, h.1⟩
 | .str s :: l, q + 1, h, hq => by
  simp only [strs, Bool.and_eq_true] at h
  exact Fv (L := l) h.2 (by simpa using hq)
 | .bool _ :: _, _, h, _ => by cases h
 | .int _ _ :: _, _, h, _ => by cases h
 | .agg _ :: _, _, h, _ => by cases h
 | .tup _ :: _, _, h, _ => by cases h
 | .C9 :: _, _, h, _ => by cases h
 | .obj _ :: _, _, h, _ => by cases h
 | .sl _ :: _, _, h, _ => by cases h
 | .Au :: _, _, h, _ => by cases h
 | .fn _ _ :: _, _, h, _ => by cases h
 | .F6 :: _, _, h, _ => by cases h
 | .ptr _ _ _ _ :: _, _, h, _ => by cases h
 | .row _ _ _ :: _, _, h, _ => by cases h
 | .top :: _, _, h, _ => by cases h
theorem CO (n : Nat) : strs n [] = true := eqq rfl
theorem Ch (n : Nat) (s : ByteArray) (l : List AV) : strs n (.str s :: l) = (decide (s.size ≤ n) && strs n l) := eqq rfl
theorem Jd {a b : List Nat} {s t : ByteArray} (hs : s.size ≤ 100) (ht : t.size ≤ 100) (h : a.length + b.length ≤ 50) : (bs a ++ s ++ bs b ++ t).size ≤ 250 := by
 rw [ByteArray.size_append, ByteArray.size_append, ByteArray.size_append, Cz, Cz]
 omega
theorem UO (c : List UInt8) (v i : Nat) (h : Int) (hk : C6 c i h) : AW Tryz.prog 147 [.ptr 2000 v 0 0] [(2000, BR c v i h)] (KS c v 250) := by
 refine Hz.H rfl ?_
 simp +contextual -dsimp (maxSteps := 2000000) only [↓SD, SU, simprocAttr, CFB, Hz]
 (refine Ad [2000] (AJ c v _ _ hk (20) (by omega)) (by simp +contextual -dsimp only [↓SD, SU, simprocAttr]) ?_; clear hk; rintro r hp' ⟨p, i, h, rfl, hp, hk, rfl⟩)
 obtain ⟨p0, p1⟩ := hp.in (by omega)
 obtain ⟨q, rfl⟩ : ∃ q : Nat, p = q := ⟨p.toNat, by omega⟩
 have e : ∀ L, strs 250 L = true → L.length = 20 → L.getD q .top = .str (sAt L q) := fun L h1 h2 => (Fv h1 (by omega)).1
 have e2 : ∀ L, strs 250 L = true → L.length = 20 → (sAt L q).size ≤ 250 := fun L h1 h2 => (Fv h1 (by omega)).2
 simp +contextual -dsimp (maxSteps := 2000000) only [↓SD, SU, simprocAttr, CFB, e, CO, Ch, Cz]
 refine ⟨by omega, Ai.post [(2000, BR c v i h)] ?_⟩
 simp +contextual -dsimp (maxSteps := 2000000) only [↓SD, SU, simprocAttr]
 refine ⟨_, i, h, rfl, e2 _ ?_ rfl, hk, rfl⟩
 simp +contextual -dsimp (maxSteps := 2000000) only [↓SD, SU, simprocAttr, CO, Ch, Cz]
theorem UN (c : List UInt8) (v i : Nat) (h : Int) (hk : C6 c i h) : AW Tryz.prog 83 [.ptr 2000 v 0 0] [(2000, BR c v i h)] (KS c v 250) := by
 refine Hy.H rfl ?_
 have e : ∀ q, q < 19 → ∀ L, strs 100 L = true → L.length = 19 → L.getD q .top = .str (sAt L q) := fun q hq L h1 h2 => (Fv h1 (by omega)).1
 have e2 : ∀ q, q < 19 → ∀ L, strs 100 L = true → L.length = 19 → (sAt L q).size ≤ 100 := fun q hq L h1 h2 => (Fv h1 (by omega)).2
 simp +contextual -dsimp (maxSteps := 2000000) only [↓SD, SU, simprocAttr, CFB, Hy]
 (refine Ad [2000] (AJ c v _ _ hk (19) (by omega)) (by simp +contextual -dsimp only [↓SD, SU, simprocAttr]) ?_; clear hk; rintro r hp' ⟨p, i, h, rfl, hp, hk, rfl⟩)
 obtain ⟨p0, p1⟩ := hp.in (by omega)
 obtain ⟨q, rfl⟩ : ∃ q : Nat, p = q := ⟨p.toNat, by omega⟩
 have hq : q < 19 := by omega
 simp +contextual -dsimp (maxSteps := 2000000) only [↓SD, SU, simprocAttr, CFB, e, hq, CO, Ch, Cz]
 refine ⟨by omega, ?_⟩
 generalize hs : sAt _ q = s
 have hs1 : s.size ≤ 100 := by
  rw [← hs]
  refine e2 q hq _ ?_ rfl
  simp +contextual -dsimp (maxSteps := 2000000) only [↓SD, SU, simprocAttr, CO, Ch, Cz]
 clear hs
 (refine Ad [2000] (AJ c v _ _ hk (3) (by omega)) (by simp +contextual -dsimp only [↓SD, SU, simprocAttr]) ?_; clear hk; rintro r hp' ⟨j, i, h, rfl, hj, hk, rfl⟩)
 by_cases k0 : j = 0
 ·simp +contextual -dsimp (maxSteps := 2000000) only [↓SD, SU, simprocAttr, CFB, k0, Cz]
  refine ⟨by unfold maxLen; omega, ?_⟩
  refine ⟨by rw [ByteArray.size_append, Cz]; unfold maxLen; simp only [List.length_cons, List.length_nil]; omega, ?_⟩
  (refine Ad [2000] (AJ c v _ _ hk (19) (by omega)) (by simp +contextual -dsimp only [↓SD, SU, simprocAttr]) ?_; clear hk; rintro r hp' ⟨p, i, h, rfl, hp, hk, rfl⟩)
  obtain ⟨p0, p1⟩ := hp.in (by omega)
  obtain ⟨q', rfl⟩ : ∃ q : Nat, p = q := ⟨p.toNat, by omega⟩
  have hq' : q' < 19 := by omega
  simp +contextual -dsimp (maxSteps := 2000000) only [↓SD, SU, simprocAttr, CFB, e, hq', CO, Ch, Cz]
  refine ⟨by omega, ?_⟩
  generalize ht : sAt _ q' = t
  have ht1 : t.size ≤ 100 := by
   rw [← ht]
   refine e2 q' hq' _ ?_ rfl
   simp +contextual -dsimp (maxSteps := 2000000) only [↓SD, SU, simprocAttr, CO, Ch, Cz]
  clear ht
  have z := Jd hs1 ht1 (a := [108, 101, 116, 32, 122, 32, 61, 32]) (b := [32, 105, 110, 32]) (by decide)
  refine ⟨by rw [← ByteArray.size_append]; unfold maxLen; omega, Ai.post [(2000, BR c v i h)] ?_⟩
  simp +contextual -dsimp (maxSteps := 2000000) only [↓SD, SU, simprocAttr]
  exact ⟨_, i, h, rfl, Jd hs1 ht1 (by decide), hk, rfl⟩
 ·simp +contextual -dsimp (maxSteps := 2000000) only [↓SD, SU, simprocAttr, CFB, k0]
  refine Ai.post [(2000, BR c v i h)] ?_
  simp +contextual -dsimp (maxSteps := 2000000) only [↓SD, SU, simprocAttr]
  exact ⟨_, i, h, rfl, Nat.le_trans hs1 (by decide), hk, rfl⟩
theorem UM (c : List UInt8) (v i : Nat) (h : Int) (hk : C6 c i h) : AW Tryz.prog 43 [.ptr 2000 v 0 0] [(2000, BR c v i h)] (KS c v 250) := by
 refine Hx.H rfl ?_
 have e : ∀ q, q < 15 → ∀ L, strs 100 L = true → L.length = 15 → L.getD q .top = .str (sAt L q) := fun q hq L h1 h2 => (Fv h1 (by omega)).1
 have e2 : ∀ q, q < 15 → ∀ L, strs 100 L = true → L.length = 15 → (sAt L q).size ≤ 100 := fun q hq L h1 h2 => (Fv h1 (by omega)).2
 simp +contextual -dsimp (maxSteps := 2000000) only [↓SD, SU, simprocAttr, CFB, Hx]
 (refine Ad [2000] (AJ c v _ _ hk (15) (by omega)) (by simp +contextual -dsimp only [↓SD, SU, simprocAttr]) ?_; clear hk; rintro r hp' ⟨p, i, h, rfl, hp, hk, rfl⟩)
 obtain ⟨p0, p1⟩ := hp.in (by omega)
 obtain ⟨q, rfl⟩ : ∃ q : Nat, p = q := ⟨p.toNat, by omega⟩
 have hq : q < 15 := by omega
 simp +contextual -dsimp (maxSteps := 2000000) only [↓SD, SU, simprocAttr, CFB, e, hq, CO, Ch, Cz]
 refine ⟨by omega, ?_⟩
 generalize hs : sAt _ q = s
 have hs1 : s.size ≤ 100 := by
  rw [← hs]
  refine e2 q hq _ ?_ rfl
  simp +contextual -dsimp (maxSteps := 2000000) only [↓SD, SU, simprocAttr, CO, Ch, Cz]
 clear hs
 (refine Ad [2000] (AJ c v _ _ hk (4) (by omega)) (by simp +contextual -dsimp only [↓SD, SU, simprocAttr]) ?_; clear hk; rintro r hp' ⟨j, i, h, rfl, hj, hk, rfl⟩)
 by_cases k0 : j = 0
 ·simp +contextual -dsimp (maxSteps := 2000000) only [↓SD, SU, simprocAttr, CFB, k0, Cz]
  refine ⟨by unfold maxLen; omega, ?_⟩
  refine ⟨by rw [ByteArray.size_append, Cz]; unfold maxLen; simp only [List.length_cons, List.length_nil]; omega, ?_⟩
  (refine Ad [2000] (AJ c v _ _ hk (15) (by omega)) (by simp +contextual -dsimp only [↓SD, SU, simprocAttr]) ?_; clear hk; rintro r hp' ⟨p, i, h, rfl, hp, hk, rfl⟩)
  obtain ⟨p0, p1⟩ := hp.in (by omega)
  obtain ⟨q', rfl⟩ : ∃ q : Nat, p = q := ⟨p.toNat, by omega⟩
  have hq' : q' < 15 := by omega
  simp +contextual -dsimp (maxSteps := 2000000) only [↓SD, SU, simprocAttr, CFB, e, hq', CO, Ch, Cz]
  refine ⟨by omega, ?_⟩
  generalize ht : sAt _ q' = t
  have ht1 : t.size ≤ 100 := by
   rw [← ht]
   refine e2 q' hq' _ ?_ rfl
   simp +contextual -dsimp (maxSteps := 2000000) only [↓SD, SU, simprocAttr, CO, Ch, Cz]
  clear ht
  have z := Jd hs1 ht1 (a := [108, 101, 116, 32, 122, 32, 61, 32]) (b := [32, 105, 110, 32]) (by decide)
  refine ⟨by rw [← ByteArray.size_append]; unfold maxLen; omega, Ai.post [(2000, BR c v i h)] ?_⟩
  simp +contextual -dsimp (maxSteps := 2000000) only [↓SD, SU, simprocAttr]
  exact ⟨_, i, h, rfl, Jd hs1 ht1 (by decide), hk, rfl⟩
 ·simp +contextual -dsimp (maxSteps := 2000000) only [↓SD, SU, simprocAttr, CFB, k0]
  refine Ai.post [(2000, BR c v i h)] ?_
  simp +contextual -dsimp (maxSteps := 2000000) only [↓SD, SU, simprocAttr]
  exact ⟨_, i, h, rfl, Nat.le_trans hs1 (by decide), hk, rfl⟩
theorem Yn {P : Go.Program} {f : FuncId} {args : List AV} {hp : Hp} {Post Post2 : AV → Hp → Prop} (h : AW P f args hp Post) (hg : ∀ r hp', Post r hp' → Post2 (nz r) hp') : AW P f args hp Post2 := by
 obtain ⟨hc, h⟩ := h
 exact ⟨hc, fun S w μ vs hW hv => (h S w μ vs hW hv).mono fun e w' ⟨v, r, hp', S', μ', he, hpst, hr, hw⟩ => ⟨v, _, hp', S', μ', he, hg _ _ hpst, hr.nz, hw⟩⟩
theorem K8 (c : List UInt8) (v i : Nat) (h : Int) (hk : C6 c i h) : AW Tryz.prog 89 [.ptr 2000 v 0 0] [(2000, BR c v i h)] (Qg c v) := Yn (UU c v i h hk) fun r hp' ⟨p, i, h, e, hp, hk, h1⟩ => ⟨p, i, h, e, hp, hk, h1⟩
theorem Dl {c : List UInt8} {v i v2 : Nat} {h : Int} {fr : List (Nat × AV)} {hp : Hp} {p : Program} (hk : C6 c i h) (hp0 : Ob p) (h0 : Bf fr 2 = .ptr 2 v2 0 0) (h2 : Ay hp 2 = some ⟨v2, false, 26, 2, [.agg [.sl (p.types.map av), .sl (p.nodes.map av)]]⟩) (hc : Ay hp 2000 = some (BR c v i h)) : Ai ⟨fr, hp⟩ (KU [En.c true 2 2] (Qg c v)) := by
 refine Ai.post [(2000, BR c v i h)] ?_
 simp +contextual -dsimp (maxSteps := 2000000) only [↓SD, SU, simprocAttr, h0, h2, hc]
 exact ⟨p, i, h, rfl, hp0, hk, rfl⟩
set_option maxHeartbeats 4000000 in
theorem Pn (c : List UInt8) (v i : Nat) (h : Int) (hk : C6 c i h) : AW Tryz.prog 84 [.ptr 2000 v 0 0] [(2000, BR c v i h)] (Qg c v) := by
 refine Ix.H rfl ?_
 simp +contextual -dsimp (maxSteps := 2000000) only [↓SD, SU, simprocAttr, CFB, Ix]
 intro v2
 refine Ad [2000] (UO c v i h hk) (by simp +contextual -dsimp only [↓SD, SU, simprocAttr]) ?_
 clear hk
 rintro r hp' ⟨s, i, h, rfl, hs, hk, rfl⟩
 simp +contextual -dsimp (maxSteps := 2000000) only [↓SD, SU, simprocAttr, CFB]
 refine Ad [] (Lk s (by omega)) (by simp +contextual -dsimp only [↓SD, SU, simprocAttr]) ?_
 rintro r hp' ⟨p, cd, q, rfl, hp0, rfl⟩
 simp +contextual -dsimp (maxSteps := 2000000) only [↓SD, SU, simprocAttr, CFB, Aw]
 intro v3
 by_cases hc : cd = 0
 ·simp +contextual -dsimp (maxSteps := 2000000) only [↓SD, SU, simprocAttr, CFB, hc]
  (refine Ad [2000] (AJ c v _ _ hk (3) (by omega)) (by simp +contextual -dsimp only [↓SD, SU, simprocAttr]) ?_; clear hk; rintro r hp' ⟨j, i, h, rfl, hj, hk, rfl⟩)
  by_cases hj : j = 0
  ·simp +contextual -dsimp (maxSteps := 2000000) only [↓SD, SU, simprocAttr, CFB, hj, hc]
   refine Ad [2000] (Is c v _ _ hk) (by simp +contextual -dsimp only [↓SD, SU, simprocAttr]) ?_
   clear hk
   rintro r hp' ⟨p, i, h, rfl, hp0, hk, rfl⟩
   simp +contextual -dsimp (maxSteps := 2000000) only [↓SD, SU, simprocAttr, CFB, Aw]
   (refine Ad [2000] (AJ c v _ _ hk (20) (by omega)) (by simp +contextual -dsimp only [↓SD, SU, simprocAttr]) ?_; clear hk; rintro r hp' ⟨u, i, h, rfl, hu, hk, rfl⟩)
   by_cases hj : u = 0
   ·simp +contextual -dsimp (maxSteps := 2000000) only [↓SD, SU, simprocAttr, CFB, hj, hc]
    refine Ad [2000] (K8 c v _ _ hk) (by simp +contextual -dsimp only [↓SD, SU, simprocAttr]) ?_
    clear hk
    rintro r hp' ⟨p, i, h, rfl, hp0, hk, rfl⟩
    simp +contextual -dsimp (maxSteps := 2000000) only [↓SD, SU, simprocAttr, CFB, Aw]
    exact Dl hk hp0 rfl rfl rfl
   ·simp +contextual -dsimp (maxSteps := 2000000) only [↓SD, SU, simprocAttr, CFB, hj, hc]
    exact Dl hk hp0 rfl rfl rfl
  ·simp +contextual -dsimp (maxSteps := 2000000) only [↓SD, SU, simprocAttr, CFB, hj, hc]
   (refine Ad [2000] (AJ c v _ _ hk (20) (by omega)) (by simp +contextual -dsimp only [↓SD, SU, simprocAttr]) ?_; clear hk; rintro r hp' ⟨u, i, h, rfl, hu, hk, rfl⟩)
   by_cases hj : u = 0
   ·simp +contextual -dsimp (maxSteps := 2000000) only [↓SD, SU, simprocAttr, CFB, hj, hc]
    refine Ad [2000] (K8 c v _ _ hk) (by simp +contextual -dsimp only [↓SD, SU, simprocAttr]) ?_
    clear hk
    rintro r hp' ⟨p, i, h, rfl, hp0, hk, rfl⟩
    simp +contextual -dsimp (maxSteps := 2000000) only [↓SD, SU, simprocAttr, CFB, Aw]
    exact Dl hk hp0 rfl rfl rfl
   ·simp +contextual -dsimp (maxSteps := 2000000) only [↓SD, SU, simprocAttr, CFB, hj, hc]
    exact Dl hk hp0 rfl rfl rfl
 ·simp +contextual -dsimp (maxSteps := 2000000) only [↓SD, SU, simprocAttr, CFB, hc]
  refine Ad [2000] (Is c v _ _ hk) (by simp +contextual -dsimp only [↓SD, SU, simprocAttr]) ?_
  clear hk
  rintro r hp' ⟨p, i, h, rfl, hp0, hk, rfl⟩
  simp +contextual -dsimp (maxSteps := 2000000) only [↓SD, SU, simprocAttr, CFB, Aw]
  (refine Ad [2000] (AJ c v _ _ hk (20) (by omega)) (by simp +contextual -dsimp only [↓SD, SU, simprocAttr]) ?_; clear hk; rintro r hp' ⟨u, i, h, rfl, hu, hk, rfl⟩)
  by_cases hj : u = 0
  ·simp +contextual -dsimp (maxSteps := 2000000) only [↓SD, SU, simprocAttr, CFB, hj, hc]
   refine Ad [2000] (K8 c v _ _ hk) (by simp +contextual -dsimp only [↓SD, SU, simprocAttr]) ?_
   clear hk
   rintro r hp' ⟨p, i, h, rfl, hp0, hk, rfl⟩
   simp +contextual -dsimp (maxSteps := 2000000) only [↓SD, SU, simprocAttr, CFB, Aw]
   exact Dl hk hp0 rfl rfl rfl
  ·simp +contextual -dsimp (maxSteps := 2000000) only [↓SD, SU, simprocAttr, CFB, hj, hc]
   exact Dl hk hp0 rfl rfl rfl
set_option maxHeartbeats 4000000 in
theorem Pm (c : List UInt8) (v i : Nat) (h : Int) (hk : C6 c i h) : AW Tryz.prog 44 [.ptr 2000 v 0 0] [(2000, BR c v i h)] (Qg c v) := by
 refine Iw.H rfl ?_
 simp +contextual -dsimp (maxSteps := 2000000) only [↓SD, SU, simprocAttr, CFB, Iw]
 intro v2
 refine Ad [2000] (UN c v i h hk) (by simp +contextual -dsimp only [↓SD, SU, simprocAttr]) ?_
 clear hk
 rintro r hp' ⟨s, i, h, rfl, hs, hk, rfl⟩
 simp +contextual -dsimp (maxSteps := 2000000) only [↓SD, SU, simprocAttr, CFB]
 refine Ad [] (Lk s (by omega)) (by simp +contextual -dsimp only [↓SD, SU, simprocAttr]) ?_
 rintro r hp' ⟨p, cd, q, rfl, hp0, rfl⟩
 simp +contextual -dsimp (maxSteps := 2000000) only [↓SD, SU, simprocAttr, CFB, Aw]
 intro v3
 by_cases hc : cd = 0
 ·simp +contextual -dsimp (maxSteps := 2000000) only [↓SD, SU, simprocAttr, CFB, hc]
  (refine Ad [2000] (AJ c v _ _ hk (3) (by omega)) (by simp +contextual -dsimp only [↓SD, SU, simprocAttr]) ?_; clear hk; rintro r hp' ⟨j, i, h, rfl, hj, hk, rfl⟩)
  by_cases hj : j = 0
  ·simp +contextual -dsimp (maxSteps := 2000000) only [↓SD, SU, simprocAttr, CFB, hj, hc]
   refine Ad [2000] (Pn c v _ _ hk) (by simp +contextual -dsimp only [↓SD, SU, simprocAttr]) ?_
   clear hk
   rintro r hp' ⟨p, i, h, rfl, hp0, hk, rfl⟩
   simp +contextual -dsimp (maxSteps := 2000000) only [↓SD, SU, simprocAttr, CFB, Aw]
   exact Dl hk hp0 rfl rfl rfl
  ·simp +contextual -dsimp (maxSteps := 2000000) only [↓SD, SU, simprocAttr, CFB, hj, hc]
   exact Dl hk hp0 rfl rfl rfl
 ·simp +contextual -dsimp (maxSteps := 2000000) only [↓SD, SU, simprocAttr, CFB, hc]
  refine Ad [2000] (Pn c v _ _ hk) (by simp +contextual -dsimp only [↓SD, SU, simprocAttr]) ?_
  clear hk
  rintro r hp' ⟨p, i, h, rfl, hp0, hk, rfl⟩
  simp +contextual -dsimp (maxSteps := 2000000) only [↓SD, SU, simprocAttr, CFB, Aw]
  exact Dl hk hp0 rfl rfl rfl
set_option maxHeartbeats 4000000 in
theorem XY (c : List UInt8) (v i : Nat) (h : Int) (hk : C6 c i h) : AW Tryz.prog 15 [.ptr 2000 v 0 0] [(2000, BR c v i h)] (Qg c v) := by
 refine Iu.H rfl ?_
 simp +contextual -dsimp (maxSteps := 2000000) only [↓SD, SU, simprocAttr, CFB, Iu]
 intro v2
 refine Ad [2000] (UM c v i h hk) (by simp +contextual -dsimp only [↓SD, SU, simprocAttr]) ?_
 clear hk
 rintro r hp' ⟨s, i, h, rfl, hs, hk, rfl⟩
 simp +contextual -dsimp (maxSteps := 2000000) only [↓SD, SU, simprocAttr, CFB]
 refine Ad [] (Lk s (by omega)) (by simp +contextual -dsimp only [↓SD, SU, simprocAttr]) ?_
 rintro r hp' ⟨p, cd, q, rfl, hp0, rfl⟩
 simp +contextual -dsimp (maxSteps := 2000000) only [↓SD, SU, simprocAttr, CFB, Aw]
 intro v3
 by_cases hc : cd = 0
 ·simp +contextual -dsimp (maxSteps := 2000000) only [↓SD, SU, simprocAttr, CFB, hc]
  (refine Ad [2000] (AJ c v _ _ hk (3) (by omega)) (by simp +contextual -dsimp only [↓SD, SU, simprocAttr]) ?_; clear hk; rintro r hp' ⟨j, i, h, rfl, hj, hk, rfl⟩)
  by_cases hj : j = 0
  ·simp +contextual -dsimp (maxSteps := 2000000) only [↓SD, SU, simprocAttr, CFB, hj, hc]
   refine Ad [2000] (Pm c v _ _ hk) (by simp +contextual -dsimp only [↓SD, SU, simprocAttr]) ?_
   clear hk
   rintro r hp' ⟨p, i, h, rfl, hp0, hk, rfl⟩
   simp +contextual -dsimp (maxSteps := 2000000) only [↓SD, SU, simprocAttr, CFB, Aw]
   exact Dl hk hp0 rfl rfl rfl
  ·simp +contextual -dsimp (maxSteps := 2000000) only [↓SD, SU, simprocAttr, CFB, hj, hc]
   exact Dl hk hp0 rfl rfl rfl
 ·simp +contextual -dsimp (maxSteps := 2000000) only [↓SD, SU, simprocAttr, CFB, hc]
  refine Ad [2000] (Pm c v _ _ hk) (by simp +contextual -dsimp only [↓SD, SU, simprocAttr]) ?_
  clear hk
  rintro r hp' ⟨p, i, h, rfl, hp0, hk, rfl⟩
  simp +contextual -dsimp (maxSteps := 2000000) only [↓SD, SU, simprocAttr, CFB, Aw]
  exact Dl hk hp0 rfl rfl rfl
def AcH (r : AV) (hp' : Hp) : Prop := ∃ (p : Program) (x : Int) (s : ByteArray), r = .tup [av p, .int .i64 x, .str s] ∧ Ob p ∧ s.size ≤ 5 ∧ (-9223372036854775808 ≤ x ∧ x ≤ 9223372036854775807) ∧ hp' = []
theorem Ox (c : List UInt8) (hc : c.length ≤ 1048576) : AW Tryz.prog 5 [.sl (c.map av)] [] AcH := by -- 
 refine FZ.H rfl ?_
 simp +contextual -dsimp (maxSteps := 2000000) only [↓SD, SU, simprocAttr, CFB, FZ]
 intro v2
 refine Ad [] (Ye c hc) (by simp +contextual -dsimp only [↓SD, SU, simprocAttr]) ?_
 rintro r hp' ⟨v, i, h, rfl, hk, rfl⟩
 simp +contextual -dsimp (maxSteps := 2000000) only [↓SD, SU, simprocAttr, CFB]
 refine Ad [2000] (XY c v _ _ hk) (by simp +contextual -dsimp only [↓SD, SU, simprocAttr]) ?_
 clear hk
 rintro r hp' ⟨p, i, h, rfl, hp0, hk, rfl⟩
 simp +contextual -dsimp (maxSteps := 2000000) only [↓SD, SU, simprocAttr, CFB, Aw, Aa]
 intro v6
 have hn := hp0.1
 (refine Ad [2000] (AJ c v _ _ hk ((p.nodes.length)) (by omega)) (by simp +contextual -dsimp only [↓SD, SU, simprocAttr]) ?_; clear hk; rintro r hp' ⟨x, i, h, rfl, hx, hk, rfl⟩)
 simp +contextual -dsimp (maxSteps := 2000000) only [↓SD, SU, simprocAttr, CFB, Aa]
 have hx' : 0 ≤ x ∧ x ≤ 600 := ⟨hx.1, by
  by_cases h0 : (0 : Int) < p.nodes.length
  ·have := hx.2.1 h0; omega
  ·have := hx.2.2 (by omega); omega⟩
 (refine Ad [2000] (AJ c v _ _ hk (10) (by omega)) (by simp +contextual -dsimp only [↓SD, SU, simprocAttr]) ?_; clear hk; rintro r hp' ⟨j, i, h, rfl, hj, hk, rfl⟩)
 have e : ∀ q, q < 5 → ∀ L, strs 5 L = true → L.length = 5 → L.getD q .top = .str (sAt L q) := fun q hq L h1 h2 => (Fv h1 (by omega)).1
 have e2 : ∀ q, q < 5 → ∀ L, strs 5 L = true → L.length = 5 → (sAt L q).size ≤ 5 := fun q hq L h1 h2 => (Fv h1 (by omega)).2
 by_cases hj : j = 0
 ·simp +contextual -dsimp (maxSteps := 2000000) only [↓SD, SU, simprocAttr, CFB, hj]
  refine Ad [2000] (K9 c v _ _ hk) (by simp +contextual -dsimp only [↓SD, SU, simprocAttr]) ?_
  clear hk
  rintro r hp' ⟨x, i, h, rfl, hx, hk, rfl⟩
  simp +contextual -dsimp (maxSteps := 2000000) only [↓SD, SU, simprocAttr, CFB]
  refine BQ ?_
  refine Ai.frz 6 ?_
  refine Ai.pur 6 ?_
  refine Ai.here ?_
  simp +contextual -dsimp (maxSteps := 2000000) only [↓SD, SU, simprocAttr, CFB, Ab, Aa]
  (refine Ad [2000] (AJ c v _ _ hk (5) (by omega)) (by simp +contextual -dsimp only [↓SD, SU, simprocAttr]) ?_; clear hk; rintro r hp' ⟨w, i, h, rfl, hw, hk, rfl⟩)
  obtain ⟨w0, w1⟩ := hw.in (by omega)
  obtain ⟨q, rfl⟩ : ∃ q : Nat, w = q := ⟨w.toNat, by omega⟩
  have hq : q < 5 := by omega
  simp +contextual -dsimp (maxSteps := 2000000) only [↓SD, SU, simprocAttr, CFB, e, hq, CO, Ch, Cz, Ab, Aa]
  refine ⟨by omega, ?_⟩
  generalize hs : sAt _ q = s
  have hs1 : s.size ≤ 5 := by
   rw [← hs]
   refine e2 q hq _ ?_ rfl
   simp +contextual -dsimp (maxSteps := 2000000) only [↓SD, SU, simprocAttr, CO, Ch, Cz]
  clear hs
  refine Ai.post [] ?_
  simp +contextual -dsimp (maxSteps := 2000000) only [↓SD, SU, simprocAttr, Ab, Aa]
  exact ⟨p, x, s, by rw [Aw], hp0, hs1, by omega, rfl⟩
 ·simp +contextual -dsimp (maxSteps := 2000000) only [↓SD, SU, simprocAttr, CFB, hj]
  refine BQ ?_
  refine Ai.frz 6 ?_
  refine Ai.pur 6 ?_
  refine Ai.here ?_
  simp +contextual -dsimp (maxSteps := 2000000) only [↓SD, SU, simprocAttr, CFB, Ab, Aa]
  (refine Ad [2000] (AJ c v _ _ hk (5) (by omega)) (by simp +contextual -dsimp only [↓SD, SU, simprocAttr]) ?_; clear hk; rintro r hp' ⟨w, i, h, rfl, hw, hk, rfl⟩)
  obtain ⟨w0, w1⟩ := hw.in (by omega)
  obtain ⟨q, rfl⟩ : ∃ q : Nat, w = q := ⟨w.toNat, by omega⟩
  have hq : q < 5 := by omega
  simp +contextual -dsimp (maxSteps := 2000000) only [↓SD, SU, simprocAttr, CFB, e, hq, CO, Ch, Cz, Ab, Aa]
  refine ⟨by omega, ?_⟩
  generalize hs : sAt _ q = s
  have hs1 : s.size ≤ 5 := by
   rw [← hs]
   refine e2 q hq _ ?_ rfl
   simp +contextual -dsimp (maxSteps := 2000000) only [↓SD, SU, simprocAttr, CO, Ch, Cz]
  clear hs
  refine Ai.post [] ?_
  simp +contextual -dsimp (maxSteps := 2000000) only [↓SD, SU, simprocAttr, Ab, Aa]
  exact ⟨p, x, s, by rw [Aw], hp0, hs1, by omega, rfl⟩
end Go.Proofs.YtoffpbehgncakaaGreat
