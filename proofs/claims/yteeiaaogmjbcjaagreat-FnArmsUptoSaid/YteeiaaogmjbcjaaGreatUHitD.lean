/-
 VALUES AND PATTERNS, DRAWN: l07Data, l07Pattern, l07Lay. Conditions: none.
-/
import Derived.Test.YteeiaaogmjbcjaaGreatUReadQ
import Derived.Test.YteeiaaogmjbcjaaGreatUJ20
set_option linter.unusedVariables false
set_option linter.unusedSimpArgs false
set_option maxRecDepth 100000
namespace Go.Proofs.YteeiaaogmjbcjaaGreat
open Go.RowKit Go.Proofs.YteeiaaogmjbcjaaGreat.Av Go.Proofs.YteeiaaogmjbcjaaGreat.Ml
open Go.Proofs.YteeiaaogmjbcjaaGreat.Av.AVal (av)
open OVal (ov oh on)

mutual
def paA : Px → AV
 | .mk n ks => .agg [.int .i64 n.kind, .int .i64 n.n, .str n.s, slN (Zl ks)]
def Zl : List Px → List AV
 | [] => []
 | t :: ts => paA t :: Zl ts
end
theorem RZ : ∀ ks, Zl ks = ks.map paA
 | [] => by rw [Zl]; rfl
 | t :: ts => by rw [Zl, RZ ts]; rfl
theorem B7 (n : Hd) (ks : List Px) : paA (.mk n ks) = .agg [.int .i64 n.kind, .int .i64 n.n, .str n.s, slN (ks.map paA)] := by rw [paA, RZ]
theorem Cq (t : Px) (hp : Hp) : (paA t).pur hp = paA t := by
 cases t with | mk n ks =>
 rw [B7]
 simp only [AV.pur, List.map_cons, List.map_nil, DY]
 rfl
theorem BF (t : Px) (hp : Hp) : (paA t).BN hp = paA t := by
 have h := Cq t hp
 cases t with | mk n ks =>
 rw [B7] at h ⊢
 exact h
theorem Cr (t : Px) : (paA t).cells.length = 4 := by cases t with | mk n ks => rw [B7]; rfl
theorem BZ (t : Px) : AV.agg (List.take 4 (paA t).cells) = paA t := by cases t with | mk n ks => rw [B7]; rfl
theorem DU (t : Px) : AV.agg (paA t).cells = paA t := by cases t with | mk n ks => rw [B7]; rfl
theorem DB (t : Px) : (paA t).ok = true := by cases t with | mk n ks => rw [B7]; rfl
theorem EX (t : Px) (a b c d : AV) : (paA t).EF 0 [a, b, c, d] = .agg [a, b, c, d] := by cases t with | mk n ks => rw [B7]; rfl
theorem Fk (t : Px) (F : Nat → AV) (esz i : Nat) (es : List AV) (ps : List (Nat × AB)) (k : List AV → Prop) : F5 (paA t) F esz i es ps k = (((paA t).cells.length = esz ∧ i < es.length) ∧ EE F esz (es.set i (paA t)) ps k) := by simp [F5, DB]
inductive DT : Nat → Px → Prop
 | int (f : Nat) (n : Int) (h0 : 0 ≤ n) (h1 : n < 4) : DT f (.mk ⟨3, n, bs []⟩ [])
 | unit (f : Nat) : DT f (.mk ⟨6, 0, bs []⟩ [])
 | nl (f : Nat) : DT f (.mk ⟨4, 0, bs [91, 93]⟩ [])
 | tr (f : Nat) : DT f (.mk ⟨4, 0, bs [116, 114, 117, 101]⟩ [])
 | leaf (f : Nat) : DT f (.mk ⟨4, 0, bs [76, 101, 97, 102]⟩ [])
 | var (f : Nat) : DT f (.mk ⟨2, 0, bs [97]⟩ [])
 | node (f : Nat) (a : Px) (h : DT f a) : DT (f + 1) (.mk ⟨4, 0, bs [78, 111, 100, 101]⟩ [a])
 | pair (f : Nat) (a b : Px) (ha : DT f a) (hb : DT f b) : DT (f + 1) (.mk ⟨5, 0, bs []⟩ [a, b])
 | cons (f : Nat) (a b : Px) (ha : DT f a) (hb : DT f b) : DT (f + 1) (.mk ⟨4, 0, bs [58, 58]⟩ [.mk ⟨5, 0, bs []⟩ [a, b]])
def AcR (c : List UInt8) (v f : Nat) (r : AV) (hp' : Hp) : Prop := ∃ t i h, r = paA t ∧ DT f t ∧ Dh c i h ∧ hp' = [(2000, Bp c v i h)]
set_option maxHeartbeats 4000000 in
theorem UG (c : List UInt8) (v : Nat) : ∀ (f : Nat), f ≤ 4 → ∀ (i : Nat) (h : Int) (hk : Dh c i h), AH Tryz.prog 22 [.ptr 2000 v 0 0, .int .i64 (4 - f)] [(2000, Bp c v i h)] (AcR c v f) := by
 intro f
 induction f with
 | zero =>
  intro hf i h hk
  refine D6.H rfl ?_
  simp +contextual -dsimp only [↓SD, SU, simprocAttr, CFB, D6]
  intro v4
  refine Ac [2000] (AL c v _ _ hk 8 (by omega)) (by simp +contextual -dsimp only [↓SD, SU, simprocAttr]) ?_
  clear hk
  rintro r hp' ⟨k, i, h, rfl, hkk, hk, rfl⟩
  obtain ⟨k0, k1⟩ := hkk.in (by omega)
  simp +contextual -dsimp only [↓SD, SU, simprocAttr, CFB]
  refine Ac [2000] (AL c v _ _ hk 4 (by omega)) (by simp +contextual -dsimp only [↓SD, SU, simprocAttr]) ?_
  clear hk
  rintro r hp' ⟨x, i, h, rfl, hx, hk, rfl⟩
  obtain ⟨x0, x1⟩ := hx.in (by omega)
  simp +contextual -dsimp only [↓SD, SU, simprocAttr, CFB]
  refine Ac [2000] (AL c v _ _ hk 6 (by omega)) (by simp +contextual -dsimp only [↓SD, SU, simprocAttr]) ?_
  clear hk
  rintro r hp' ⟨y, i, h, rfl, hy, hk, rfl⟩
  obtain ⟨y0, y1⟩ := hy.in (by omega)
  have hc : y = 0 ∨ y = 1 ∨ y = 2 ∨ y = 3 ∨ y = 4 ∨ y = 5 := by omega
  clear hy y0 y1
  rcases hc with rfl | rfl | rfl | rfl | rfl | rfl
  ·simp +contextual -dsimp only [↓SD, SU, simprocAttr, CFB]
   refine Ai.post [(2000, Bp c v i h)] ?_
   simp +contextual -dsimp only [↓SD, SU, simprocAttr, CFB]
   exact ⟨_, i, h, by rw [B7]; rfl, .int _ x (by omega) (by omega), hk, rfl⟩
  ·simp +contextual -dsimp only [↓SD, SU, simprocAttr, CFB]
   refine Ai.post [(2000, Bp c v i h)] ?_
   simp +contextual -dsimp only [↓SD, SU, simprocAttr, CFB]
   exact ⟨_, i, h, by rw [B7]; rfl, .unit _, hk, rfl⟩
  ·simp +contextual -dsimp only [↓SD, SU, simprocAttr, CFB]
   refine Ai.post [(2000, Bp c v i h)] ?_
   simp +contextual -dsimp only [↓SD, SU, simprocAttr, CFB]
   exact ⟨_, i, h, by rw [B7]; rfl, .nl _, hk, rfl⟩
  ·simp +contextual -dsimp only [↓SD, SU, simprocAttr, CFB]
   refine Ai.post [(2000, Bp c v i h)] ?_
   simp +contextual -dsimp only [↓SD, SU, simprocAttr, CFB]
   exact ⟨_, i, h, by rw [B7]; rfl, .tr _, hk, rfl⟩
  ·simp +contextual -dsimp only [↓SD, SU, simprocAttr, CFB]
   refine Ai.post [(2000, Bp c v i h)] ?_
   simp +contextual -dsimp only [↓SD, SU, simprocAttr, CFB]
   exact ⟨_, i, h, by rw [B7]; rfl, .leaf _, hk, rfl⟩
  ·simp +contextual -dsimp only [↓SD, SU, simprocAttr, CFB]
   refine Ai.post [(2000, Bp c v i h)] ?_
   simp +contextual -dsimp only [↓SD, SU, simprocAttr, CFB]
   exact ⟨_, i, h, by rw [B7]; rfl, .var _, hk, rfl⟩
 | succ f ih =>
  intro hf i h hk
  refine D6.H rfl ?_
  have hdeep : ((4 : Int) - ((f + 1 : Nat) : Int)) = 3 - f := by omega
  have hdeep2 : ((3 : Int) - f + 1) = 4 - f := by omega
  rw [hdeep]
  have hd : ¬ (3 : Int) < 3 - f := by omega
  simp +contextual -dsimp only [↓SD, SU, simprocAttr, CFB, D6, hd]
  intro v4
  refine Ac [2000] (AL c v _ _ hk 8 (by omega)) (by simp +contextual -dsimp only [↓SD, SU, simprocAttr]) ?_
  clear hk
  rintro r hp' ⟨k, i, h, rfl, hkk, hk, rfl⟩
  obtain ⟨k0, k1⟩ := hkk.in (by omega)
  by_cases k2 : k < 2
  ·simp +contextual -dsimp only [↓SD, SU, simprocAttr, CFB, hd, k2]
   refine Ac [2000] (AL c v _ _ hk 4 (by omega)) (by simp +contextual -dsimp only [↓SD, SU, simprocAttr]) ?_
   clear hk
   rintro r hp' ⟨x, i, h, rfl, hx, hk, rfl⟩
   obtain ⟨x0, x1⟩ := hx.in (by omega)
   simp +contextual -dsimp only [↓SD, SU, simprocAttr, CFB]
   refine Ac [2000] (AL c v _ _ hk 6 (by omega)) (by simp +contextual -dsimp only [↓SD, SU, simprocAttr]) ?_
   clear hk
   rintro r hp' ⟨y, i, h, rfl, hy, hk, rfl⟩
   obtain ⟨y0, y1⟩ := hy.in (by omega)
   have hc : y = 0 ∨ y = 1 ∨ y = 2 ∨ y = 3 ∨ y = 4 ∨ y = 5 := by omega
   clear hy y0 y1
   rcases hc with rfl | rfl | rfl | rfl | rfl | rfl
   ·simp +contextual -dsimp only [↓SD, SU, simprocAttr, CFB]
    refine Ai.post [(2000, Bp c v i h)] ?_
    simp +contextual -dsimp only [↓SD, SU, simprocAttr, CFB]
    exact ⟨_, i, h, by rw [B7]; rfl, .int _ x (by omega) (by omega), hk, rfl⟩
   ·simp +contextual -dsimp only [↓SD, SU, simprocAttr, CFB]
    refine Ai.post [(2000, Bp c v i h)] ?_
    simp +contextual -dsimp only [↓SD, SU, simprocAttr, CFB]
    exact ⟨_, i, h, by rw [B7]; rfl, .unit _, hk, rfl⟩
   ·simp +contextual -dsimp only [↓SD, SU, simprocAttr, CFB]
    refine Ai.post [(2000, Bp c v i h)] ?_
    simp +contextual -dsimp only [↓SD, SU, simprocAttr, CFB]
    exact ⟨_, i, h, by rw [B7]; rfl, .nl _, hk, rfl⟩
   ·simp +contextual -dsimp only [↓SD, SU, simprocAttr, CFB]
    refine Ai.post [(2000, Bp c v i h)] ?_
    simp +contextual -dsimp only [↓SD, SU, simprocAttr, CFB]
    exact ⟨_, i, h, by rw [B7]; rfl, .tr _, hk, rfl⟩
   ·simp +contextual -dsimp only [↓SD, SU, simprocAttr, CFB]
    refine Ai.post [(2000, Bp c v i h)] ?_
    simp +contextual -dsimp only [↓SD, SU, simprocAttr, CFB]
    exact ⟨_, i, h, by rw [B7]; rfl, .leaf _, hk, rfl⟩
   ·simp +contextual -dsimp only [↓SD, SU, simprocAttr, CFB]
    refine Ai.post [(2000, Bp c v i h)] ?_
    simp +contextual -dsimp only [↓SD, SU, simprocAttr, CFB]
    exact ⟨_, i, h, by rw [B7]; rfl, .var _, hk, rfl⟩
  ·simp +contextual -dsimp only [↓SD, SU, simprocAttr, CFB, hd, k2, hdeep2]
   refine ⟨by omega, ?_⟩
   refine Ac [2000] (ih (by omega) i h hk) (by simp +contextual -dsimp only [↓SD, SU, simprocAttr]) ?_
   clear hk
   rintro r hp' ⟨a, i, h, rfl, ha, hk, rfl⟩
   simp +contextual -dsimp only [↓SD, SU, simprocAttr, CFB, Cq, BF, Cr, BZ, DU, DB, EX, Fk]
   intro v6
   by_cases k4 : k < 4
   ·simp +contextual -dsimp only [↓SD, SU, simprocAttr, CFB, k4, Cq, BF, Cr, BZ, DU, DB, EX, Fk]
    refine Ai.post [(2000, Bp c v i h)] ?_
    simp +contextual -dsimp only [↓SD, SU, simprocAttr, CFB, Cq, BF, Cr, BZ, DU, DB, EX, Fk]
    exact ⟨_, i, h, by rw [B7]; rfl, .node _ a ha, hk, rfl⟩
   ·have hr : -9223372036854775808 ≤ (4 - f : Int) ∧ (4 - f : Int) ≤ 9223372036854775807 := by omega
    by_cases k6 : k < 6
    ·simp +contextual -dsimp only [↓SD, SU, simprocAttr, CFB, k4, k6, hdeep2, hr, Cq, BF, Cr, BZ, DU, DB, EX, Fk]
     repeat' (first | refine And.intro ?_ ?_ | intro v7)
     all_goals
      refine Ac [2000] (ih (by omega) i h hk) (by simp +contextual -dsimp only [↓SD, SU, simprocAttr]) ?_
      rintro r hp' ⟨b, i, h, rfl, hb, hk, rfl⟩
      simp +contextual -dsimp only [↓SD, SU, simprocAttr, CFB, k4, k6, hdeep2, hr, Cq, BF, Cr, BZ, DU, DB, EX, Fk]
      repeat' (first | refine And.intro ?_ ?_ | intro v8)
      all_goals
       refine Ai.post [(2000, Bp c v i h)] ?_
       simp +contextual -dsimp only [↓SD, SU, simprocAttr, CFB, k4, k6, hdeep2, hr, Cq, BF, Cr, BZ, DU, DB, EX, Fk]
       exact ⟨_, i, h, by rw [B7]; rfl, .pair _ a b ha hb, hk, rfl⟩
    ·simp +contextual -dsimp only [↓SD, SU, simprocAttr, CFB, k4, k6, hdeep2, hr, Cq, BF, Cr, BZ, DU, DB, EX, Fk]
     repeat' (first | refine And.intro ?_ ?_ | intro v7)
     all_goals
      refine Ac [2000] (ih (by omega) i h hk) (by simp +contextual -dsimp only [↓SD, SU, simprocAttr]) ?_
      rintro r hp' ⟨b, i, h, rfl, hb, hk, rfl⟩
      simp +contextual -dsimp only [↓SD, SU, simprocAttr, CFB, k4, k6, hdeep2, hr, Cq, BF, Cr, BZ, DU, DB, EX, Fk]
      repeat' (first | refine And.intro ?_ ?_ | intro v8)
      all_goals
       refine Ai.post [(2000, Bp c v i h)] ?_
       simp +contextual -dsimp only [↓SD, SU, simprocAttr, CFB, k4, k6, hdeep2, hr, Cq, BF, Cr, BZ, DU, DB, EX, Fk]
       exact ⟨_, i, h, by rw [B7]; show _ = AV.agg [_, _, _, .sl [paA _]]; rw [B7]; rfl, .cons _ a b ha hb, hk, rfl⟩

theorem Zk {ks : List Px} {j : Nat} (h : j < ks.length) (hp : Hp) (F : AV → Prop) : Cj hp 4 (slN (ks.map paA)) (.int .i64 j) F = F (.obj (paA ks[j]).cells) := by
 rw [Uq (by simpa using h)]
 have e1 : (ks.map paA).getD j .top = paA ks[j] := by rw [List.getD_eq_getElem?_getD, List.getElem?_map, List.getElem?_eq_getElem h]; rfl
 simp [Cj, e1, h, Cr]
def Acx (G : List AV) (x : AV) (hp : Hp) : Prop := (G = [] ∧ x = .Au ∧ hp = []) ∨ ∃ v, x = .row 13 v G.length ∧ hp = [(13, ⟨v, false, 116, 4, G⟩)]
def Aay (G : List AV) (t : Px) (r : AV) (hp' : Hp) : Prop := ∃ v, r = .row 13 v (G.length + pxN t) ∧ hp' = [(13, ⟨v, false, 116, 4, G ++ (A2 G.length t).map av⟩)]
structure AcO where
 j : Nat
 v : Nat
 u : Nat
set_option maxHeartbeats 4000000 in
theorem XW : ∀ (t : Px) (G : List AV) (x : AV) (hp : Hp), Acx G x hp → G.length + pxN t ≤ 1048576 → AH Tryz.prog 27 [x, paA t] hp (Aay G t) := by
 refine Px.ind fun n ks ih G x hp hx hb => ?_
 have ec : pxN (.mk n ks) = 1 + Bg ks := by rw [pxN]
 rw [ec] at hb
 have hkl := J6 ks
 have hml : (ks.map paA).length = ks.length := by simp
 obtain ⟨KA, hKA⟩ : ∃ KA, KA = slN (ks.map paA) := ⟨_, rfl⟩
 have hKl : ∀ F, Fu false KA F = F (.int .i64 ks.length) := fun F => by rw [hKA, L5, hml]
 have hKa : ∀ (j : Nat) (h : j < ks.length) (hp : Hp) (F : AV → Prop), Cj hp 4 KA (.int .i64 j) F = F (.obj (paA ks[j]).cells) := fun j h hp F => by rw [hKA]; exact Zk h hp F
 have hKp : ∀ hp, KA.Bs hp = KA := fun hp => by rw [hKA, DY]
 have hKo : KA.one = true := by rw [hKA, J4]
 refine FO.H rfl ?_
 rw [B7, ← hKA]
 obtain ⟨Z, hZ⟩ : ∃ Z : AV, Z = .agg [.int .i64 0, .int .i64 0, .str (bs []), .Au] := ⟨_, rfl⟩
 rcases hx with ⟨hG0, rfl, rfl⟩ | ⟨v, rfl, rfl⟩
 case' inl =>
  have hG1 : G.length = 0 := by rw [hG0]; rfl
  simp +contextual -dsimp only [↓SD, SU, simprocAttr, FO, hKp, hKl]
  refine ⟨by unfold maxLen; omega, fun v1 v6 => ?_⟩
  refine Cu (X := AcO) (fun q => ⟨[(0, .row 13 q.v (G.length + 1 + Bg (ks.take q.j))), (3, .obj [.int .i64 n.kind, .int .i64 n.n, .str n.s, KA]), (5, .int .i64 G.length), (6, .ptr 6 v6 0 0), (23, .int .i64 ks.length), (24, .int .i64 q.j)], [(13, ⟨q.v, false, 116, 4, G ++ [Z] ++ (A3 (G.length + 1) (ks.take q.j)).map av⟩), (6, ⟨v6, false, 116, 4, [.agg [.int .i64 n.kind, .int .i64 n.n, .str n.s, .row 32 q.u q.j]]⟩), (32, ⟨q.u, false, 3, 1, (Bz (G.length + 1) (ks.take q.j)).map av⟩)]⟩) (fun q => q.j ≤ ks.length) (fun q => ks.length - q.j) ?_ ?_
  ·refine Ai.EB 6 0 3 32 3 1 rfl rfl Nat.zero_lt_one rfl (by omega) fun z => ?_
   exact Ai.le ⟨⟨0, v1, z⟩, Nat.zero_le _, rfl⟩ (by simp +contextual -dsimp only [↓SD, SU, simprocAttr, List.take_zero, Bg, hG1]) (by simp +contextual -dsimp only [↓SD, SU, simprocAttr, List.take_zero, A3, Bz, List.map_nil, List.append_nil, hG0, hZ])
 case' inr =>
  have t0 : List.take G.length G = G := List.take_length
  simp +contextual -dsimp only [↓SD, SU, simprocAttr, FO, hKp, hKl, t0]
  refine ⟨⟨by omega, by unfold maxLen; omega⟩, fun v1 v6 => ?_⟩
  refine Cu (X := AcO) (fun q => ⟨[(0, .row 13 q.v (G.length + 1 + Bg (ks.take q.j))), (3, .obj [.int .i64 n.kind, .int .i64 n.n, .str n.s, KA]), (5, .int .i64 G.length), (6, .ptr 6 v6 0 0), (23, .int .i64 ks.length), (24, .int .i64 q.j)], [(13, ⟨q.v, false, 116, 4, G ++ [Z] ++ (A3 (G.length + 1) (ks.take q.j)).map av⟩), (6, ⟨v6, false, 116, 4, [.agg [.int .i64 n.kind, .int .i64 n.n, .str n.s, .row 32 q.u q.j]]⟩), (32, ⟨q.u, false, 3, 1, (Bz (G.length + 1) (ks.take q.j)).map av⟩)]⟩) (fun q => q.j ≤ ks.length) (fun q => ks.length - q.j) ?_ ?_
  ·refine Ai.EB 6 0 3 32 3 1 rfl rfl Nat.zero_lt_one rfl (by omega) fun z => ?_
   exact Ai.le ⟨⟨0, v1, z⟩, Nat.zero_le _, rfl⟩ (by simp +contextual -dsimp only [↓SD, SU, simprocAttr, List.take_zero, Bg]) (by simp +contextual -dsimp only [↓SD, SU, simprocAttr, List.take_zero, A3, Bz, List.map_nil, List.append_nil, hZ])
 all_goals
  rintro ⟨j, a, b⟩ hj
  dsimp only at hj ⊢
  by_cases hlt : j < ks.length
  ·have e1 := hKa j hlt
   have b2 := GH ks j hlt
   have ht : ks.take (j + 1) = ks.take j ++ [ks[j]] := List.take_succ_eq_append_getElem hlt
   have hpx : G.length + 1 + Bg (ks.take (j + 1)) = G.length + 1 + Bg (ks.take j) + pxN ks[j] := by rw [ht, J7]; omega
   have hfl := Gn (G.length + 1) (ks.take j)
   have hkp := EN (G.length + 1) (ks.take j)
   rw [List.length_take, Nat.min_eq_left hj] at hkp
   have hL : (G ++ [Z] ++ (A3 (G.length + 1) (ks.take j)).map av).length = G.length + 1 + Bg (ks.take j) := by simp [hfl]; omega
   have C := ih ks[j] (List.getElem_mem hlt) (G ++ [Z] ++ (A3 (G.length + 1) (ks.take j)).map av) (.row 13 a (G.length + 1 + Bg (ks.take j))) [(13, ⟨a, false, 116, 4, G ++ [Z] ++ (A3 (G.length + 1) (ks.take j)).map av⟩)] (.inr ⟨a, by rw [hL], rfl⟩) (by rw [hL]; omega)
   unfold Aay at C
   rw [hL] at C
   have hsn : (A3 (G.length + 1) (ks.take (j + 1))).map (av : A0 → AV) = (A3 (G.length + 1) (ks.take j)).map av ++ (A2 (G.length + 1 + Bg (ks.take j)) ks[j]).map av := by rw [ht, IP, List.map_append]
   have hks : (Bz (G.length + 1) (ks.take (j + 1))).map (av : Int → AV) = (Bz (G.length + 1) (ks.take j)).map av ++ [.int .i64 ((G.length : Int) + 1 + (Bg (ks.take j) : Int))] := by rw [ht, Im, List.map_append]; rfl
   have hkm : ((Bz (G.length + 1) (ks.take j)).map (av : Int → AV)).length = j := by rw [List.length_map, hkp]
   have hkt : List.take j ((Bz (G.length + 1) (ks.take j)).map (av : Int → AV)) = (Bz (G.length + 1) (ks.take j)).map av := List.take_of_length_le (by rw [hkm]; exact Nat.le_refl _)
   generalize (Bz (G.length + 1) (ks.take j)).map (av : Int → AV) = KP at *
   generalize (A3 (G.length + 1) (ks.take j)).map (av : A0 → AV) = X at *
   generalize (A2 (G.length + 1 + Bg (ks.take j)) ks[j]).map (av : A0 → AV) = Y at *
   generalize hN : Bg (ks.take j) = N at *
   simp +contextual -dsimp only [↓SD, SU, simprocAttr, hlt, e1, hkm, hkt, false_and, BZ, Cr, DB, Cq, BF]
   refine ⟨⟨by omega, by unfold maxLen; omega⟩, fun u' => ?_⟩
   refine Ac [13] C (by simp +contextual -dsimp only [↓SD, SU, simprocAttr, BF, false_and]) ?_
   rintro r hp' ⟨w, rfl, rfl⟩
   simp +contextual -dsimp only [↓SD, SU, simprocAttr, Int.natCast_add]
   refine ⟨by omega, Ai.le ⟨⟨j + 1, w, u'⟩, ⟨hlt, (by first | omega | (simp only; omega))⟩, rfl⟩ (by simp +contextual -dsimp only [↓SD, SU, simprocAttr, Int.natCast_add, hpx]) ?_⟩
   dsimp only
   rw [hsn, hks, ← List.append_assoc]
   simp +contextual -dsimp only [↓SD, SU, simprocAttr, Int.natCast_add]
  ·obtain rfl : j = ks.length := by omega
   rw [List.take_length]
   have hkp := EN (G.length + 1) ks
   have hfl := Gn (G.length + 1) ks
   have hfx : (A2 G.length (.mk n ks)).map (av : A0 → AV) = .agg [.int .i64 n.kind, .int .i64 n.n, .str n.s, .sl ((Bz (G.length + 1) ks).map av)] :: (A3 (G.length + 1) ks).map av := by rw [A2, List.map_cons, Bw]
   have hL : (G ++ [Z] ++ (A3 (G.length + 1) ks).map av).length = G.length + 1 + Bg ks := by simp [hfl]; omega
   have hG : (G ++ [Z] ++ (A3 (G.length + 1) ks).map av).getD G.length .top = .agg [.int .i64 0, .int .i64 0, .str (bs []), .Au] := by simp [List.getD_eq_getElem?_getD, hZ]
   have hS : ∀ x, (G ++ [Z] ++ (A3 (G.length + 1) ks).map av).set G.length x = G ++ x :: (A3 (G.length + 1) ks).map av := fun x => by
    simp [List.set_append]
   have hlt2 : (G.length : Int) < (G.length : Int) + 1 + (Bg ks : Int) := by omega
   have hlt3 : G.length < G.length + 1 + Bg ks := by omega
   have hkt : List.take ks.length ((Bz (G.length + 1) ks).map (av : Int → AV)) = (Bz (G.length + 1) ks).map av := List.take_of_length_le (by rw [List.length_map, hkp]; exact Nat.le_refl _)
   have hkm : ((Bz (G.length + 1) ks).map (av : Int → AV)).length = ks.length := by rw [List.length_map, hkp]
   have hkn : ∀ hp, ((Bz (G.length + 1) ks).map (av : Int → AV)).map (AV.pur hp) = (Bz (G.length + 1) ks).map av := fun hp => Ab _ hp
   generalize (A3 (G.length + 1) ks).map (av : A0 → AV) = X at *
   generalize (Bz (G.length + 1) ks).map (av : Int → AV) = KP at *
   simp +contextual -dsimp only [↓SD, SU, simprocAttr, Nat.lt_irrefl]
   refine BM (Ai.frz 32 (Ai.RH 6 rfl (Ai.here ?_)))
   simp +contextual -dsimp only [↓SD, SU, simprocAttr, hL, hG, hS, hlt2, hlt3, Nat.le_refl, hkt, hkm, hkn]
   refine Ai.post [(13, ⟨a, false, 116, 4, G ++ (A2 G.length (.mk n ks)).map av⟩)] ?_
   rw [hfx]
   simp +contextual -dsimp only [↓SD, SU, simprocAttr, false_and]
   exact ⟨a, by rw [ec, Nat.add_assoc], by rw [hfx]⟩

theorem Ac8 : ∀ {f : Nat} {t : Px}, DT f t → PxW 100 t := fun {f t} h => by
 have b : ∀ l : List Nat, l.length ≤ 100 → (bs l).size ≤ 100 := fun l hl => by rw [Hi]; exact hl
 induction h with
 | int f n h0 h1 => exact LY _ _ _ (by omega) (by omega) (b _ (by simp))
 | unit f => exact LY _ _ _ (by omega) (by omega) (b _ (by simp))
 | nl f => exact LY _ _ _ (by omega) (by omega) (b _ (by simp))
 | tr f => exact LY _ _ _ (by omega) (by omega) (b _ (by simp))
 | leaf f => exact LY _ _ _ (by omega) (by omega) (b _ (by simp))
 | var f => exact LY _ _ _ (by omega) (by omega) (b _ (by simp))
 | node f a h ih => exact AaU _ _ _ _ (by omega) (by omega) (b _ (by simp)) ih
 | pair f a c ha hc iha ihc => exact Y4 _ _ _ _ _ (by omega) (by omega) (b _ (by simp)) iha ihc
 | cons f a c ha hc iha ihc => exact AaU _ _ _ _ (by omega) (by omega) (b _ (by simp)) (Y4 _ _ _ _ _ (by omega) (by omega) (b _ (by simp)) iha ihc)
theorem AcD : ∀ {f : Nat} {t : Px}, DT f t → pxN t ≤ 3 * 2 ^ f - 2 := fun {f t} h => by
 have p : ∀ f : Nat, 1 ≤ 2 ^ f := fun f => Nat.one_le_two_pow
 induction h with
 | int f n h0 h1 => have := p f; simp [pxN, Bg]; omega
 | unit f => have := p f; simp [pxN, Bg]; omega
 | nl f => have := p f; simp [pxN, Bg]; omega
 | tr f => have := p f; simp [pxN, Bg]; omega
 | leaf f => have := p f; simp [pxN, Bg]; omega
 | var f => have := p f; simp [pxN, Bg]; omega
 | node f a h ih => have := p f; simp [pxN, Bg, Nat.pow_succ]; omega
 | pair f a c ha hc iha ihc => have := p f; simp [pxN, Bg, Nat.pow_succ]; omega
 | cons f a c ha hc iha ihc => have := p f; simp [pxN, Bg, Nat.pow_succ]; omega
def Ada (c : List UInt8) (v : Nat) (t : Px) (m : Int) (r : AV) (hp' : Hp) : Prop := ∃ (e : Px) (m' : Int) (i : Nat) (h : Int), r = .tup [psA e, .int .i64 m'] ∧ PxW 100 e ∧ pxN e ≤ 3 * pxN t ∧ (m ≤ m' ∧ m' ≤ m + pxN t) ∧ Dh c i h ∧ hp' = [(2000, Bp c v i h)]
def Uu (j u : Nat) : AV := if j = 0 then .Au else .row 88 u j
def Ut (j u : Nat) (es : List Px) : Hp := if j = 0 then [] else [(88, ⟨u, false, 62, 5, es.map psA⟩)]
structure PdS where
 j : Nat
 m : Int
 es : List Px
 u : Nat
 i : Nat
 h : Int
set_option maxHeartbeats 4000000 in
theorem N6 (c : List UInt8) (v : Nat) : ∀ (t : Px), PxW 100 t → ∀ (m : Int) (i : Nat) (h : Int) (hk : Dh c i h), 0 ≤ m → m + pxN t ≤ 1000000 → AH Tryz.prog 23 [.ptr 2000 v 0 0, paA t, .int .i64 m] [(2000, Bp c v i h)] (Ada c v t m) := by
 refine Px.ind fun n ks ih hw m i h hk hm hmb => ?_
 have ec : pxN (.mk n ks) = 1 + Bg ks := by rw [pxN]
 obtain ⟨_, _, w1, w2, w3, w4, w5⟩ := hw
 have hml : (ks.map paA).length = ks.length := by simp
 obtain ⟨KA, hKA⟩ : ∃ KA, KA = slN (ks.map paA) := ⟨_, rfl⟩
 have hKl : ∀ F, Fu false KA F = F (.int .i64 ks.length) := fun F => by rw [hKA, L5, hml]
 have hKa : ∀ (j : Nat) (h : j < ks.length) (hp : Hp) (F : AV → Prop), Cj hp 4 KA (.int .i64 j) F = F (.obj (paA ks[j]).cells) := fun j h hp F => by rw [hKA]; exact Zk h hp F
 have hKp : ∀ hp, KA.Bs hp = KA := fun hp => by rw [hKA, DY]
 have hKo : KA.one = true := by rw [hKA, J4]
 have CN := FI m (by omega)
 refine FN.H rfl ?_
 rw [B7, ← hKA]
 simp +contextual -dsimp only [↓SD, SU, simprocAttr, CFB, FN, hKp, hKl]
 intro v6
 refine Ac [2000] (AL c v _ _ hk 6 (by omega)) (by simp +contextual -dsimp only [↓SD, SU, simprocAttr]) ?_
 clear hk
 rintro r hp' ⟨k, i, h, rfl, hkk, hk, rfl⟩
 obtain ⟨k0, k1⟩ := hkk.in (by omega)
 have hfin0 : ∀ y : Int, -9000000000000000000 ≤ y ∧ y ≤ 9000000000000000000 → ∀ (es : List Px) , es.length ≤ 2 → (∀ e ∈ es, PxW 100 e) → PxW 100 (.mk ⟨n.kind, y, n.s⟩ es) := fun y hy es hl he => .mk _ _ w1 hy w3 hl he
 by_cases hk0 : k = 0
 ·have e0 := eq_true hk0
  simp +contextual -dsimp only [↓SD, SU, simprocAttr, CFB, e0]
  refine Ai.post [(2000, Bp c v i h)] ?_
  simp +contextual -dsimp only [↓SD, SU, simprocAttr, CFB]
  exact ⟨.mk ⟨1, 0, bs []⟩ [], m, i, h, by rw [Ds]; rfl, LY _ _ _ (by omega) (by omega) (by rw [Hi]; simp), by rw [ec]; simp [pxN, Bg]; omega, by omega, hk, rfl⟩
 have e0 := eq_false hk0
 by_cases hk9 : n.kind = 2
 ·have e9 := eq_true hk9
  simp +contextual -dsimp only [↓SD, SU, simprocAttr, CFB, e0, e9]
  refine Ai.post [(2000, Bp c v i h)] ?_
  simp +contextual -dsimp only [↓SD, SU, simprocAttr, CFB]
  exact ⟨.mk ⟨1, 0, bs []⟩ [], m, i, h, by rw [Ds]; rfl, LY _ _ _ (by omega) (by omega) (by rw [Hi]; simp), by rw [ec]; simp [pxN, Bg]; omega, by omega, hk, rfl⟩
 have e9 := eq_false hk9
 by_cases hk1 : k = 1
 ·have e1 := eq_true hk1
  simp +contextual -dsimp only [↓SD, SU, simprocAttr, CFB, e0, e9, e1]
  refine Ag _ CN ?_
  simp +contextual -dsimp only [↓SD, SU, simprocAttr, CFB]
  have hns := Abb m
  refine ⟨by unfold maxLen; rw [Hi]; simp only [List.length_cons, List.length_nil]; omega, by omega, ?_⟩
  refine Ai.post [(2000, Bp c v i h)] ?_
  simp +contextual -dsimp only [↓SD, SU, simprocAttr, CFB]
  exact ⟨.mk ⟨2, 0, bs [120] ++ Jc m⟩ [], m + 1, i, h, by rw [Ds]; rfl, LY _ _ _ (by omega) (by omega) (by rw [ByteArray.size_append, Hi]; simp; omega), by rw [ec]; simp [pxN, Bg]; omega, by rw [ec]; omega, hk, rfl⟩
 have e1 := eq_false hk1
 have hc2 : (k = 2 ∧ n.kind = 3) ∨ (k = 2 ∧ ¬ n.kind = 3) ∨ ¬ k = 2 := by omega
 rcases hc2 with ⟨hk2, hk3⟩ | ⟨hk2, hk3⟩ | hk2
 case' inl =>
  have e2 := eq_true hk2
  have e3 := eq_true hk3
  simp +contextual -dsimp only [↓SD, SU, simprocAttr, CFB, e0, e9, e1, e2, e3, hKl]
  intro v9
  refine Ac [2000] (AL c v _ _ hk 4 (by omega)) (by simp +contextual -dsimp only [↓SD, SU, simprocAttr]) ?_
  clear hk
  rintro r hp' ⟨y, i, h, rfl, hy, hk, rfl⟩
  have hyr : -9000000000000000000 ≤ y ∧ y ≤ 9000000000000000000 := by have := hy.in (by omega); omega
  clear hy
  have hy : y = y := rfl
  simp +contextual -dsimp only [↓SD, SU, simprocAttr, CFB, hKl]
 case' inr.inl =>
  have e2 := eq_true hk2
  have e3 := eq_false hk3
  obtain ⟨y, hy⟩ : ∃ y, y = n.n := ⟨_, rfl⟩
  have hyr : -9000000000000000000 ≤ y ∧ y ≤ 9000000000000000000 := by omega
  simp +contextual -dsimp only [↓SD, SU, simprocAttr, CFB, e0, e9, e1, e2, e3, hKl]
  intro v9
 case' inr.inr =>
  have e2 := eq_false hk2
  obtain ⟨y, hy⟩ : ∃ y, y = n.n := ⟨_, rfl⟩
  have hyr : -9000000000000000000 ≤ y ∧ y ≤ 9000000000000000000 := by omega
  simp +contextual -dsimp only [↓SD, SU, simprocAttr, CFB, e0, e9, e1, e2, hKl]
  intro v9
 all_goals
  refine AG (X := PdS) (fun q => ⟨[(0, .ptr 2000 v 0 0), (2, .int .i64 q.m), (4, .obj [.int .i64 n.kind, .int .i64 n.n, .str n.s, KA]), (6, .ptr 6 v6 0 0), (9, .ptr 9 v9 0 0), (55, KA), (56, .int .i64 ks.length), (57, .int .i64 q.j)], (2000, Bp c v q.i q.h) :: (6, ⟨v6, false, 62, 5, [.agg [.int .i64 0, .int .i64 0, .str (bs []), .Au, .Au]]⟩) :: (9, ⟨v9, false, 62, 5, [.agg [.int .i64 n.kind, .int .i64 y, .str n.s, .Au, Uu q.j q.u]]⟩) :: Ut q.j q.u q.es⟩) (fun q => (q.j ≤ ks.length ∧ q.es.length = q.j) ∧ (Bg q.es ≤ 3 * Bg (ks.take q.j) ∧ m ≤ q.m ∧ q.m ≤ m + Bg (ks.take q.j)) ∧ (∀ e ∈ q.es, PxW 100 e) ∧ Dh c q.i q.h) (fun q => ks.length - q.j) ⟨0, m, [], 0, i, h⟩ ⟨⟨Nat.zero_le _, rfl⟩, ⟨Nat.zero_le _, Int.le_refl _, by simp [Bg]⟩, fun e he => (by cases he), hk⟩ (by simp +contextual -dsimp only [↓SD, SU, simprocAttr]) (by simp +contextual -dsimp only [↓SD, SU, simprocAttr, Uu, Ut, hy]) ?_
  clear hk hy
  rintro ⟨j, m1, es, u, i, h⟩ ⟨⟨hj, hes⟩, ⟨hpe, hm1, hm2⟩, hwe, hk⟩
  dsimp only at hj hes hpe hm1 hm2 hwe hk ⊢
  by_cases hlt : j < ks.length
  ·have e4 := hKa j hlt
   have b2 := GH ks j hlt
   have ht : ks.take (j + 1) = ks.take j ++ [ks[j]] := List.take_succ_eq_append_getElem hlt
   have hpx : Bg (ks.take (j + 1)) = Bg (ks.take j) + pxN ks[j] := by rw [ht, J7]
   have hpk := Qg ks[j]
   have CI := ih ks[j] (List.getElem_mem hlt) (w5 _ (List.getElem_mem hlt)) m1 i h hk (by omega) (by omega)
   generalize ks[j] = kj at *
   have hrow : (j = 0 ∧ es = [] ∧ Uu j u = .Au ∧ Ut j u es = []) ∨ (¬ j = 0 ∧ Uu j u = .row 88 u j ∧ Ut j u es = [(88, ⟨u, false, 62, 5, es.map psA⟩)]) := by
    by_cases h0 : j = 0
    ·subst h0; exact .inl ⟨rfl, List.eq_nil_of_length_eq_zero hes, rfl, rfl⟩
    ·exact .inr ⟨h0, if_neg h0, if_neg h0⟩
   have rC1 : ∀ u, Uu (j + 1) u = .row 88 u (j + 1) := fun u => if_neg (by omega)
   have rD1 : ∀ u es, Ut (j + 1) u es = [(88, ⟨u, false, 62, 5, es.map psA⟩)] := fun u es => if_neg (by omega)
   have ht88 : List.take j (es.map psA) = es.map psA := List.take_of_length_le (by rw [List.length_map, hes]; exact Nat.le_refl _)
   have hl88 : (es.map psA).length = j := by rw [List.length_map, hes]
   rcases hrow with ⟨h0, hes0, hrp, hrq⟩ | ⟨h0, hrp, hrq⟩
   all_goals
    rw [hrp, hrq]
    simp +contextual -dsimp only [↓SD, SU, simprocAttr, CFB, hlt, e4, hKp, Cq, BF, Cr, BZ, DB]
    intro v11
    refine Ac [2000] CI (by simp +contextual -dsimp only [↓SD, SU, simprocAttr, BF]) ?_
    rintro r hp' ⟨⟨ne, ke⟩, m2, i, h, rfl, hwe2, hpe2, ⟨hm3, hm4⟩, hk, rfl⟩
    have hm5 : m ≤ m2 ∧ m2 ≤ m + Bg (ks.take (j + 1)) := by rw [hpx]; omega
    rw [Ds]
    have hKE : ∀ hp, (slN (ke.map psA)).Bs hp = slN (ke.map psA) := fun hp => DY _ _
    have hKF : (slN (ke.map psA)).one = true := J4 _
    have heq := Ds ne ke
    generalize slN (ke.map psA) = KE at *
    have hc : (n.s = bs [58, 58] ∧ ¬ ne.kind = 5) ∨ ¬ n.s = bs [58, 58] ∨ ne.kind = 5 := by
     by_cases h1 : n.s = bs [58, 58] <;> by_cases h2 : ne.kind = 5 <;> simp [h1, h2]
    have hw2 : PxW 100 (.mk ⟨5, 0, bs []⟩ [.mk ⟨1, 0, bs []⟩ [], .mk ⟨1, 0, bs []⟩ []]) := by
     have hz : (bs []).size ≤ 100 := by rw [Hi]; simp
     exact Y4 _ _ _ _ _ (by omega) (by omega) hz (LY _ _ _ (by omega) (by omega) hz) (LY _ _ _ (by omega) (by omega) hz)
    have hp3 : pxN (.mk ⟨5, 0, bs []⟩ [.mk ⟨1, 0, bs []⟩ [], .mk ⟨1, 0, bs []⟩ []]) = 3 := by simp [pxN, Bg]
    have hq3 : psA (.mk ⟨5, 0, bs []⟩ [.mk ⟨1, 0, bs []⟩ [], .mk ⟨1, 0, bs []⟩ []]) = .agg [.int .i64 5, .int .i64 0, .str (bs []), .Au, .sl [.agg [.int .i64 1, .int .i64 0, .str (bs []), .Au, .Au], .agg [.int .i64 1, .int .i64 0, .str (bs []), .Au, .Au]]] := by simp [Ds, slN]
    generalize (Px.mk ⟨5, 0, bs []⟩ [.mk ⟨1, 0, bs []⟩ [], .mk ⟨1, 0, bs []⟩ []]) = W at *
    have hfin : ∀ (e' : Px), PxW 100 e' → pxN e' ≤ 3 * pxN kj → ((j + 1 ≤ ks.length ∧ (es ++ [e']).length = j + 1) ∧ (Bg (es ++ [e']) ≤ 3 * Bg (ks.take (j + 1)) ∧ m ≤ m2 ∧ m2 ≤ m + Bg (ks.take (j + 1))) ∧ (∀ e ∈ es ++ [e'], PxW 100 e) ∧ Dh c i h) := fun e' h1 h2 => ⟨⟨hlt, by rw [List.length_append, hes]; rfl⟩, ⟨by rw [J7, hpx]; omega, hm5⟩, fun x hx => (List.mem_append.1 hx).elim (hwe x) fun hx => by rw [List.mem_singleton.1 hx]; exact h1, hk⟩
    rcases hc with ⟨c1, c2⟩ | c1 | c1
    ·have f1 := eq_true c1
     have f2 := eq_false c2
     simp +contextual -dsimp only [↓SD, SU, simprocAttr, CFB, f1, f2, hKp, hKE, hKF, CX, Gc, CZ, Cz, EY, Cq, BF, Cr, BZ, DB, ht88, hl88]
     intro v12
     refine ⟨by first | (unfold maxLen; omega) | exact ⟨by omega, by unfold maxLen; omega⟩, fun w => ⟨by omega, Ai.le ⟨⟨j + 1, m2, es ++ [W], w, i, h⟩, ⟨hfin _ hw2 (by omega), (by first | omega | (simp only; omega))⟩, rfl⟩ (by simp +contextual -dsimp only [↓SD, SU, simprocAttr, Int.natCast_add]) ?_⟩⟩
     dsimp only
     rw [rC1, rD1, List.map_append, List.map_cons, List.map_nil, hq3]
     first | (simp +contextual -dsimp only [↓SD, SU, simprocAttr, List.nil_append]; done) | (simp only [h0, hes0, List.map_nil, List.nil_append, Nat.zero_add]; simp +contextual -dsimp only [↓SD, SU, simprocAttr])
    ·have f1 := eq_false c1
     simp +contextual -dsimp only [↓SD, SU, simprocAttr, CFB, f1, hKp, hKE, hKF, CX, Gc, CZ, Cz, EY, Cq, BF, Cr, BZ, DB, ht88, hl88]
     intro v12
     refine ⟨by first | (unfold maxLen; omega) | exact ⟨by omega, by unfold maxLen; omega⟩, fun w => ⟨by omega, Ai.le ⟨⟨j + 1, m2, es ++ [(.mk ne ke)], w, i, h⟩, ⟨hfin _ hwe2 hpe2, (by first | omega | (simp only; omega))⟩, rfl⟩ (by simp +contextual -dsimp only [↓SD, SU, simprocAttr, Int.natCast_add]) ?_⟩⟩
     dsimp only
     rw [rC1, rD1, List.map_append, List.map_cons, List.map_nil, heq]
     first | (simp +contextual -dsimp only [↓SD, SU, simprocAttr, List.nil_append]; done) | (simp only [h0, hes0, List.map_nil, List.nil_append, Nat.zero_add]; simp +contextual -dsimp only [↓SD, SU, simprocAttr])
    ·by_cases d1 : n.s = bs [58, 58]
     ·have f1 := eq_true d1
      have f2 := eq_true c1
      simp +contextual -dsimp only [↓SD, SU, simprocAttr, CFB, f1, f2, hKp, hKE, hKF, CX, Gc, CZ, Cz, EY, Cq, BF, Cr, BZ, DB, ht88, hl88]
      intro v12
      refine ⟨by first | (unfold maxLen; omega) | exact ⟨by omega, by unfold maxLen; omega⟩, fun w => ⟨by omega, Ai.le ⟨⟨j + 1, m2, es ++ [(.mk ne ke)], w, i, h⟩, ⟨hfin _ hwe2 hpe2, (by first | omega | (simp only; omega))⟩, rfl⟩ (by simp +contextual -dsimp only [↓SD, SU, simprocAttr, Int.natCast_add]) ?_⟩⟩
      dsimp only
      rw [rC1, rD1, List.map_append, List.map_cons, List.map_nil, heq]
      first | (simp +contextual -dsimp only [↓SD, SU, simprocAttr, List.nil_append]; done) | (simp only [h0, hes0, List.map_nil, List.nil_append, Nat.zero_add]; simp +contextual -dsimp only [↓SD, SU, simprocAttr])
     ·have f1 := eq_false d1
      simp +contextual -dsimp only [↓SD, SU, simprocAttr, CFB, f1, hKp, hKE, hKF, CX, Gc, CZ, Cz, EY, Cq, BF, Cr, BZ, DB, ht88, hl88]
      intro v12
      refine ⟨by first | (unfold maxLen; omega) | exact ⟨by omega, by unfold maxLen; omega⟩, fun w => ⟨by omega, Ai.le ⟨⟨j + 1, m2, es ++ [(.mk ne ke)], w, i, h⟩, ⟨hfin _ hwe2 hpe2, (by first | omega | (simp only; omega))⟩, rfl⟩ (by simp +contextual -dsimp only [↓SD, SU, simprocAttr, Int.natCast_add]) ?_⟩⟩
      dsimp only
      rw [rC1, rD1, List.map_append, List.map_cons, List.map_nil, heq]
      first | (simp +contextual -dsimp only [↓SD, SU, simprocAttr, List.nil_append]; done) | (simp only [h0, hes0, List.map_nil, List.nil_append, Nat.zero_add]; simp +contextual -dsimp only [↓SD, SU, simprocAttr])
  ·obtain rfl : j = ks.length := by omega
   rw [List.take_length] at hpe hm2
   simp +contextual -dsimp only [↓SD, SU, simprocAttr, CFB, Nat.lt_irrefl]
   by_cases h0 : ks.length = 0
   ·obtain rfl : es = [] := List.eq_nil_of_length_eq_zero (by omega)
    rw [h0]
    refine Ai.post [(2000, Bp c v i h)] ?_
    simp +contextual -dsimp only [↓SD, SU, simprocAttr, CFB, Uu, Ut, h0]
    exact ⟨.mk ⟨n.kind, y, n.s⟩ [], m1, i, h, by rw [Ds]; rfl, hfin0 y hyr [] (by simp) (fun e he => by cases he), by rw [ec, pxN]; omega, by rw [ec]; omega, hk, rfl⟩
   ·have rC1 : ∀ u, Uu ks.length u = .row 88 u ks.length := fun u => if_neg h0
    have rD1 : ∀ u es, Ut ks.length u es = [(88, ⟨u, false, 62, 5, es.map psA⟩)] := fun u es => if_neg h0
    have ht88 : List.take ks.length (es.map psA) = es.map psA := List.take_of_length_le (by rw [List.length_map, hes]; exact Nat.le_refl _)
    have hl88 : (es.map psA).length = ks.length := by rw [List.length_map, hes]
    have hpp : ∀ hp, (es.map psA).map (AV.pur hp) = es.map psA := fun hp => by rw [List.map_map]; exact List.map_congr_left fun e _ => CX e hp
    have hsl : slN (es.map psA) = .sl (es.map psA) := by
     cases es with
     | nil => exact absurd hes (fun e => h0 e.symm)
     | cons a r => rfl
    rw [rC1, rD1]
    refine Ai.frz 88 (Ai.post [(2000, Bp c v i h)] ?_)
    simp +contextual -dsimp only [↓SD, SU, simprocAttr, CFB, ht88, hl88, hpp, Nat.le_refl]
    exact ⟨.mk ⟨n.kind, y, n.s⟩ es, m1, i, h, by rw [Ds, hsl], hfin0 y hyr es (by omega) hwe, by rw [ec, pxN]; omega, by rw [ec]; omega, hk, rfl⟩
theorem PAB : type_of% (And.intro @Cq (And.intro @BF (And.intro @Cr (And.intro @BZ (And.intro @DU @DB))))) := (And.intro @Cq (And.intro @BF (And.intro @Cr (And.intro @BZ (And.intro @DU @DB)))))
end Go.Proofs.YteeiaaogmjbcjaaGreat
