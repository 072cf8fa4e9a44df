/-
 THE TESTS OF A PATTERN, by the reference's abstract text. Conditions: none.
-/
import Derived.Test.YteeiaaogmjbcjaaGreatUPlanE
import Derived.Test.YteeiaaogmjbcjaaGreatUJ17
import Derived.Test.YteeiaaogmjbcjaaGreatUJ18
import Derived.Test.YteeiaaogmjbcjaaGreatUJ20
set_option linter.unusedVariables false
set_option linter.unusedSimpArgs false
set_option maxRecDepth 100000
namespace Go.Proofs.YteeiaaogmjbcjaaGreat
open Go.RowKit Go.Proofs.YteeiaaogmjbcjaaGreat.Av Go.Proofs.YteeiaaogmjbcjaaGreat.Ml
open Go.Proofs.YteeiaaogmjbcjaaGreat.Av.AVal (av)

theorem av3 {a b c : AV} (ha : Ap a) (hb : Ap b) (hc : Ap c) : ∀ x ∈ [a, b, c], Ap x := fun x hx => by
 rcases List.mem_cons.1 hx with rfl | hx
 ·exact ha
 ·exact av2 hb hc x hx
structure SeS where
 j : Nat
 u : Nat
theorem Aa7 {Q : List A0} {n : A0} (h : CM Q n = true) (h4 : n.kind = 4) : decide ((n.kids.length : Int) = 1) = decide (0 < n.kids.length) := by
 unfold CM at h
 rw [if_neg (by omega), if_neg (by omega), if_neg (by omega), if_pos h4] at h
 simp only [Bool.and_eq_true] at h
 have h2 := h.2
 unfold El at h2
 have h3 : n.kids.length ≤ 1 := by
  split at h2
  ·have := of_decide_eq_true h2; omega
  ·split at h2
   ·simp only [Bool.and_eq_true, decide_eq_true_eq] at h2; omega
   ·simp only [Bool.and_eq_true, decide_eq_true_eq] at h2; omega
 rw [decide_eq_decide]
 omega
set_option maxHeartbeats 4000000 in
theorem Sn (Q : List A0) (hQ : AE.bulk Q ≤ 1048576) (hq : Dy Q = true) : ∀ (f i : Nat) (p : List Int), i < Q.length → Q.length - i ≤ f → p.length + pxN (B6 Q i) ≤ 1000000 →
  AJ Tryz.prog 43 [.agg [.sl (Q.map av)], .int .i64 i, .sl (p.map av)] (.sl (((Bu (B6 Q i) p).map TsS.mk).map av)) := by
 obtain ⟨pl, pt, pn⟩ := I2 hq
 have hpk : ∀ i, i < Q.length → ∀ k ∈ BK Q i, (i : Int) < k ∧ k < Q.length := fun i hi k hk => IZ pt hi hk
 intro f
 induction f with
 | zero => intro i p hi hf; omega
 | succ f ih =>
  intro i p hi hf hb
  refine DL.F rfl (av3 (Ap.agg (by simp; exact AD Q)) (E0 _) (AD p)) (AD _) ?_
  have e1 := getD_map av Q i .top hi
  have hn : CM Q Q[i] = true := by
   have := pn i hi
   unfold Fi at this
   rw [B5 hi] at this
   simp only [Bool.and_eq_true] at this
   exact this.1
  have tq := Zd pt hi
  rw [show phd Q i = ⟨Q[i].kind, Q[i].n, Q[i].s⟩ by rw [phd, B5 hi], show BK Q i = Q[i].kids by rw [BK, B5 hi]] at tq
  have hks := hpk i hi
  rw [BK, B5 hi] at hks
  have sn := (Eg hQ i hi).1
  rw [tq] at hb ⊢
  generalize Q[i] = n at *
  by_cases hw : n.kind = 1 ∨ n.kind = 2
  ·have ht : Bu (.mk ⟨n.kind, n.n, n.s⟩ (n.kids.map fun k => B6 Q k.toNat)) p = [] := by rw [Bu, if_pos hw]
   rw [ht]
   rcases hw with hw | hw
   ·simp +contextual -dsimp only [↓SD, SU, simprocAttr, -Nat.reduceMul, DL, Aa, hi, e1, Bw, hw, List.map_nil, List.take_zero]
   ·simp +contextual -dsimp only [↓SD, SU, simprocAttr, -Nat.reduceMul, DL, Aa, hi, e1, Bw, hw, List.map_nil, List.take_zero]
  rw [Bu, if_neg hw]
  dsimp only
  rw [pxN] at hb
  have hw1 : ¬ n.kind = 1 := fun h => hw (.inl h)
  have hw2 : ¬ n.kind = 2 := fun h => hw (.inr h)
  obtain ⟨K, hK⟩ : ∃ K, K = n.kids.map fun k => B6 Q k.toNat := ⟨_, rfl⟩
  rw [← hK] at hb ⊢
  have hKl : K.length = n.kids.length := by rw [hK, List.length_map]
  obtain ⟨hs, hhs⟩ : ∃ hs, hs = (decide (n.kind = 4) && decide (0 < K.length)) := ⟨_, rfl⟩
  rw [← hhs]
  obtain ⟨t0, ht0⟩ : ∃ t0 : Tst, t0 = ⟨p, n.kind, n.n, n.s, hs⟩ := ⟨_, rfl⟩
  have hav : av (⟨t0⟩ : TsS) = .agg [.sl (p.map av), .int .i64 n.kind, .int .i64 n.n, .str n.s, .bool hs] := by rw [ht0, Fg]
  rw [← ht0]
  have hlen := fun j => HX (ks := K.take j) (fun k _ p => FG k p) p 0
  have hpt : List.take p.length (p.map (av : Int → AV)) = p.map av := List.take_of_length_le (by simp)
  have hpm : ∀ hp, (p.map (av : Int → AV)).map (AV.pur hp) = p.map av := fun hp => Ab _ hp
  have hpc : ∀ x ∈ p.map (av : Int → AV), x.cells.length = 1 := fun x hx => by obtain ⟨y, _, rfl⟩ := List.mem_map.1 hx; rfl
  have hcase : (n.kind = 4 ∧ decide ((n.kids.length : Int) = 1) = hs) ∨ (¬ n.kind = 4 ∧ hs = false) := by
   by_cases h4 : n.kind = 4
   ·exact .inl ⟨h4, by rw [Aa7 hn h4, hhs, hKl]; simp [h4]⟩
   ·exact .inr ⟨h4, by rw [hhs]; simp [h4]⟩
  rcases hcase with ⟨h4, h1⟩ | ⟨h4, h1⟩
  all_goals
   simp +contextual -dsimp only [↓SD, SU, simprocAttr, -Nat.reduceMul, DL, Aa, hi, e1, Bw, hw1, hw2]
   intro u7 u16
   refine BM (Ai.frz 7 (Ai.pur 7 (Ai.here ?_)))
   simp +contextual -dsimp only [↓SD, SU, simprocAttr, -Nat.reduceMul, Aa, Ab, h4, hpt, hpm, h1]
   intro v
   refine ⟨⟨hpc, by omega, by unfold maxLen; omega⟩, fun v1 => ⟨⟨by omega, by unfold maxLen; omega⟩, fun v2 => ?_⟩⟩
   refine AG (X := SeS) (fun q => ⟨[(2, .sl (p.map av)), (3, .obj [.sl (Q.map av)]), (8, .row 16 q.u (1 + (AR (K.take q.j) p 0).length)), (49, .sl (n.kids.map av)), (50, .int .i64 n.kids.length), (51, .int .i64 q.j)], [(16, ⟨q.u, false, 137, 5, av (⟨t0⟩ : TsS) :: ((AR (K.take q.j) p 0).map TsS.mk).map av⟩)]⟩) (fun q => q.j ≤ n.kids.length) (fun q => n.kids.length - q.j) ⟨0, v2⟩ (Nat.zero_le _) (by simp +contextual -dsimp only [↓SD, SU, simprocAttr, -Nat.reduceMul, List.take_zero, AR]) (by simp +contextual -dsimp only [↓SD, SU, simprocAttr, -Nat.reduceMul, List.take_zero, AR, hav, h1, h4, List.map_nil]) ?_
   clear h1 h4
   rintro ⟨j, u⟩ hj
   dsimp only at hj ⊢
   by_cases hlt : j < n.kids.length
   ·have e2 := getD_map av n.kids j .top hlt
    have hkj := hks _ (List.getElem_mem hlt)
    obtain ⟨m, hm⟩ : ∃ m : Nat, n.kids[j] = m := ⟨n.kids[j].toNat, by omega⟩
    have hKj : K[j]'(by omega) = B6 Q m := by simp [hK, hm]
    have b2 := GH K j (by omega)
    rw [hKj] at b2
    have hst : AR (K.take (j + 1)) p 0 = AR (K.take j) p 0 ++ Bu (B6 Q m) (p ++ [(j : Int)]) := by
     have hjl : (K.take j).length = j := by simp; omega
     rw [List.take_succ_eq_append_getElem (by omega), G8, hjl, Nat.zero_add, hKj]
    have l1 := hlen j
    have l2 := FG (B6 Q m) (p ++ [(j : Int)])
    rw [hm] at e2 hkj
    rw [Ae] at e2
    have hpl : (p ++ [(j : Int)]).length = p.length + 1 := by simp
    have CT := ih m (p ++ [(j : Int)]) (by omega) (by omega) (by omega)
    generalize Bu (B6 Q m) (p ++ [(j : Int)]) = Y at *
    generalize AR (K.take j) p 0 = X at *
    have hXl : (av (⟨t0⟩ : TsS) :: (X.map TsS.mk).map (av : TsS → AV)).length = 1 + X.length := by simp; omega
    have hXt : List.take (1 + X.length) (av (⟨t0⟩ : TsS) :: (X.map TsS.mk).map av) = av (⟨t0⟩ : TsS) :: (X.map TsS.mk).map av := List.take_of_length_le (by omega)
    have hXc : ∀ Z : List AV, (av (⟨t0⟩ : TsS) :: (X.map TsS.mk).map (av : TsS → AV)) ++ Z = av (⟨t0⟩ : TsS) :: ((X.map TsS.mk).map av ++ Z) := fun _ => rfl
    have hYm : ∀ hp, ((Y.map TsS.mk).map (av : TsS → AV)).map (AV.pur hp) = (Y.map TsS.mk).map av := fun hp => Ab _ hp
    have hYl : ((Y.map TsS.mk).map (av : TsS → AV)).length = Y.length := by simp
    have hYc : ∀ x ∈ (Y.map TsS.mk).map (av : TsS → AV), x.cells.length = 5 := fun y hy => by obtain ⟨x, _, rfl⟩ := List.mem_map.1 hy; exact AVal.len x
    have hpk2 : (p ++ [(j : Int)]).map (av : Int → AV) = p.map av ++ [AV.int .i64 j] := by rw [List.map_append]; rfl
    rw [hpk2] at CT
    have hp1 : ∀ hp, (p.map (av : Int → AV) ++ [AV.int .i64 j]).map (AV.pur hp) = p.map av ++ [AV.int .i64 j] := fun hp => by rw [List.map_append, hpm]; rfl
    have hp2 : (p.map (av : Int → AV) ++ [AV.int .i64 j]).length = p.length + 1 := by simp
    have hp3 : List.take (p.length + 1) (p.map (av : Int → AV) ++ [AV.int .i64 j]) = p.map av ++ [AV.int .i64 j] := List.take_of_length_le (by omega)
    obtain ⟨W, hW⟩ : ∃ W, W = av (⟨t0⟩ : TsS) :: (X.map TsS.mk).map (av : TsS → AV) := ⟨_, rfl⟩
    rw [← hW] at hXl hXt hXc ⊢
    simp +contextual -dsimp only [↓SD, SU, simprocAttr, -Nat.reduceMul, hlt, e2, Aa, hpt, hpm, hp1, hp2, hp3]
    intro v3
    refine ⟨⟨hpc, by omega, by unfold maxLen; omega⟩, fun v4 => ⟨⟨by omega, by unfold maxLen; omega⟩, fun v5 => ?_⟩⟩
    refine Ag _ CT ?_
    simp +contextual -dsimp only [↓SD, SU, simprocAttr, -Nat.reduceMul, hXl, hXt, hYm, hYl]
    refine ⟨⟨hYc, by omega, by unfold maxLen; omega⟩, fun w => ⟨by omega, Ai.le ⟨⟨j + 1, w⟩, ⟨hlt, (by first | omega | (simp only; omega))⟩, rfl⟩ (by simp +contextual -dsimp only [↓SD, SU, simprocAttr, -Nat.reduceMul, Int.natCast_add, hst, List.length_append, List.length_map, Nat.add_assoc]) (by simp +contextual -dsimp only [↓SD, SU, simprocAttr, -Nat.reduceMul, hst, List.map_append, hXc])⟩⟩
   ·obtain rfl : j = n.kids.length := by omega
    rw [List.take_of_length_le (by omega)]
    have hfin : ((t0 :: AR K p 0).map TsS.mk).map (av : TsS → AV) = av (⟨t0⟩ : TsS) :: ((AR K p 0).map TsS.mk).map av := rfl
    rw [← hfin]
    have hZl : (((t0 :: AR K p 0).map TsS.mk).map (av : TsS → AV)).length = 1 + (AR K p 0).length := by simp; omega
    generalize t0 :: AR K p 0 = Z at *
    have hZm : ∀ hp, ((Z.map TsS.mk).map (av : TsS → AV)).map (AV.pur hp) = (Z.map TsS.mk).map av := fun hp => Ab _ hp
    have hZt : List.take (1 + (AR K p 0).length) ((Z.map TsS.mk).map (av : TsS → AV)) = (Z.map TsS.mk).map av := List.take_of_length_le (by omega)
    simp +contextual -dsimp only [↓SD, SU, simprocAttr, -Nat.reduceMul, Nat.lt_irrefl, hZm, hZl, hZt, Nat.le_refl]
end Go.Proofs.YteeiaaogmjbcjaaGreat
set_option linter.unusedVariables false
set_option linter.unusedSimpArgs false
set_option maxRecDepth 100000
namespace Go.Proofs.YteeiaaogmjbcjaaGreat
open Go.RowKit Go.Proofs.YteeiaaogmjbcjaaGreat.Av Go.Proofs.YteeiaaogmjbcjaaGreat.Ml
open Go.Proofs.YteeiaaogmjbcjaaGreat.Av.AVal (av)

def ZW (G : List AV) (x : AV) (hp : Hp) : Prop := (G = [] ∧ x = .Au ∧ hp = []) ∨ ∃ v, x = .row 90 v G.length ∧ hp = [(90, ⟨v, false, 98, 8, G⟩)]
theorem Ww (G : List AV) (arm : Int) (v : Nat) (s : St) (h4 : Ba s.fr 4 = .row 90 v (G.length + 1)) (hh : Aw s.hp 90 = some ⟨v, false, 98, 8, G ++ [.agg [.int .i64 arm, .Au, .int .i64 0, .int .i64 0, .str (bs []), .bool false, .int .i64 0, .int .i64 0]]⟩) :
  Ai s (N2 [.t 4] (ZW (G ++ [(⟨arm, [], 0, 0, bs [], false, 0, 0⟩ : Ask)].map av))) := by
 have hs : (G ++ [AV.agg [.int .i64 arm, .Au, .int .i64 0, .int .i64 0, .str (bs []), .bool false, .int .i64 0, .int .i64 0]]).set G.length (av (⟨arm, [], 0, 0, bs [], false, 0, 0⟩ : Ask)) = G ++ [(⟨arm, [], 0, 0, bs [], false, 0, 0⟩ : Ask)].map av := by simp
 refine Ai.Vv 90 G.length (av (⟨arm, [], 0, 0, bs [], false, 0, 0⟩ : Ask)) hh (fun e he => ?_) ?_
 ·have he' : e = .agg [.int .i64 arm, .Au, .int .i64 0, .int .i64 0, .str (bs []), .bool false, .int .i64 0, .int .i64 0] := by simpa using he.symm
  subst he'
  refine ⟨⟨rfl, fun x hx => AVal.AcE _ x hx⟩, fun S w μ j x' hx => ?_⟩
  rcases j with _ | _ | j
  ·exact ⟨_, rfl, fun v hv => by cases hx; exact hv⟩
  ·exact ⟨.Au, rfl, fun v hv => by cases hx; cases hv; exact .sl0 none 0 (Nat.zero_le _)⟩
  ·exact ⟨x', by rw [← hx]; rfl, fun v hv => hv⟩
 ·rw [hs]
  have hl : (G ++ [(⟨arm, [], 0, 0, bs [], false, 0, 0⟩ : Ask)].map av).length = G.length + 1 := by simp
  generalize G ++ [(⟨arm, [], 0, 0, bs [], false, 0, 0⟩ : Ask)].map av = G2 at *
  refine Ai.post [(90, ⟨v, false, 98, 8, G2⟩)] ?_
  simp +contextual -dsimp only [↓SD, SU, simprocAttr, -Nat.reduceMul, h4]
  exact .inr ⟨v, by rw [if_neg (fun h => h.1), hl], rfl⟩
set_option maxHeartbeats 4000000 in
theorem XV : ∀ (f : Nat) (R : List BI) (G : List AV) (x : AV) (hp : Hp), ZW G x hp → wtR R < f → wtR R ≤ 1048576 → RowsIn R → G.length ≤ 401 →
  AH Tryz.prog 44 [x, .sl ((R.map TrS.mk).map av)] hp (ZW (G ++ (A9 f G.length R).map av)) := by
 intro f
 induction f with
 | zero => intro R G x hp _ h; omega
 | succ f ih =>
  intro R G x hp hg hf hwt hin hG
  refine B8.H rfl ?_
  have hwl := YJ R
  have hRm : (R.map TrS.mk).length = R.length := List.length_map _
  by_cases hbig : 400 < G.length
  ·have hP : A9 (f + 1) G.length R = [] := by rw [A9, if_pos hbig]
   rw [hP, List.map_nil, List.append_nil]
   have hbi : (400 : Int) < (G.length : Int) := by omega
   rcases hg with ⟨h, _, _⟩ | ⟨v, rfl, rfl⟩
   ·rw [h] at hbig; simp at hbig
   simp +contextual -dsimp only [↓SD, SU, simprocAttr, -Nat.reduceMul, B8, hbi]
   refine Ai.post [(90, ⟨v, false, 98, 8, G⟩)] ?_
   simp +contextual -dsimp only [↓SD, SU, simprocAttr, -Nat.reduceMul]
   exact .inr ⟨v, rfl, rfl⟩
  have hP : A9 (f + 1) G.length R = CE (A9 f) G.length R := by rw [A9, if_neg hbig]
  rw [hP]
  have hbi : ¬ (400 : Int) < (G.length : Int) := by omega
  have hlt : List.take G.length G = G := List.take_length
  cases R with
  | nil =>
   have e0 : CE (A9 f) G.length [] = [⟨-1, [], 0, 0, bs [], false, 0, 0⟩] := rfl
   rw [e0]
   rcases hg with ⟨rfl, rfl, rfl⟩ | ⟨v, rfl, rfl⟩
   ·simp +contextual -dsimp only [↓SD, SU, simprocAttr, -Nat.reduceMul, B8, List.map_nil]
    refine ⟨⟨by omega, by unfold maxLen; omega⟩, fun u => ?_⟩
    exact Ww [] (-1) u _ rfl rfl
   ·simp +contextual -dsimp only [↓SD, SU, simprocAttr, -Nat.reduceMul, B8, hbi, hlt, List.map_nil]
    refine ⟨⟨by omega, by unfold maxLen; omega⟩, fun u => ?_⟩
    exact Ww G (-1) u _ rfl rfl
  | cons r0 rs =>
   obtain ⟨R, hR⟩ : ∃ R, R = r0 :: rs := ⟨_, rfl⟩
   have hRl : R.length = rs.length + 1 := by rw [hR]; rfl
   have hRi : ¬ (R.length : Int) = 0 := by omega
   have hRp : (0 : Int) < (R.length : Int) := by omega
   have hRn : 0 < R.length := by omega
   have e0 : ((R.map TrS.mk).map (av : TrS → AV)).getD 0 .top = av (⟨r0⟩ : TrS) := by rw [hR]; rfl
   have hra : av (⟨r0⟩ : TrS) = .agg [.sl ((r0.AA.map TsS.mk).map av), .int .i64 r0.arm] := K9 _
   have hrl : (r0.AA.map TsS.mk).length = r0.AA.length := List.length_map _
   have hRm2 : ((R.map TrS.mk).map (av : TrS → AV)).length = R.length := by simp
   cases ht : r0.AA with
   | nil =>
    have e00 : CE (A9 f) G.length (r0 :: rs) = [⟨r0.arm, [], 0, 0, bs [], false, 0, 0⟩] := by rw [CE, ht]; rfl
    rw [e00, ← hR]
    rw [ht] at hra
    rcases hg with ⟨rfl, rfl, rfl⟩ | ⟨v, rfl, rfl⟩
    ·simp +contextual -dsimp only [↓SD, SU, simprocAttr, -Nat.reduceMul, B8, hRm2, hRi, hRp, hRn, e0, hra, List.map_nil]
     refine ⟨⟨by omega, by unfold maxLen; omega⟩, fun u => ?_⟩
     exact Ww [] r0.arm u _ rfl rfl
    ·simp +contextual -dsimp only [↓SD, SU, simprocAttr, -Nat.reduceMul, B8, hbi, hlt, hRm2, hRi, hRp, hRn, e0, hra, List.map_nil]
     refine ⟨⟨by omega, by unfold maxLen; omega⟩, fun u => ?_⟩
     exact Ww G r0.arm u _ rfl rfl
   | cons t ts =>
    have hts : ¬ (r0.AA.length : Int) = 0 := by rw [ht, List.length_cons]; omega
    have htp : (0 : Int) < (r0.AA.length : Int) := by rw [ht, List.length_cons]; omega
    have htn : 0 < r0.AA.length := by rw [ht, List.length_cons]; omega
    have hrl2 : ((r0.AA.map TsS.mk).map (av : TsS → AV)).length = r0.AA.length := by simp
    have e1 : ((r0.AA.map TsS.mk).map (av : TsS → AV)).getD 0 .top = av (⟨t⟩ : TsS) := by rw [ht]; rfl
    have hP2 : CE (A9 f) G.length (r0 :: rs) = ⟨0, t.path, t.kind, t.n, t.s, t.has, G.length + 1, G.length + 1 + (A9 f (G.length + 1) (BP R t)).length⟩ :: (A9 f (G.length + 1) (BP R t) ++ A9 f (G.length + 1 + (A9 f (G.length + 1) (BP R t)).length) (noR R t)) := by
     rw [CE, ht, DZ, ← hR]
    have hy := P9 (rs := rs) ht
    have hn := YH (rs := rs) ht
    rw [← hR] at hy hn hwt hin hf hwl
    rw [hP2, ← hR]
    have htpl : t.path.length ≤ 1000000 := hin r0 (by rw [hR]; simp) t (by rw [ht]; simp)
    have hTl : ∀ r ∈ R, r.AA.length ≤ 1048576 := fun r hr => by have := YI hr; omega
    have CY := XU R t (by omega) hin hTl
    have CN := ZL R t (by omega) hin hTl
    have hpm : ∀ hp, (t.path.map (av : Int → AV)).map (AV.pur hp) = t.path.map av := fun hp => Ab _ hp
    have hpt : List.take t.path.length (t.path.map (av : Int → AV)) = t.path.map av := List.take_of_length_le (by simp)
    have hpc : ∀ x ∈ t.path.map (av : Int → AV), x.cells.length = 1 := fun x hx => by obtain ⟨y, _, rfl⟩ := List.mem_map.1 hx; rfl
    have hta : av (⟨t⟩ : TsS) = .agg [.sl (t.path.map av), .int .i64 t.kind, .int .i64 t.n, .str t.s, .bool t.has] := Fg _
    rw [hta] at e1 CY CN
    obtain ⟨z, hz⟩ : ∃ z : AV, z = .agg [.int .i64 0, .Au, .int .i64 0, .int .i64 0, .str (bs []), .bool false, .int .i64 0, .int .i64 0] := ⟨_, rfl⟩
    have hc : (∀ x ∈ t.path.map (av : Int → AV), x.cells.length = 1) ∧ t.path.length * 8 ≤ 140737488355328 ∧ t.path.length ≤ maxLen := ⟨hpc, by omega, by unfold maxLen; omega⟩
    obtain ⟨P1, hP1⟩ : ∃ P1, P1 = A9 f (G.length + 1) (BP R t) := ⟨_, rfl⟩
    have hp1 := EZ f (G.length + 1) (BP R t)
    rw [← hP1] at hp1 ⊢
    obtain ⟨P2, hP2⟩ : ∃ P2, P2 = A9 f (G.length + 1 + P1.length) (noR R t) := ⟨_, rfl⟩
    have hp2 := EZ f (G.length + 1 + P1.length) (noR R t)
    rw [← hP2] at hp2 ⊢
    have C1 := fun (v1 : Nat) => ih (BP R t) (G ++ [z]) (.row 90 v1 (G.length + 1)) [(90, ⟨v1, false, 98, 8, G ++ [z]⟩)] (.inr ⟨v1, by simp, rfl⟩) (by omega) (by omega) (hin.yes t) (by simp only [List.length_append, List.length_cons, List.length_nil]; omega)
    have hGz : (G ++ [z]).length = G.length + 1 := by simp
    rw [hGz, ← hP1] at C1
    obtain ⟨G1, hG1⟩ : ∃ G1, G1 = G ++ [z] ++ P1.map av := ⟨_, rfl⟩
    have hG1l : G1.length = G.length + 1 + P1.length := by rw [hG1, List.length_append, hGz, List.length_map]
    rw [← hG1] at C1
    have C2 := fun (v2 : Nat) => ih (noR R t) G1 (.row 90 v2 G1.length) [(90, ⟨v2, false, 98, 8, G1⟩)] (.inr ⟨v2, rfl, rfl⟩) (by omega) (by omega) (hin.no t) (by omega)
    rw [hG1l, ← hP2] at C2
    obtain ⟨G2, hG2⟩ : ∃ G2, G2 = G1 ++ P2.map av := ⟨_, rfl⟩
    have hG2l : G2.length = G.length + 1 + P1.length + P2.length := by rw [hG2, List.length_append, hG1l, List.length_map]
    rw [← hG2] at C2
    obtain ⟨W, hW⟩ : ∃ W, W = G ++ (⟨0, t.path, t.kind, t.n, t.s, t.has, (G.length : Int) + 1, (G.length : Int) + 1 + P1.length⟩ :: (P1 ++ P2) : List Ask).map av := ⟨_, rfl⟩
    rw [← hW]
    have hWs : G2.set G.length (.agg [.int .i64 0, .sl (t.path.map av), .int .i64 t.kind, .int .i64 t.n, .str t.s, .bool t.has, .int .i64 (G.length + 1 : Nat), .int .i64 (G.length + 1 + P1.length : Nat)]) = W := by
     rw [hG2, hG1, hW, List.map_cons, List.map_append, JP]; simp [List.set_append]
    have hG1n : ¬ G1 = [] := fun h => by rw [h] at hG1l; simp only [List.length_nil] at hG1l; omega
    have hG2n : ¬ G2 = [] := fun h => by rw [h] at hG2l; simp only [List.length_nil] at hG2l; omega
    have hatI : (G.length : Int) < (G.length + 1 + P1.length + P2.length : Nat) := by omega
    have hatN : G.length < G.length + 1 + P1.length + P2.length := by omega
    have hGg : G2.getD G.length .top = .agg [.int .i64 0, .Au, .int .i64 0, .int .i64 0, .str (bs []), .bool false, .int .i64 0, .int .i64 0] := by rw [hG2, hG1, hz]; simp [List.getD_eq_getElem?_getD]
    have hWl : W.length = G.length + 1 + P1.length + P2.length := by rw [← hWs, List.length_set, hG2l]
    clear hP hP2 ih hG1 hG2 hW
    generalize BP R t = Y at *
    generalize noR R t = N at *
    rcases hg with ⟨hG0, rfl, rfl⟩ | ⟨v, rfl, rfl⟩
    case' inl =>
     have hG0' : G.length = 0 := by rw [hG0]; rfl
     simp +contextual -dsimp only [↓SD, SU, simprocAttr, -Nat.reduceMul, B8, hRm2, hRi, hRp, hRn, e0, hra, hrl2, hts, htp, htn, e1]
    case' inr =>
     have hG0' : G = G := rfl
     have hG0 : 0 = 0 := rfl
     simp +contextual -dsimp only [↓SD, SU, simprocAttr, -Nat.reduceMul, B8, hbi, hlt, hRm2, hRi, hRp, hRn, e0, hra, hrl2, hts, htp, htn, e1]
    all_goals
     intro u5
     refine ⟨⟨by omega, by unfold maxLen; omega⟩, fun v1 => ?_⟩
     refine BM (Ai.frz 5 (Ai.pur 5 (Ai.here ?_)))
     simp +contextual -dsimp only [↓SD, SU, simprocAttr, -Nat.reduceMul, hpm, hpt, Aa, hlt]
     refine ⟨fun v45 => ⟨⟨hc, fun v48 => ⟨fun u7 => ?_, fun u7 => ?_⟩⟩, fun u7 => ⟨hc, fun v48 => ?_⟩⟩, fun u7 v45 => ⟨hc, fun v48 => ?_⟩⟩
     all_goals
      refine BM (SJ ⟨[(0, .row 90 v1 (G.length + 1)), (1, .sl ((R.map TrS.mk).map av)), (5, .obj [.sl (t.path.map av), .int .i64 t.kind, .int .i64 t.n, .str t.s, .bool t.has]), (6, .int .i64 G.length), (7, .ptr 7 u7 0 0)], [(90, ⟨v1, false, 98, 8, G ++ [z]⟩), (7, ⟨u7, false, 98, 8, [.agg [.int .i64 0, .sl (t.path.map av), .int .i64 t.kind, .int .i64 t.n, .str t.s, .bool t.has, .int .i64 (G.length + 1 : Nat), .int .i64 0]]⟩)]⟩ (by simp +contextual -dsimp only [↓SD, SU, simprocAttr, -Nat.reduceMul, hG0', Nat.zero_add]) (by simp +contextual -dsimp only [↓SD, SU, simprocAttr, -Nat.reduceMul, hG0', hG0, hz, List.nil_append, Nat.zero_add]) (Ai.here ?_))
      clear hG0 hG0'
      generalize G ++ [z] = Gz at *
      simp +contextual -dsimp only [↓SD, SU, simprocAttr, -Nat.reduceMul]
      refine Ag _ CY ?_
      simp +contextual -dsimp only [↓SD, SU, simprocAttr, -Nat.reduceMul]
      refine Ac [90] (C1 v1) (by simp +contextual -dsimp only [↓SD, SU, simprocAttr, -Nat.reduceMul]) ?_
      rintro r hp' (⟨h, _, _⟩ | ⟨v2, rfl, rfl⟩)
      ·exact absurd h hG1n
      rw [hG1l]
      simp +contextual -dsimp only [↓SD, SU, simprocAttr, -Nat.reduceMul, hG1l]
      refine Ag _ CN ?_
      simp +contextual -dsimp only [↓SD, SU, simprocAttr, -Nat.reduceMul]
      refine Ac [90] (C2 v2) (by simp +contextual -dsimp only [↓SD, SU, simprocAttr, -Nat.reduceMul]) ?_
      rintro r hp' (⟨h, _, _⟩ | ⟨v3, rfl, rfl⟩)
      ·exact absurd h hG2n
      rw [hG2l]
      simp +contextual -dsimp only [↓SD, SU, simprocAttr, -Nat.reduceMul, hG2l, hatI, hatN, hGg, hWs]
      refine Ai.post [(90, ⟨v3, false, 98, 8, W⟩)] ?_
      simp +contextual -dsimp only [↓SD, SU, simprocAttr, -Nat.reduceMul]
      exact .inr ⟨v3, by rw [if_neg (fun h => h.1), hWl], rfl⟩
end Go.Proofs.YteeiaaogmjbcjaaGreat
