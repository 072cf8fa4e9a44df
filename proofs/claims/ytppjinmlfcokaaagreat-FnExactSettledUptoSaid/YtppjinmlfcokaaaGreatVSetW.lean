/-
 PATTERNS PRINTED by the reference's abstract text. Conditions: none.
-/
import Derived.Test.YtppjinmlfcokaaaGreatVSetT
import Derived.Test.YtppjinmlfcokaaaGreatVJ24
set_option linter.unusedVariables false
set_option linter.unusedSimpArgs false
set_option maxRecDepth 100000
namespace Go.Proofs.YtppjinmlfcokaaaGreat
open Go.RowKit Go.Proofs.YtppjinmlfcokaaaGreat.Av Go.Proofs.YtppjinmlfcokaaaGreat.Ml
open Go.Proofs.YtppjinmlfcokaaaGreat.Av.AVal (av)

theorem ZD : ∀ (l : List Bg) (k : Nat), Px l k ≤ 80 * Ac.bulk l
 | [], k => by simp [Px]
 | x :: l, 0 => Nat.zero_le _
 | x :: l, k + 1 => by
  have ih := ZD l k
  unfold Px at ih ⊢
  have e1 : Ac.bulk (x :: l) = Ac.bulk x + Ac.bulk l := by show (List.map Ac.bulk (x :: l)).sum + 1 = _ + ((l.map Ac.bulk).sum + 1); simp; omega
  have e2 : Ac.bulk x = Ac.bulk x.kind + Ac.bulk x.n + (x.s.size + 1) + Ac.bulk x.kids + 1 := rfl
  rw [List.take_succ_cons, List.map_cons, List.sum_cons]
  omega
set_option maxHeartbeats 4000000 in
theorem Sa (l : List Bg) (hp : Et l = true) (hx : Ac.bulk l ≤ 4294967296) : ∀ (f i e : Nat), B9 (B2 l) l.length f i = some e → Ah Tryz.prog 146 [.agg [.sl (l.map av)], .int .i64 i] (.str (LH l f i))
 | 0, i, e, h => by cases h
 | f + 1, i, e, hE => by
  have CT := Sa l hp hx f
  have hS := ZG hp f
  have hP := ZD l
  have hll := Ai l
  obtain ⟨g, hg, hi, h⟩ := EN hE
  cases hg
  have hp0 := hp
  simp only [Et, Bool.and_eq_true, M9] at hp
  have hn := hp.2 i hi
  simp only [GN, Bool.and_eq_true] at hn
  have hn := hn.1
  have e1 := getD_map av l i .top hi
  have hgd : l.getD i default = l[i] := by simp [List.getD_eq_getElem?_getD, hi]
  have hK : B2 l i = l[i].kids := by rw [B2, hgd]
  rw [hgd] at hn
  have s1 : (bs [40]).size = 1 := rfl
  have s2 : (bs [44, 32]).size = 2 := rfl
  have s3 : (bs [41]).size = 1 := rfl
  have s4 : (bs [32, 58, 58, 32]).size = 4 := rfl
  have s5 : (bs [32]).size = 1 := rfl
  have hbn := Au (List.getElem_mem hi)
  have hbs : Ac.bulk l[i] = Ac.bulk l[i].kind + Ac.bulk l[i].n + (l[i].s.size + 1) + Ac.bulk l[i].kids + 1 := rfl
  refine Co.F rfl (by simp; exact ⟨Ad.agg (by simp; exact Ak l), BB _⟩) (Ad.str _) ?_
  rw [LH, hgd]
  generalize l[i] = n at *
  obtain ⟨k, v, s, kids⟩ := n
  rw [AU] at e1
  dsimp only at hK e1 hbs
  unfold Er at hn
  dsimp only at hn
  unfold AfF
  dsimp only
  have hk : k = 1 ∨ k = 2 ∨ k = 3 ∨ k = 4 ∨ k = 5 ∨ k = 6 := by
   repeat' (split at hn)
   all_goals first | omega | cases hn
  rcases hk with rfl | rfl | rfl | rfl | rfl | rfl
  ·simp +contextual -dsimp (maxSteps := 2000000) only [↓SD, SU, simprocAttr, Co, Ab, hi, e1]
  ·simp +contextual -dsimp (maxSteps := 2000000) only [↓SD, SU, simprocAttr, Co, Ab, hi, e1]
  ·simp only [Int.reduceEq, or_false, if_true, if_false, Bool.and_eq_true, decide_eq_true_eq] at hn
   simp +contextual -dsimp (maxSteps := 2000000) only [↓SD, SU, simprocAttr, Co, Ab, hi, e1]
   intro v5
   refine Aa _ (Hy v (by omega)) ?_
   simp +contextual -dsimp (maxSteps := 2000000) only [↓SD, SU, simprocAttr]
  ·simp only [Int.reduceEq, or_false, if_true, if_false, Bool.and_eq_true, decide_eq_true_eq] at hn
   by_cases h0 : kids.length = 0
   ·obtain rfl := List.eq_nil_of_length_eq_zero h0
    simp +contextual -dsimp (maxSteps := 2000000) only [↓SD, SU, simprocAttr, Co, Ab, hi, e1]
   ·have hl : (B2 l i).length = 1 := by have := Mg hn.2; rw [hK]; omega
    obtain ⟨e3, e4⟩ := G5 h hl
    have hKe := hK.symm.trans e3
    subst hKe
    have f1 : ((B2 l i).getD 0 0).toNat = i + 1 := by rw [e3]; rfl
    simp only [f1]
    by_cases hc : s = bs [58, 58]
    ·rw [hc, Hu] at hn
     simp only [Bool.and_eq_true, decide_eq_true_eq] at hn
     obtain ⟨g, rfl, hi2, hk2⟩ := EN e4
     have hk5 : (l.getD (i + 1) default).kind = 5 := by
      have := hn.2.2
      simp only [Ay, Bool.and_eq_true, decide_eq_true_eq] at this
      simpa using this.2
     have hn2 := hp.2 (i + 1) hi2
     simp only [GN, Bool.and_eq_true] at hn2
     have hn2 := hn2.1
     have e2 := getD_map av l (i + 1) .top hi2
     have hgd2 : l.getD (i + 1) default = l[i + 1] := by simp [List.getD_eq_getElem?_getD, hi2]
     have hK2 : B2 l (i + 1) = l[i + 1].kids := by rw [B2, hgd2]
     rw [hgd2] at hn2 hk5
     generalize l[i + 1] = m at *
     obtain ⟨k2, v2, s2, DF⟩ := m
     dsimp only at hk5 hK2
     subst hk5
     unfold Er at hn2
     simp at hn2
     obtain ⟨c, e5, e6, e7⟩ := Go.Proofs.YtppjinmlfcokaaaGreat.DF hk2 (show (B2 l (i + 1)).length = 2 by rw [hK2]; exact hn2.1.1)
     have hKe := hK2.symm.trans e5
     subst hKe
     rw [AU] at e2
     dsimp only at e2
     have f2 : ((B2 l (i + 1)).getD 0 0).toNat = i + 1 + 1 := by rw [e5]; rfl
     have f3 : ((B2 l (i + 1)).getD 1 0).toNat = c := by rw [e5]; rfl
     have q1 := Em _ _ _ _ _ e6
     have q2 := Em _ _ _ _ _ e7
     have C1 := CT _ _ q1
     have C2 := CT _ _ q2
     have z1 := (hS _ _ q1).2
     have z2 := (hS _ _ q2).2
     have z3 := hP c
     have z4 := hP e
     simp only [f2, f3]
     generalize LH l (g + 1) (i + 1 + 1) = A at *
     generalize LH l (g + 1) c = B at *
     have hi3 : (i : Int) + 1 < (l.length : Int) := by omega
     simp +contextual -dsimp (maxSteps := 2000000) only [↓SD, SU, simprocAttr, Co, Ab, hi, hi3, e1, e2, hc, AA]
     repeat' (first | omega | rfl | intro _ | refine And.intro ?_ ?_ | (refine Aa _ C1 ?_; simp +contextual -dsimp (maxSteps := 2000000) only [↓SD, SU, simprocAttr, AA]) | (refine Aa _ C2 ?_; simp +contextual -dsimp (maxSteps := 2000000) only [↓SD, SU, simprocAttr, AA]) | ((try simp only [ByteArray.size_append]); unfold maxLen; omega))
    ·have C1 := CT _ _ e4
     have z1 := (hS _ _ e4).2
     have z3 := hP e
     generalize LH l f (i + 1) = A at *
     simp +contextual -dsimp (maxSteps := 2000000) only [↓SD, SU, simprocAttr, Co, Ab, hi, e1, hc, AA]
     repeat' (first | omega | rfl | intro _ | refine And.intro ?_ ?_ | (refine Aa _ C1 ?_; simp +contextual -dsimp (maxSteps := 2000000) only [↓SD, SU, simprocAttr, AA]) | ((try simp only [ByteArray.size_append]); unfold maxLen; omega))
  ·simp only [Int.reduceEq, or_false, if_true, if_false, Bool.and_eq_true, decide_eq_true_eq] at hn
   obtain ⟨c, e5, e6, e7⟩ := DF h (show (B2 l i).length = 2 by rw [hK]; exact hn.1.1)
   have hKe := hK.symm.trans e5
   subst hKe
   have f2 : ((B2 l i).getD 0 0).toNat = i + 1 := by rw [e5]; rfl
   have f3 : ((B2 l i).getD 1 0).toNat = c := by rw [e5]; rfl
   have C1 := CT _ _ e6
   have C2 := CT _ _ e7
   have z1 := (hS _ _ e6).2
   have z2 := (hS _ _ e7).2
   have z3 := hP c
   have z4 := hP e
   simp only [f2, f3]
   generalize LH l f (i + 1) = A at *
   generalize LH l f c = B at *
   simp +contextual -dsimp (maxSteps := 2000000) only [↓SD, SU, simprocAttr, Co, Ab, hi, e1, AA]
   repeat' (first | omega | rfl | intro _ | refine And.intro ?_ ?_ | (refine Aa _ C1 ?_; simp +contextual -dsimp (maxSteps := 2000000) only [↓SD, SU, simprocAttr, AA]) | (refine Aa _ C2 ?_; simp +contextual -dsimp (maxSteps := 2000000) only [↓SD, SU, simprocAttr, AA]) | ((try simp only [ByteArray.size_append]); unfold maxLen; omega))
  ·simp +contextual -dsimp (maxSteps := 2000000) only [↓SD, SU, simprocAttr, Co, Ab, hi, e1]
end Go.Proofs.YtppjinmlfcokaaaGreat
