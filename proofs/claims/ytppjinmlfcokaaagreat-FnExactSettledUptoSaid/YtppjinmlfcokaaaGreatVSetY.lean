/-
 EXPRESSIONS PRINTED by the reference's abstract text: l04Expr. Conditions: none. Printed by sety.py.
-/
import Derived.Test.YtppjinmlfcokaaaGreatVSetW
set_option linter.unusedVariables false
set_option linter.unusedSimpArgs false
set_option maxRecDepth 100000
namespace Go.Proofs.YtppjinmlfcokaaaGreat
open Go.RowKit Go.Proofs.YtppjinmlfcokaaaGreat.Av Go.Proofs.YtppjinmlfcokaaaGreat.Ml
open Go.Proofs.YtppjinmlfcokaaaGreat.Av.AVal (av)

theorem ZE {p : Program} (hb : Bv p = true) (k : Nat) : Ct p.nodes k ≤ 200 * Ac.bulk p.nodes := by
 simp only [Bv, Bool.and_eq_true, List.all_eq_true] at hb
 have h6 := hb.2
 clear hb
 have main : ∀ (l : List Node) (k : Nat), (∀ n ∈ l, ∀ q ∈ n.Ae, Et q.nodes = true) → Ct l k ≤ 200 * Ac.bulk l := by
  intro l
  induction l with
  | nil => intro k _; simp [Ct]
  | cons x l ih =>
   intro k h
   cases k with
   | zero => exact Nat.zero_le _
   | succ k =>
    have ih := ih k fun n hn => h n (by simp [hn])
    unfold Ct at ih ⊢
    have e1 : Ac.bulk (x :: l) = Ac.bulk x + Ac.bulk l := by show (List.map Ac.bulk (x :: l)).sum + 1 = _ + ((l.map Ac.bulk).sum + 1); simp; omega
    have e2 : Ac.bulk x = Ac.bulk x.kind + Ac.bulk x.pos + Ac.bulk x.n + (x.s.size + 1) + Ac.bulk x.kids + Ac.bulk x.Ae + 1 := rfl
    have e3 : ∀ m : List Pat, (∀ q ∈ m, Et q.nodes = true) → (m.map fun q => (J5 q).size + 7).sum + 7 ≤ 107 * Ac.bulk m := by
     intro m
     induction m with
     | nil => intro _; decide
     | cons q m ihm =>
      intro hq
      have a1 := (ZF (hq q (by simp))).2
      have a2 := ihm fun q' h' => hq q' (by simp [h'])
      have a3 : Ac.bulk (q :: m) = Ac.bulk q + Ac.bulk m := by show (List.map Ac.bulk (q :: m)).sum + 1 = _ + ((m.map Ac.bulk).sum + 1); simp; omega
      have a4 : Ac.bulk q = Ac.bulk q.nodes + 1 := rfl
      rw [List.map_cons, List.sum_cons]
      omega
    have e4 := e3 x.Ae (h x (by simp))
    have e5 : Ac.bulk x.kind = 1 := rfl
    rw [List.take_succ_cons, List.map_cons, List.sum_cons]
    omega
 exact main _ k h6
theorem Se {e : Nat → Option Nat} : ∀ {ks : List Int} {a m : Nat}, BR e ks a = some m → ∀ j (h : j < ks.length), ∃ c c' : Nat, ks[j] = (c : Int) ∧ e c = some c'
 | [], a, m, h, j, hj => by simp at hj
 | k :: ks, a, m, h, j, hj => by
  obtain ⟨e1, c, e2, h⟩ := V0 h
  cases j with
  | zero => exact ⟨a, c, e1, e2⟩
  | succ j => exact Se h j (by simpa using hj)
def EY (k : Int) (s : ByteArray) (j : Nat) : Prop := (k = 8 ∧ j = 0) ∨ (k = 4 ∧ s = bs [58, 58])
instance (k : Int) (s : ByteArray) (j : Nat) : Decidable (EY k s j) := by unfold EY; infer_instance
def ksL (k : Int) (s : ByteArray) (T : Nat → ByteArray) (j : Nat) : List ByteArray := (List.range j).map fun m => if EY k s m then bs [] else T m
theorem Ady (k : Int) (s : ByteArray) (T : Nat → ByteArray) (j : Nat) : ksL k s T (j + 1) = ksL k s T j ++ [if EY k s j then bs [] else T j] := by
 unfold ksL; rw [List.range_succ, List.map_append]; rfl
theorem OU (k : Int) (s : ByteArray) (T : Nat → ByteArray) (j : Nat) : (ksL k s T j).length = j := by simp [ksL]
theorem VW (k : Int) (s : ByteArray) (T : Nat → ByteArray) : ksL k s T 0 = [] := rfl
theorem QE (T : Nat → ByteArray) : ∀ (l : List Pat) (s : ByteArray) (i : Nat), s.size ≤ (J3 T s i l).size
 | [], s, i => Nat.le_refl _
 | q :: r, s, i => by
  have := QE T r ((if 0 < i then s ++ bs [32, 124, 32] else s) ++ J5 q ++ bs [32, 45, 62, 32] ++ T (i + 1)) (i + 1)
  have h1 : s.size ≤ (if 0 < i then s ++ bs [32, 124, 32] else s).size := by
   split
   ·rw [ByteArray.size_append]; omega
   ·exact Nat.le_refl _
  rw [J3]
  generalize (if 0 < i then s ++ bs [32, 124, 32] else s) = s1 at *
  simp only [ByteArray.size_append] at this
  omega

set_option maxHeartbeats 8000000 in
theorem P3 {p : Program} (hx : Ac.bulk p ≤ 4294967296) (hb : Bv p = true) : ∀ (f i e : Nat), B9 (Aq p.nodes) p.nodes.length f i = some e → Ah Tryz.prog 80 [.agg [.sl (p.types.map av), .sl (p.nodes.map av)], .int .i64 i] (.str (exS p.nodes f i))
 | 0, i, e, h => by cases h
 | f + 1, i, e, hE => by
  have CT := P3 hx hb f
  have hSz := (NC hb (f + 1) i e hE).2
  have hS := fun i e h => (NC hb f i e h).2
  have hP := ZE hb
  have hxb : Ac.bulk p = Ac.bulk p.types + Ac.bulk p.nodes + 1 := rfl
  have hb0 := hb
  simp only [Bv, GX, Bool.and_eq_true, decide_eq_true_eq, List.all_eq_true] at hb
  obtain ⟨⟨⟨⟨⟨hl1, hl2⟩, h3⟩, h4⟩, _⟩, h6⟩ := hb
  obtain ⟨types, l⟩ := p
  dsimp only at *
  obtain ⟨g, hg, hi, h⟩ := EN hE
  cases hg
  have hn := h4 l[i] (List.getElem_mem hi)
  have hpat := h6 l[i] (List.getElem_mem hi)
  have e1 := getD_map av l i .top hi
  have hgd : l.getD i default = l[i] := by simp [List.getD_eq_getElem?_getD, hi]
  have hK : Aq l i = l[i].kids := by rw [Aq, hgd]
  have hbn := Au (List.getElem_mem hi)
  have hbs : Ac.bulk l[i] = Ac.bulk l[i].kind + Ac.bulk l[i].pos + Ac.bulk l[i].n + (l[i].s.size + 1) + Ac.bulk l[i].kids + Ac.bulk l[i].Ae + 1 := rfl
  have hkl := Ai l[i].kids
  have hpl := Ai l[i].Ae
  refine JG.F rfl (by simp; exact ⟨Ad.agg (by simp; exact ⟨Ak types, Ak l⟩), BB _⟩) (Ad.str _) ?_
  rw [exS, hgd] at hSz ⊢
  generalize l[i] = n at *
  obtain ⟨k, pos, v, s, kids, Ae⟩ := n
  rw [As] at e1
  dsimp only at *
  obtain ⟨T, hT⟩ : ∃ T : Nat → ByteArray, T = fun j => exS l f ((Aq l i).getD j 0).toNat := ⟨_, rfl⟩
  have hTj : ∀ j, T j = exS l f (kids.getD j 0).toNat := fun j => by rw [hT, hK]
  rw [← hT] at hSz ⊢
  simp +contextual -dsimp (maxSteps := 2000000) only [↓SD, SU, simprocAttr, JG, Ab, hi, e1]
  intro v5 v20
  rw [hK] at h
  refine Am (X := Nat × Nat) (fun x => ⟨[(2, .obj [.sl (types.map av), .sl (l.map av)]), (5, .ptr 5 v5 0 0), (6, .row 20 x.2 x.1), (22, .sl (kids.map av)), (23, .int .i64 kids.length), (24, .int .i64 x.1)], [(5, ⟨v5, false, 49, 6, [.agg [.int .i64 k, .int .i64 pos, .int .i64 v, .str s, .sl (kids.map av), .sl (Ae.map av)]]⟩), (20, ⟨x.2, false, 9, 1, (ksL k s T x.1).map av⟩)]⟩) (fun x => x.1 ≤ kids.length) (fun x => kids.length - x.1) (0, v20) (Nat.zero_le _) (by simp +contextual -dsimp only [↓SD, SU, simprocAttr, VW]) (by simp +contextual -dsimp only [↓SD, SU, simprocAttr, VW]) ?_
  rintro ⟨j, v20⟩ hj
  dsimp only at hj ⊢
  by_cases hlt : j < kids.length
  ·have e2 := getD_map av kids j .top hlt
   obtain ⟨c, c', e3, e4⟩ := Se h j hlt
   have C1 := CT c c' e4
   have hTc : T j = exS l f c := by rw [hTj, Ey hlt, e3]; rfl
   rw [← hTc] at C1
   rw [e3, AA] at e2
   have hLs := Ady k s T j
   have hll := OU k s T j
   have hz : T j = T j := rfl
   have skip : EY k s j → ksL k s T (j + 1) = ksL k s T j ++ [bs []] := fun h => by rw [hLs, if_pos h]
   have call : ¬ EY k s j → ksL k s T (j + 1) = ksL k s T j ++ [T j] := fun h => by rw [hLs, if_neg h]
   clear hLs hTc hSz
   generalize hLL : ksL k s T j = L at *
   generalize T j = t at *
   have hLt : List.take j (L.map (av : ByteArray → AV)) = L.map av := List.take_of_length_le (by simp [hll])
   by_cases h8 : k = 8
   ·subst h8
    by_cases hj0 : j = 0
    ·have hq := skip (.inl ⟨rfl, hj0⟩)
     subst hj0
     have hlt2 : (0 : Int) < (kids.length : Int) := by omega
     simp +contextual -dsimp (maxSteps := 2000000) only [↓SD, SU, simprocAttr, Ab, hlt2, e2, hLt]
     refine ⟨by unfold maxLen; omega, fun u => Af.le ⟨(1, u), ⟨hlt, (by first | omega | (simp only; omega))⟩, rfl⟩ (by simp +contextual -dsimp only [↓SD, SU, simprocAttr]) (by simp +contextual -dsimp only [↓SD, SU, simprocAttr, hq, List.map_append, Ce])⟩
    ·have hq := call (fun hh => hh.elim (fun a => hj0 a.2) (fun a => by omega))
     have hj1 : ¬ (j : Int) = 0 := by omega
     simp +contextual -dsimp (maxSteps := 2000000) only [↓SD, SU, simprocAttr, Ab, hlt, e2, hj1]
     refine Aa _ C1 ?_
     simp +contextual -dsimp (maxSteps := 2000000) only [↓SD, SU, simprocAttr, Ab, hlt, e2, hLt]
     refine ⟨⟨by omega, by omega, by unfold maxLen; omega⟩, fun u => ⟨by omega, Af.le ⟨(j + 1, u), ⟨hlt, (by first | omega | (simp only; omega))⟩, rfl⟩ (by simp +contextual -dsimp only [↓SD, SU, simprocAttr, Int.natCast_add]) (by simp +contextual -dsimp only [↓SD, SU, simprocAttr, hq, List.map_append, Ce])⟩⟩
   ·by_cases h4 : k = 4
    ·subst h4
     by_cases hc : s = bs [58, 58]
     ·have hq := skip (.inr ⟨rfl, hc⟩)
      have hc1 := eq_true hc
      simp +contextual -dsimp (maxSteps := 2000000) only [↓SD, SU, simprocAttr, Ab, hlt, e2, hc1, hLt]
      refine ⟨⟨by omega, by omega, by unfold maxLen; omega⟩, fun u => ⟨by omega, Af.le ⟨(j + 1, u), ⟨hlt, (by first | omega | (simp only; omega))⟩, rfl⟩ (by simp +contextual -dsimp only [↓SD, SU, simprocAttr, Int.natCast_add]) (by simp +contextual -dsimp only [↓SD, SU, simprocAttr, hq, List.map_append, Ce])⟩⟩
     ·have hq := call (fun hh => hh.elim (fun a => h8 a.1) (fun a => hc a.2))
      simp +contextual -dsimp (maxSteps := 2000000) only [↓SD, SU, simprocAttr, Ab, hlt, e2, hc]
      refine Aa _ C1 ?_
      simp +contextual -dsimp (maxSteps := 2000000) only [↓SD, SU, simprocAttr, Ab, hlt, e2, hLt]
      refine ⟨⟨by omega, by omega, by unfold maxLen; omega⟩, fun u => ⟨by omega, Af.le ⟨(j + 1, u), ⟨hlt, (by first | omega | (simp only; omega))⟩, rfl⟩ (by simp +contextual -dsimp only [↓SD, SU, simprocAttr, Int.natCast_add]) (by simp +contextual -dsimp only [↓SD, SU, simprocAttr, hq, List.map_append, Ce])⟩⟩
    ·have hq := call (fun hh => hh.elim (fun a => h8 a.1) (fun a => h4 a.1))
     simp +contextual -dsimp (maxSteps := 2000000) only [↓SD, SU, simprocAttr, Ab, hlt, e2, h8, h4]
     refine Aa _ C1 ?_
     simp +contextual -dsimp (maxSteps := 2000000) only [↓SD, SU, simprocAttr, Ab, hlt, e2, hLt]
     refine ⟨⟨by omega, by omega, by unfold maxLen; omega⟩, fun u => ⟨by omega, Af.le ⟨(j + 1, u), ⟨hlt, (by first | omega | (simp only; omega))⟩, rfl⟩ (by simp +contextual -dsimp only [↓SD, SU, simprocAttr, Int.natCast_add]) (by simp +contextual -dsimp only [↓SD, SU, simprocAttr, hq, List.map_append, Ce])⟩⟩
  ·obtain rfl : j = kids.length := by omega
   have hnl : ¬ (kids.length : Int) < (kids.length : Int) := by omega
   clear hlt hj
   have hPe := hP e
   have done_ : ∀ m : Nat, 0 ≤ AO k → AO k = (m : Int) → kids.length = m := fun m h1 h2 => by have := OS hn h1; dsimp only at this; omega
   rcases VX hn with hk | hk | hk | hk | hk | hk | hk | hk | hk | hk | hk | hk | hk | hk | hk | hk | hk | hk | hk
   all_goals (dsimp only at hk; subst hk)
   ·have hvr : -9223372036854775808 ≤ v ∧ v ≤ 9223372036854775807 := by
     unfold AE at hn
     split at hn
     ·cases hn
     ·simp at hn; omega
    obtain rfl := List.eq_nil_of_length_eq_zero (done_ 0 (by decide) (by decide))
    simp only [exN, Int.reduceEq, if_true, if_false] at hSz ⊢
    simp +contextual -dsimp (maxSteps := 2000000) only [↓SD, SU, simprocAttr, Ab]
    repeat' (first | omega | ((try simp only [ByteArray.size_append]); unfold maxLen; omega) | with_reducible rfl | intro _ | refine And.intro ?_ ?_ | (refine Aa _ (Hy v hvr) ?_; simp +contextual -dsimp (maxSteps := 2000000) only [↓SD, SU, simprocAttr]))
   ·obtain rfl := List.eq_nil_of_length_eq_zero (done_ 0 (by decide) (by decide))
    simp only [exN, Int.reduceEq, if_true, if_false] at hSz ⊢
    simp +contextual -dsimp (maxSteps := 2000000) only [↓SD, SU, simprocAttr, Ab]
    repeat' (first | omega | ((try simp only [ByteArray.size_append]); unfold maxLen; omega) | with_reducible rfl | intro _ | refine And.intro ?_ ?_ | (refine Aa _ (Tm s (by omega)) ?_; simp +contextual -dsimp (maxSteps := 2000000) only [↓SD, SU, simprocAttr]))
   ·obtain rfl := List.eq_nil_of_length_eq_zero (done_ 0 (by decide) (by decide))
    simp only [exN, Int.reduceEq, if_true, if_false] at hSz ⊢
    simp +contextual -dsimp (maxSteps := 2000000) only [↓SD, SU, simprocAttr, Ab]
   ·have hs : FT s kids.length (Ay Node.kind l kids 11) = true := by
     unfold AE at hn
     split at hn
     ·cases hn
     ·simpa using hn
    by_cases h0 : kids.length = 0
    ·obtain rfl := List.eq_nil_of_length_eq_zero h0
     simp only [exN, Int.reduceEq, if_true, if_false, List.length_nil] at hSz ⊢
     simp +contextual -dsimp (maxSteps := 2000000) only [↓SD, SU, simprocAttr, Ab]
    ·have hl : kids.length = 1 := by have := Mg hs; omega
     obtain ⟨e3, e4⟩ := G5 h hl
     by_cases hc : s = bs [58, 58]
     ·obtain ⟨g2, hg2, hi2, hk2⟩ := EN e4
      subst hg2
      have e2 := getD_map av l (i + 1) .top hi2
      have hgd2 : l.getD (i + 1) default = l[i + 1] := by simp [List.getD_eq_getElem?_getD, hi2]
      have hi3 : (i : Int) + 1 < (l.length : Int) := by omega
      have f1 : ((Aq l i).getD 0 0).toNat = i + 1 := by rw [hK, e3]; rfl
      have hn2 := h4 l[i + 1] (List.getElem_mem hi2)
      have hk5 : l[i + 1].kind = 11 := by
       rw [hc, Hu, e3] at hs
       simp only [Bool.and_eq_true, decide_eq_true_eq, Ay] at hs
       have := hs.2.2
       rw [← hgd2]
       simpa using this
      have hK2 : Aq l (i + 1) = l[i + 1].kids := by rw [Aq, hgd2]
      obtain ⟨c, e6, e7, e8⟩ := DF hk2 (by rw [hK2]; exact Adc hn2 hk5)
      have C1 := CT (i + 1 + 1) c (Em _ _ _ _ _ e7)
      have C2 := CT c e (Em _ _ _ _ _ e8)
      have f2 : ((Aq l (i + 1)).getD 0 0).toNat = i + 1 + 1 := by rw [e6]; rfl
      have f3 : ((Aq l (i + 1)).getD 1 0).toNat = c := by rw [e6]; rfl
      subst e3
      have hL : ksL 4 s T 1 = [bs []] := by simp [ksL, List.range_succ, EY, hc]
      simp only [exN, Int.reduceEq, if_true, if_false, f1, f2, f3, hgd2, if_pos hc, List.length_cons, List.length_nil, Nat.reduceAdd, Nat.reduceEqDiff, Nat.zero_add, Nat.one_ne_zero] at hSz ⊢
      clear hT hTj
      generalize exS l (g2 + 1) (i + 1 + 1) = A0 at *
      generalize exS l (g2 + 1) c = A1 at *
      generalize l[i + 1] = m at *
      obtain ⟨k2, pos2, v2, s2, DF, pats2⟩ := m
      rw [As] at e2
      dsimp only at e2 hSz hk5 hK2 ⊢
      have hKe := hK2.symm.trans e6
      subst hKe hk5
      simp only [ByteArray.size_append] at hSz
      have hc1 := eq_true hc
      simp +contextual -dsimp (maxSteps := 2000000) only [↓SD, SU, simprocAttr, Ab, hL, hi3, e2, hc1, Ce, AA]
      repeat' (first | omega | ((try simp only [ByteArray.size_append]); unfold maxLen; omega) | with_reducible rfl | intro _ | refine And.intro ?_ ?_ | (refine Aa _ C1 ?_; simp +contextual -dsimp (maxSteps := 2000000) only [↓SD, SU, simprocAttr, Ab, hL, e2, AA, Ce]) | (refine Aa _ C2 ?_; simp +contextual -dsimp (maxSteps := 2000000) only [↓SD, SU, simprocAttr, Ab, hL, e2, AA, Ce]))
     ·subst e3
      have hL : ksL 4 s T 1 = [T 0] := by simp [ksL, List.range_succ, EY, hc]
      simp only [exN, Int.reduceEq, if_true, if_false, if_neg hc, List.length_cons, List.length_nil, Nat.reduceAdd, Nat.reduceEqDiff, Nat.zero_add, Nat.one_ne_zero] at hSz ⊢
      clear hT hTj
      generalize T 0 = A0 at *
      simp only [ByteArray.size_append] at hSz
      simp +contextual -dsimp (maxSteps := 2000000) only [↓SD, SU, simprocAttr, Ab, hL, hc, Ce, AA]
      repeat' (first | omega | ((try simp only [ByteArray.size_append]); unfold maxLen; omega) | with_reducible rfl | intro _ | refine And.intro ?_ ?_)
   ·obtain ⟨e3, e4⟩ := G5 h (done_ 1 (by decide) (by decide))
    subst e3
    have hL : ksL 5 s T 1 = [T 0] := by simp [ksL, List.range_succ, EY]
    simp only [exN, Int.reduceEq, if_true, if_false] at hSz ⊢
    clear hT hTj
    generalize T 0 = A0 at *
    simp only [ByteArray.size_append] at hSz
    simp +contextual -dsimp (maxSteps := 2000000) only [↓SD, SU, simprocAttr, Ab, hL, Ce, AA]
    repeat' (first | omega | ((try simp only [ByteArray.size_append]); unfold maxLen; omega) | with_reducible rfl | intro _ | refine And.intro ?_ ?_)
   ·obtain ⟨c, e3, e4, e5⟩ := DF h (done_ 2 (by decide) (by decide))
    obtain ⟨g2, hg2, hi2, hk2⟩ := EN e4
    have e2 := getD_map av l (i + 1) .top hi2
    have hgd2 : l.getD (i + 1) default = l[i + 1] := by simp [List.getD_eq_getElem?_getD, hi2]
    have hi3 : (i : Int) + 1 < (l.length : Int) := by omega
    have f1 : ((Aq l i).getD 0 0).toNat = i + 1 := by rw [hK, e3]; rfl
    subst e3
    have hL : ksL 6 s T 2 = [T 0, T 1] := by simp [ksL, List.range_succ, EY]
    simp only [exN, Int.reduceEq, if_true, if_false, f1, hgd2] at hSz ⊢
    clear hT hTj
    generalize T 0 = A0 at *
    generalize T 1 = A1 at *
    generalize l[i + 1] = m at *
    obtain ⟨k2, pos2, v2, s2, DF, pats2⟩ := m
    rw [As] at e2
    dsimp only at e2 hSz ⊢
    by_cases h1 : k2 = 4
    ·by_cases h2 : DF.length = 0
     ·rw [if_pos ⟨h1, h2⟩] at hSz ⊢
      simp only [ByteArray.size_append] at hSz
      have h2' : (DF.length : Int) = 0 := by omega
      simp +contextual -dsimp (maxSteps := 2000000) only [↓SD, SU, simprocAttr, Ab, hL, hi3, e2, h1, h2, h2', Ce, AA]
      repeat' (first | omega | ((try simp only [ByteArray.size_append]); unfold maxLen; omega) | with_reducible rfl | intro _ | refine And.intro ?_ ?_)
     ·rw [if_neg (fun hh => h2 hh.2)] at hSz ⊢
      simp only [ByteArray.size_append] at hSz
      have h2' : ¬ (DF.length : Int) = 0 := by omega
      simp +contextual -dsimp (maxSteps := 2000000) only [↓SD, SU, simprocAttr, Ab, hL, hi3, e2, h1, h2, h2', Ce, AA]
      repeat' (first | omega | ((try simp only [ByteArray.size_append]); unfold maxLen; omega) | with_reducible rfl | intro _ | refine And.intro ?_ ?_)
    ·rw [if_neg (fun hh => h1 hh.1)] at hSz ⊢
     simp only [ByteArray.size_append] at hSz
     simp +contextual -dsimp (maxSteps := 2000000) only [↓SD, SU, simprocAttr, Ab, hL, hi3, e2, h1, Ce, AA]
     repeat' (first | omega | ((try simp only [ByteArray.size_append]); unfold maxLen; omega) | with_reducible rfl | intro _ | refine And.intro ?_ ?_)
   ·obtain ⟨c, e3, e4, e5⟩ := DF h (done_ 2 (by decide) (by decide))
    subst e3
    have hL : ksL 7 s T 2 = [T 0, T 1] := by simp [ksL, List.range_succ, EY]
    simp only [exN, Int.reduceEq, if_true, if_false] at hSz ⊢
    clear hT hTj
    generalize T 0 = A0 at *
    generalize T 1 = A1 at *
    simp only [ByteArray.size_append] at hSz
    simp +contextual -dsimp (maxSteps := 2000000) only [↓SD, SU, simprocAttr, Ab, hL, Ce, AA]
    repeat' (first | omega | ((try simp only [ByteArray.size_append]); unfold maxLen; omega) | with_reducible rfl | intro _ | refine And.intro ?_ ?_)
   ·obtain ⟨c, e3, e4, e5⟩ := DF h (done_ 2 (by decide) (by decide))
    obtain ⟨g2, hg2, hi2, hk2⟩ := EN e4
    subst hg2
    have e2 := getD_map av l (i + 1) .top hi2
    have hgd2 : l.getD (i + 1) default = l[i + 1] := by simp [List.getD_eq_getElem?_getD, hi2]
    have hi3 : (i : Int) + 1 < (l.length : Int) := by omega
    have f1 : ((Aq l i).getD 0 0).toNat = i + 1 := by rw [hK, e3]; rfl
    have hr : Ax l kids 5 = true := by
     unfold AE at hn
     split at hn
     ·cases hn
     ·simp at hn; exact hn.2
    have hk5 : (l.getD (i + 1) default).kind = 5 := by
     rw [e3] at hr
     simp only [Ax, Bool.and_eq_true, decide_eq_true_eq] at hr
     simpa using hr.2
    have hn2 := h4 l[i + 1] (List.getElem_mem hi2)
    rw [hgd2] at hk5
    obtain ⟨n1, _, _⟩ := node5 hn2 hk5
    have hK2 : Aq l (i + 1) = l[i + 1].kids := by rw [Aq, hgd2]
    obtain ⟨e6, e7⟩ := G5 hk2 (by rw [hK2]; exact n1)
    have C1 := CT (i + 1 + 1) c (Em _ _ _ _ _ e7)
    have f2 : ((Aq l (i + 1)).getD 0 0).toNat = i + 1 + 1 := by rw [e6]; rfl
    subst e3
    have hL : ksL 8 s T 2 = [bs [], T 1] := by simp [ksL, List.range_succ, EY]
    simp only [exN, Int.reduceEq, if_true, if_false, f1, f2, hgd2] at hSz ⊢
    clear hT hTj
    generalize exS l (g2 + 1) (i + 1 + 1) = A0 at *
    generalize T 1 = A1 at *
    generalize l[i + 1] = m at *
    obtain ⟨k2, pos2, v2, s2, DF, pats2⟩ := m
    rw [As] at e2
    dsimp only at e2 hSz hk5 hK2 ⊢
    have hKe := hK2.symm.trans e6
    subst hKe hk5
    simp only [ByteArray.size_append] at hSz
    simp +contextual -dsimp (maxSteps := 2000000) only [↓SD, SU, simprocAttr, Ab, hL, hi3, e2, Ce, AA]
    repeat' (first | omega | ((try simp only [ByteArray.size_append]); unfold maxLen; omega) | with_reducible rfl | intro _ | refine And.intro ?_ ?_ | (refine Aa _ C1 ?_; simp +contextual -dsimp (maxSteps := 2000000) only [↓SD, SU, simprocAttr, Ab, hL, e2, AA, Ce]))
   ·obtain ⟨c, d, e3, e4, e5, e6⟩ := Aff h (done_ 3 (by decide) (by decide))
    subst e3
    have hL : ksL 9 s T 3 = [T 0, T 1, T 2] := by simp [ksL, List.range_succ, EY]
    simp only [exN, Int.reduceEq, if_true, if_false] at hSz ⊢
    clear hT hTj
    generalize T 0 = A0 at *
    generalize T 1 = A1 at *
    generalize T 2 = A2 at *
    simp only [ByteArray.size_append] at hSz
    simp +contextual -dsimp (maxSteps := 2000000) only [↓SD, SU, simprocAttr, Ab, hL, Ce, AA]
    repeat' (first | omega | ((try simp only [ByteArray.size_append]); unfold maxLen; omega) | with_reducible rfl | intro _ | refine And.intro ?_ ?_)
   ·obtain ⟨c, e3, e4, e5⟩ := DF h (done_ 2 (by decide) (by decide))
    subst e3
    have hL : ksL 10 s T 2 = [T 0, T 1] := by simp [ksL, List.range_succ, EY]
    simp only [exN, Int.reduceEq, if_true, if_false] at hSz ⊢
    clear hT hTj
    generalize T 0 = A0 at *
    generalize T 1 = A1 at *
    simp only [ByteArray.size_append] at hSz
    simp +contextual -dsimp (maxSteps := 2000000) only [↓SD, SU, simprocAttr, Ab, hL, Ce, AA]
    repeat' (first | omega | ((try simp only [ByteArray.size_append]); unfold maxLen; omega) | with_reducible rfl | intro _ | refine And.intro ?_ ?_)
   ·obtain ⟨c, e3, e4, e5⟩ := DF h (done_ 2 (by decide) (by decide))
    subst e3
    have hL : ksL 11 s T 2 = [T 0, T 1] := by simp [ksL, List.range_succ, EY]
    simp only [exN, Int.reduceEq, if_true, if_false] at hSz ⊢
    clear hT hTj
    generalize T 0 = A0 at *
    generalize T 1 = A1 at *
    simp only [ByteArray.size_append] at hSz
    simp +contextual -dsimp (maxSteps := 2000000) only [↓SD, SU, simprocAttr, Ab, hL, Ce, AA]
    repeat' (first | omega | ((try simp only [ByteArray.size_append]); unfold maxLen; omega) | with_reducible rfl | intro _ | refine And.intro ?_ ?_)
   ·obtain rfl := List.eq_nil_of_length_eq_zero (done_ 0 (by decide) (by decide))
    simp only [exN, Int.reduceEq, if_true, if_false] at hSz ⊢
    simp +contextual -dsimp (maxSteps := 2000000) only [↓SD, SU, simprocAttr, Ab]
   ·have hm : Ae.length + 1 = kids.length := by
     unfold AE at hn
     split at hn
     ·cases hn
     ·simp at hn; omega
    have Ao : ∀ m, m < kids.length → ((ksL 13 s T kids.length).map (av : ByteArray → AV)).getD m .top = .str (T m) := fun m hm => by
     have e := getD_map (av : ByteArray → AV) (ksL 13 s T kids.length) m .top (by rw [OU]; exact hm)
     rw [e, Ce]
     simp [ksL, EY]
    have hg0 := Ao 0 (by omega)
    have hkl2 : ((ksL 13 s T kids.length).map (av : ByteArray → AV)).length = kids.length := by rw [List.length_map, OU]
    have hkl3 := OU 13 s T kids.length
    have hk1 : (0 : Int) < (kids.length : Int) := by omega
    have hk2 : 0 < kids.length := by omega
    simp only [exN, Int.reduceEq, if_true, if_false] at hSz ⊢
    clear hT hTj done_
    have hs00 : (bs [40, 109, 97, 116, 99, 104, 32]).size = 7 := rfl
    have hs01 : (bs [32, 119, 105, 116, 104, 32]).size = 6 := rfl
    have hs02 : (bs [32, 124, 32]).size = 3 := rfl
    have hs03 : (bs [32, 45, 62, 32]).size = 4 := rfl
    have hs04 : (bs [32, 101, 110, 100, 41]).size = 5 := rfl
    obtain ⟨s0, hs0⟩ : ∃ s0, s0 = bs [40, 109, 97, 116, 99, 104, 32] ++ T 0 ++ bs [32, 119, 105, 116, 104, 32] := ⟨_, rfl⟩
    have hs0s := congrArg ByteArray.size hs0
    rw [← hs0] at hSz ⊢
    have z1 := QE T Ae s0 0
    generalize hLL : ksL 13 s T kids.length = L at *
    simp only [ByteArray.size_append] at hSz hs0s
    simp +contextual -dsimp (maxSteps := 2000000) only [↓SD, SU, simprocAttr, Ab, hnl, hkl3, hg0, hk1, hk2]
    refine ⟨by unfold maxLen; omega, by simp only [ByteArray.size_append]; unfold maxLen; omega, ?_⟩
    rw [← hs0]
    refine Am (X := Nat × ByteArray) (fun x => ⟨[(6, .row 20 v20 kids.length), (12, .str x.2), (326, .sl (Ae.map av)), (327, .int .i64 Ae.length), (328, .int .i64 x.1)], [(20, ⟨v20, false, 9, 1, L.map av⟩)]⟩) (fun x => x.1 ≤ Ae.length ∧ J3 T x.2 x.1 (Ae.drop x.1) = J3 T s0 0 Ae) (fun x => Ae.length - x.1) (0, s0) ⟨Nat.zero_le _, rfl⟩ (by simp +contextual -dsimp only [↓SD, SU, simprocAttr]) (by simp +contextual -dsimp only [↓SD, SU, simprocAttr]) ?_
    rintro ⟨j, sj⟩ ⟨hj, hq⟩
    dsimp only at hj hq ⊢
    by_cases hlt : j < Ae.length
    ·have e9 := getD_map av Ae j .top hlt
     have hpt := hpat Ae[j] (List.getElem_mem hlt)
     have hpb := Au (List.getElem_mem hlt)
     have hpb2 : Ac.bulk Ae[j] = Ac.bulk Ae[j].nodes + 1 := rfl
     have hpt2 := hpt
     simp only [Et, Bool.and_eq_true] at hpt2
     have CP := Sa Ae[j].nodes hpt (by omega) _ 0 _ (of_decide_eq_true hpt2.1.2)
     rw [show LH Ae[j].nodes (Ae[j].nodes.length + 1) 0 = J5 Ae[j] from rfl] at CP
     rw [List.drop_eq_getElem_cons hlt, J3] at hq
     have hge := QE T (Ae.drop (j + 1)) ((if 0 < j then sj ++ bs [32, 124, 32] else sj) ++ J5 Ae[j] ++ bs [32, 45, 62, 32] ++ T (j + 1)) (j + 1)
     rw [hq] at hge
     have hgj := Ao (j + 1) (by omega)
     have hj1 : (j : Int) + 1 < (kids.length : Int) := by omega
     have hj2 : j + 1 < kids.length := by omega
     have hj3 : ((j : Int) + 1).toNat = j + 1 := by omega
     clear hpt2 hpb2 hpt e1
     generalize Ae[j] = q at *
     obtain ⟨qn⟩ := q
     rw [B7] at e9
     dsimp only at CP e9
     generalize J5 ⟨qn⟩ = P at *
     generalize T (j + 1) = t at *
     by_cases h0 : 0 < j
     ·rw [if_pos h0] at hq hge
      have h0' : (0 : Int) < (j : Int) := by omega
      simp only [ByteArray.size_append] at hge
      simp +contextual -dsimp (maxSteps := 2000000) only [↓SD, SU, simprocAttr, Ab, hlt, e9, h0', hgj, hkl3, hj1, hj2, hj3]
      repeat' (first | omega | ((try simp only [ByteArray.size_append]); unfold maxLen; omega) | with_reducible rfl | intro _ | refine And.intro ?_ ?_ | (refine Aa _ CP ?_; simp +contextual -dsimp (maxSteps := 2000000) only [↓SD, SU, simprocAttr, Ab, hgj, hkl3, hj1, hj2, hj3]) | exact Af.le ⟨(j + 1, _), ⟨⟨hlt, hq⟩, (by first | omega | (simp only; omega))⟩, rfl⟩ (by simp +contextual -dsimp only [↓SD, SU, simprocAttr, Int.natCast_add]) (by simp +contextual -dsimp only [↓SD, SU, simprocAttr]))
     ·rw [if_neg h0] at hq hge
      have h0' : ¬ (0 : Int) < (j : Int) := by omega
      simp only [ByteArray.size_append] at hge
      simp +contextual -dsimp (maxSteps := 2000000) only [↓SD, SU, simprocAttr, Ab, hlt, e9, h0', hgj, hkl3, hj1, hj2, hj3]
      repeat' (first | omega | ((try simp only [ByteArray.size_append]); unfold maxLen; omega) | with_reducible rfl | intro _ | refine And.intro ?_ ?_ | (refine Aa _ CP ?_; simp +contextual -dsimp (maxSteps := 2000000) only [↓SD, SU, simprocAttr, Ab, hgj, hkl3, hj1, hj2, hj3]) | exact Af.le ⟨(j + 1, _), ⟨⟨hlt, hq⟩, (by first | omega | (simp only; omega))⟩, rfl⟩ (by simp +contextual -dsimp only [↓SD, SU, simprocAttr, Int.natCast_add]) (by simp +contextual -dsimp only [↓SD, SU, simprocAttr]))
    ·obtain rfl : j = Ae.length := by omega
     rw [List.drop_length, J3] at hq
     rw [hq]
     simp +contextual -dsimp (maxSteps := 2000000) only [↓SD, SU, simprocAttr, Ab, Nat.lt_irrefl]
     unfold maxLen; omega
   ·obtain ⟨e3, e4⟩ := G5 h (done_ 1 (by decide) (by decide))
    subst e3
    have hL : ksL 14 s T 1 = [T 0] := by simp [ksL, List.range_succ, EY]
    simp only [exN, Int.reduceEq, if_true, if_false] at hSz ⊢
    clear hT hTj
    generalize T 0 = A0 at *
    simp only [ByteArray.size_append] at hSz
    simp +contextual -dsimp (maxSteps := 2000000) only [↓SD, SU, simprocAttr, Ab, hL, Ce, AA]
    repeat' (first | omega | ((try simp only [ByteArray.size_append]); unfold maxLen; omega) | with_reducible rfl | intro _ | refine And.intro ?_ ?_)
   ·obtain ⟨c, e3, e4, e5⟩ := DF h (done_ 2 (by decide) (by decide))
    subst e3
    have hL : ksL 15 s T 2 = [T 0, T 1] := by simp [ksL, List.range_succ, EY]
    simp only [exN, Int.reduceEq, if_true, if_false] at hSz ⊢
    clear hT hTj
    generalize T 0 = A0 at *
    generalize T 1 = A1 at *
    simp only [ByteArray.size_append] at hSz
    simp +contextual -dsimp (maxSteps := 2000000) only [↓SD, SU, simprocAttr, Ab, hL, Ce, AA]
    repeat' (first | omega | ((try simp only [ByteArray.size_append]); unfold maxLen; omega) | with_reducible rfl | intro _ | refine And.intro ?_ ?_)
   ·obtain ⟨e3, e4⟩ := G5 h (done_ 1 (by decide) (by decide))
    subst e3
    have hL : ksL 16 s T 1 = [T 0] := by simp [ksL, List.range_succ, EY]
    simp only [exN, Int.reduceEq, if_true, if_false] at hSz ⊢
    clear hT hTj
    generalize T 0 = A0 at *
    simp only [ByteArray.size_append] at hSz
    simp +contextual -dsimp (maxSteps := 2000000) only [↓SD, SU, simprocAttr, Ab, hL, Ce, AA]
    repeat' (first | omega | ((try simp only [ByteArray.size_append]); unfold maxLen; omega) | with_reducible rfl | intro _ | refine And.intro ?_ ?_)
   ·obtain ⟨e3, e4⟩ := G5 h (done_ 1 (by decide) (by decide))
    subst e3
    have hL : ksL 17 s T 1 = [T 0] := by simp [ksL, List.range_succ, EY]
    simp only [exN, Int.reduceEq, if_true, if_false] at hSz ⊢
    clear hT hTj
    generalize T 0 = A0 at *
    simp only [ByteArray.size_append] at hSz
    simp +contextual -dsimp (maxSteps := 2000000) only [↓SD, SU, simprocAttr, Ab, hL, Ce, AA]
    repeat' (first | omega | ((try simp only [ByteArray.size_append]); unfold maxLen; omega) | with_reducible rfl | intro _ | refine And.intro ?_ ?_)
   ·obtain ⟨c, e3, e4, e5⟩ := DF h (done_ 2 (by decide) (by decide))
    subst e3
    have hL : ksL 18 s T 2 = [T 0, T 1] := by simp [ksL, List.range_succ, EY]
    simp only [exN, Int.reduceEq, if_true, if_false] at hSz ⊢
    clear hT hTj
    generalize T 0 = A0 at *
    generalize T 1 = A1 at *
    simp only [ByteArray.size_append] at hSz
    simp +contextual -dsimp (maxSteps := 2000000) only [↓SD, SU, simprocAttr, Ab, hL, Ce, AA]
    repeat' (first | omega | ((try simp only [ByteArray.size_append]); unfold maxLen; omega) | with_reducible rfl | intro _ | refine And.intro ?_ ?_)
   ·obtain ⟨c, e3, e4, e5⟩ := DF h (done_ 2 (by decide) (by decide))
    subst e3
    have hL : ksL 19 s T 2 = [T 0, T 1] := by simp [ksL, List.range_succ, EY]
    simp only [exN, Int.reduceEq, if_true, if_false] at hSz ⊢
    clear hT hTj
    generalize T 0 = A0 at *
    generalize T 1 = A1 at *
    simp only [ByteArray.size_append] at hSz
    simp +contextual -dsimp (maxSteps := 2000000) only [↓SD, SU, simprocAttr, Ab, hL, Ce, AA]
    repeat' (first | omega | ((try simp only [ByteArray.size_append]); unfold maxLen; omega) | with_reducible rfl | intro _ | refine And.intro ?_ ?_)
end Go.Proofs.YtppjinmlfcokaaaGreat
