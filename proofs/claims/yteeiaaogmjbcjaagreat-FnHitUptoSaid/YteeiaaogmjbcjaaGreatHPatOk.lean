/-
 PatOk OF THE PROGRAM AND OF THE REFERENCE, by abstract texts. Conditions: none.
-/
import Derived.Test.YteeiaaogmjbcjaaGreatHJ09
set_option linter.unusedVariables false
set_option linter.unusedSimpArgs false
set_option maxRecDepth 100000
namespace Go.Proofs.YteeiaaogmjbcjaaGreat
open Go.RowKit Go.Proofs.YteeiaaogmjbcjaaGreat.Av Go.Proofs.YteeiaaogmjbcjaaGreat.Ml
open Go.Proofs.YteeiaaogmjbcjaaGreat.Av.AVal (av)

theorem patOk1_ok (l : List PNode) (i : Nat) (hi : i < l.length) : CallsF Tryz.prog 58 [.int .i64 i, .obj [.sl (l.map av)]] (.sl ((pkids l i).map av)) := by
 have hc : AvPure (.obj [.sl (l.map av)]) := AvPure.obj (by simp; exact lav_clean l)
 refine ir_impl_PatOk_1.F rfl (by simp; exact ⟨pint _, hc⟩) (lav_clean _) ?_
 have e := getD_map av l i .top hi
 simp +contextual -dsimp (maxSteps := 2000000) only [↓SD, SU, SB, simprocAttr, ir_impl_PatOk_1, map_len, e, av_PNode, hi, pkids, getD_at hi]

theorem patB_small {l : List PNode} (h : ¬ (1 ≤ (l.length : Int) ∧ (l.length : Int) ≤ 600)) : patB l = false := by
 cases hb : patB l with
 | false => rfl
 | true => simp only [patB, Bool.and_eq_true, decide_eq_true_eq] at hb; exact absurd hb.1.1 h
theorem patB_tree {l : List PNode} (h : treeB (pkids l) l.length = false) : patB l = false := by simp [patB, h]
theorem patB_no {l : List PNode} {k : Nat} (h : k < l.length) (hb : patIB l k = false) : patB l = false := by
 unfold patB; rw [allI_false h hb, Bool.and_false]
theorem patB_at {l : List PNode} (h : patB l = true) : (1 ≤ l.length ∧ l.length ≤ 600) ∧ treeB (pkids l) l.length = true ∧ ∀ k, k < l.length → patIB l k = true := by
 simp only [patB, Bool.and_eq_true, decide_eq_true_eq, allI_iff] at h
 exact ⟨by omega, h.1.2, h.2⟩
theorem patB_of {l : List PNode} (h1 : 1 ≤ l.length) (h2 : l.length ≤ 600) (h3 : treeB (pkids l) l.length = true) (h4 : ∀ k, k < l.length → patIB l k = true) : patB l = true := by
 simp only [patB, Bool.and_eq_true, decide_eq_true_eq, allI_iff]
 exact ⟨⟨by omega, h3⟩, h4⟩

theorem implPatOk_ok (l : List PNode) (hx : Bulk.bulk l ≤ 1048576) : CallsF Tryz.prog 28 [.agg [.sl (l.map av)]] (.bool (patB l)) := by
 have hl := bulk_length l
 have hc : AvPure (.obj [.sl (l.map av)]) := AvPure.obj (by simp; exact lav_clean l)
 refine ir_impl_PatOk.F rfl (by simp; exact AvPure.agg (by simp; exact lav_clean l)) (AvPure.bool _) ?_
 simp +contextual -dsimp (maxSteps := 2000000) only [↓SD, SU, SB, simprocAttr, ir_impl_PatOk, map_len]
 have C1 := within_ok (l.length : Int) 1 600
 by_cases hsm : 1 ≤ (l.length : Int) ∧ (l.length : Int) ≤ 600
 ·rw [decide_eq_true hsm.1, decide_eq_true hsm.2] at C1
  refine aCallK_of _ C1 ?_
  simp +contextual -dsimp (maxSteps := 2000000) only [↓SD, SU, SB, simprocAttr, map_len]
  have C2 := inOrder_ok (pkids l) l.length (by omega) 58 [.obj [.sl (l.map av)]] (by simp; exact hc) (by intro hp; rfl) (fun i hi => ⟨by
   have := (pnode_small hx i hi).1
   rw [pkids, getD_at hi]; exact this, patOk1_ok l i hi⟩)
  cases ht : treeB (pkids l) l.length with
  | false =>
   rw [ht] at C2
   refine aCallK_of _ C2 ?_
   simp +contextual -dsimp (maxSteps := 2000000) only [↓SD, SU, SB, simprocAttr, patB_tree ht]
  | true =>
   rw [ht] at C2
   refine aCallK_of _ C2 ?_
   simp +contextual -dsimp (maxSteps := 2000000) only [↓SD, SU, SB, simprocAttr, map_len]
   intro v
   refine aLoop_of (X := Nat × Nat) (fun x => ⟨[(1, .obj [.sl (l.map av)]), (3, .row 19 x.2 (varsOf (l.take x.1)).length), (21, .sl (l.map av)), (22, .int .i64 l.length), (23, .int .i64 x.1)], [(19, ⟨x.2, false, 9, 1, (varsOf (l.take x.1)).map av⟩)]⟩) (fun x => x.1 ≤ l.length ∧ ∀ i, i < x.1 → patIB l i = true) (fun x => l.length - x.1) (0, v) ⟨Nat.zero_le _, fun i h => by omega⟩ (by simp +contextual -dsimp only [↓SD, SU, SB, simprocAttr, varsOf, List.filterMap_nil]) (by simp +contextual -dsimp only [↓SD, SU, SB, simprocAttr, varsOf, List.filterMap_nil]) ?_
   rintro ⟨k, u⟩ ⟨hk, hp⟩
   simp only at hk hp
   by_cases hlt : k < l.length
   ·have e := getD_map av l k .top hlt
    obtain ⟨s1, s2⟩ := pnode_small hx k hlt
    have hin : l[k].kids.length = 1 → 0 ≤ l[k].kids.getD 0 0 ∧ l[k].kids.getD 0 0 < l.length := fun h1 => by
     have := tree_in ht hlt (k := l[k].kids.getD 0 0) (by
      simp only [pkids, getD_at hlt]
      rw [getD_at (by omega)]
      exact List.getElem_mem _)
     omega
    have C3 := patNodeOk_ok l l[k] (by omega) (by omega) (by omega) hin
    have C4 := ContainsStr_ok (varsOf (l.take k)) l[k].s (by have := varsOf_len (l.take k); simp at this; omega)
    have hI : patIB l k = (pnodeB l l[k] && !(decide (l[k].kind = 2) && (varsOf (l.take k)).any fun x => decide (l[k].s = x))) := by simp only [patIB, getD_at hlt]
    have hv := varsOf_snoc hlt
    have hvl := varsOf_len (l.take k)
    rw [List.length_take] at hvl
    generalize l[k] = a at *
    rw [av_PNode] at C3
    simp +contextual -dsimp (maxSteps := 2000000) only [↓SD, SU, SB, simprocAttr, map_len, hlt, e, av_PNode]
    intro w
    cases hb : pnodeB l a with
    | false =>
     rw [hb] at C3
     refine aCallK_of _ C3 ?_
     simp +contextual -dsimp (maxSteps := 2000000) only [↓SD, SU, SB, simprocAttr]
     rw [patB_no hlt (by rw [hI, hb]; rfl)]
    | true =>
     rw [hb] at C3
     refine aCallK_of _ C3 ?_
     simp +contextual -dsimp (maxSteps := 2000000) only [↓SD, SU, SB, simprocAttr]
     refine ⟨fun hk2 => ?_, fun hk2 => ?_⟩
     ·refine aCallL_of [19] C4 rfl (by simp +contextual -dsimp only [↓SD, SU, SB, simprocAttr, map_nop, List.take_length, List.length_map]; simp [List.take_of_length_le]) ?_
      simp +contextual -dsimp (maxSteps := 2000000) only [↓SD, SU, SB, simprocAttr, hk2, map_len]
      refine ⟨fun hc => ?_, fun hc => ?_⟩
      ·rw [patB_no hlt (by rw [hI, hb, hk2, hc]; rfl)]
      ·have hIk : patIB l k = true := by rw [hI, hb, hk2, hc]; rfl
       rw [if_pos hk2] at hv
       (repeat' (first | intro _ | refine And.intro ?_ ?_))
       all_goals first | omega | (unfold maxLen; omega) | skip
       rename_i u'
       exact Goes.le ⟨(k + 1, u'), ⟨⟨hlt, fun i hi => (Nat.lt_succ_iff_lt_or_eq.1 hi).elim (hp i) (fun e => e ▸ hIk)⟩, (by first | omega | (simp only; omega))⟩, rfl⟩ (by simp +contextual -dsimp only [↓SD, SU, SB, simprocAttr, Int.natCast_add, hv, List.length_append]) (by simp +contextual -dsimp only [↓SD, SU, SB, simprocAttr, hv, map_nop, take_map, List.map_append, av_str])
     ·have hIk : patIB l k = true := by rw [hI, hb, decide_eq_false hk2]; rfl
      rw [if_neg hk2, List.append_nil] at hv
      refine ⟨by omega, Goes.le ⟨(k + 1, u), ⟨⟨hlt, fun i hi => (Nat.lt_succ_iff_lt_or_eq.1 hi).elim (hp i) (fun e => e ▸ hIk)⟩, (by first | omega | (simp only; omega))⟩, rfl⟩ (by simp +contextual -dsimp only [↓SD, SU, SB, simprocAttr, Int.natCast_add, hv]) (by simp +contextual -dsimp only [↓SD, SU, SB, simprocAttr, hv])⟩
   ·obtain rfl : k = l.length := by omega
    simp +contextual -dsimp (maxSteps := 2000000) only [↓SD, SU, SB, simprocAttr, map_len, Nat.lt_irrefl]
    rw [patB_of (by omega) (by omega) ht hp]
 ·have hf : (decide (1 ≤ (l.length : Int)) && decide ((l.length : Int) ≤ 600)) = false := by
   rw [Bool.and_eq_false_iff, decide_eq_false_iff_not, decide_eq_false_iff_not]; omega
  rw [hf] at C1
  refine aCallK_of _ C1 ?_
  simp +contextual -dsimp (maxSteps := 2000000) only [↓SD, SU, SB, simprocAttr, patB_small hsm]

def endI (o : Option Nat) : Int := match o with | some m => (m : Int) | none => -1
theorem l04PEnd_ok (l : List PNode) (hx : Bulk.bulk l ≤ 1048576) : ∀ (f i : Nat), l.length - i < f → i ≤ 1048576 → CallsF Tryz.prog 37 [.agg [.sl (l.map av)], .int .i64 i] (.int .i64 (endI (endF (pkids l) l.length f i))) := by
 have hl := bulk_length l
 intro f
 induction f with
 | zero => intro i h; omega
 | succ f ih =>
  intro i hf hi0
  refine ir_spec_l04PEnd.F rfl (by simp; exact ⟨AvPure.agg (by simp; exact lav_clean l), pint _⟩) (pint _) ?_
  by_cases hi : i < l.length
  ·have e := getD_map av l i .top hi
   have hs := (pnode_small hx i hi).1
   have hK : pkids l i = l[i].kids := by rw [pkids, getD_at hi]
   have hE : endF (pkids l) l.length (f + 1) i = kidsF (endF (pkids l) l.length f) l[i].kids (i + 1) := by rw [endF, if_pos hi, hK]
   rw [hE]
   generalize l[i] = a at *
   simp +contextual -dsimp (maxSteps := 2000000) only [↓SD, SU, SB, simprocAttr, ir_spec_l04PEnd, map_len, hi, e, av_PNode, Nat.not_le]
   refine ⟨by omega, by omega, ?_⟩
   refine aLoop_of (X := Nat × Nat) (fun x => ⟨[(2, .obj [.sl (l.map av)]), (5, .int .i64 x.2), (20, .sl (a.kids.map av)), (21, .int .i64 a.kids.length), (22, .int .i64 x.1)], []⟩) (fun x => x.1 ≤ a.kids.length ∧ i < x.2 ∧ x.2 ≤ l.length ∧ kidsF (endF (pkids l) l.length f) a.kids (i + 1) = kidsF (endF (pkids l) l.length f) (a.kids.drop x.1) x.2) (fun x => a.kids.length - x.1) (0, i + 1) ⟨Nat.zero_le _, by simp, by simp only; omega, rfl⟩ (by simp +contextual -dsimp only [↓SD, SU, SB, simprocAttr, Int.natCast_add]) trivial ?_
   rintro ⟨j, m⟩ ⟨hj, hm1, hm2, he⟩
   simp only at hj hm1 hm2 he
   by_cases hlt : j < a.kids.length
   ·have e2 := getD_map av a.kids j .top hlt
    rw [List.drop_eq_getElem_cons hlt, kidsF] at he
    have C := ih m (by omega) (by omega)
    by_cases hkm : a.kids[j] = (m : Int)
    ·rw [if_pos hkm] at he
     simp +contextual -dsimp (maxSteps := 2000000) only [↓SD, SU, SB, simprocAttr, map_len, hlt, e2, av_int, hkm]
     refine aCallK_of _ C ?_
     cases hm' : endF (pkids l) l.length f m with
     | none =>
      rw [hm'] at he
      simp +contextual -dsimp (maxSteps := 2000000) only [↓SD, SU, SB, simprocAttr, endI]
      rw [he]
     | some m' =>
      rw [hm'] at he
      have := end_le (pkids l) l.length f m m' hm'
      have hneg : ¬ ((m' : Int) < 0) := by omega
      simp +contextual -dsimp (maxSteps := 2000000) only [↓SD, SU, SB, simprocAttr, endI, hneg]
      refine ⟨by omega, Goes.le ⟨(j + 1, m'), ⟨⟨hlt, by simp only; omega, this.2, he⟩, (by first | omega | (simp only; omega))⟩, rfl⟩ (by simp +contextual -dsimp only [↓SD, SU, SB, simprocAttr, Int.natCast_add]) trivial⟩
    ·rw [if_neg hkm] at he
     simp +contextual -dsimp (maxSteps := 2000000) only [↓SD, SU, SB, simprocAttr, map_len, hlt, e2, av_int, hkm]
     rw [he]; rfl
   ·obtain rfl : j = a.kids.length := by omega
    rw [List.drop_length, kidsF] at he
    simp +contextual -dsimp (maxSteps := 2000000) only [↓SD, SU, SB, simprocAttr, map_len, Nat.lt_irrefl]
    rw [he]; rfl
  ·have hE : endF (pkids l) l.length (f + 1) i = none := by rw [endF, if_neg hi]
   have hi' : l.length ≤ i := by omega
   simp +contextual -dsimp (maxSteps := 2000000) only [↓SD, SU, SB, simprocAttr, ir_spec_l04PEnd, map_len, hi', hE]
   rfl

end Go.Proofs.YteeiaaogmjbcjaaGreat
