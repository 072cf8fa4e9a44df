/-
 RIGHT VALUES: what the program's and the reference's DataOk tell, by abstract texts. Conditions: none.
-/
import Derived.Test.YteeiaaogmjbcjaaGreatHJ11
import Derived.Test.YteeiaaogmjbcjaaGreatHJ06
set_option linter.unusedVariables false
set_option linter.unusedSimpArgs false
set_option maxRecDepth 100000
namespace Go.Proofs.YteeiaaogmjbcjaaGreat
open Go.RowKit Go.Proofs.YteeiaaogmjbcjaaGreat.Av Go.Proofs.YteeiaaogmjbcjaaGreat.Ml
open Go.Proofs.YteeiaaogmjbcjaaGreat.Av.AVal (av)

def dnodeB (l : List DNode) (n : DNode) : Bool :=
 if n.kind = 6 then decide (n.kids.length = 0) && decide (n.n = 0) && decide (n.s = bs [])
 else if n.kind = 2 then decide (n.kids.length = 0) && decide (n.n = 0)
 else if n.kind = 3 then decide (n.kids.length = 0) && decide (n.s = bs []) && (decide (-4611686018427387904 ≤ n.n) && decide (n.n ≤ 4611686018427387903))
 else if n.kind = 4 then decide (n.n = 0) && shapeB n.s n.kids.length (onlyKind DNode.kind l n.kids 5)
 else if n.kind = 5 then decide (n.kids.length = 2) && decide (n.n = 0) && decide (n.s = bs [])
 else false
def dkids (l : List DNode) (i : Nat) : List Int := (l.getD i default).kids
def dataB (l : List DNode) : Bool := (decide (1 ≤ (l.length : Int)) && decide ((l.length : Int) ≤ 600)) && treeB (dkids l) l.length && l.all (dnodeB l)
theorem dnode_small {l : List DNode} (hx : Bulk.bulk l ≤ 1048576) (k : Nat) (hk : k < l.length) : l[k].kids.length ≤ 1048576 ∧ l[k].s.size ≤ 1048576 := by
 have h1 := bulk_mem (List.getElem_mem hk)
 have h2 : Bulk.bulk l[k] = Bulk.bulk l[k].kind + Bulk.bulk l[k].n + Bulk.bulk l[k].s + Bulk.bulk l[k].kids + 1 := rfl
 have h3 := bulk_length l[k].kids
 have h4 : Bulk.bulk l[k].s = l[k].s.size + 1 := rfl
 omega
theorem dataB_small {l : List DNode} (h : ¬ (1 ≤ (l.length : Int) ∧ (l.length : Int) ≤ 600)) : dataB l = false := by
 cases hb : dataB l with
 | false => rfl
 | true => simp only [dataB, Bool.and_eq_true, decide_eq_true_eq] at hb; exact absurd hb.1.1 h
theorem dataB_tree {l : List DNode} (h : treeB (dkids l) l.length = false) : dataB l = false := by simp [dataB, h]
theorem dataB_no {l : List DNode} {k : Nat} (h : k < l.length) (hb : dnodeB l l[k] = false) : dataB l = false := by
 unfold dataB; rw [all_false' _ h hb, Bool.and_false]
theorem dataB_of {l : List DNode} (h1 : 1 ≤ l.length) (h2 : l.length ≤ 600) (h3 : treeB (dkids l) l.length = true) : dataB l = l.all (dnodeB l) := by
 rw [dataB, h3, decide_eq_true (by omega), decide_eq_true (by omega)]; simp

set_option maxHeartbeats 4000000 in
theorem dataNodeOk_ok (l : List DNode) (n : DNode) (hl : l.length ≤ 1048576) (hk : n.kids.length ≤ 1048576) (hs : n.s.size ≤ 1048576) (hin : n.kids.length = 1 → 0 ≤ n.kids.getD 0 0 ∧ n.kids.getD 0 0 < l.length) :
  CallsF Tryz.prog 64 [.agg [.sl (l.map av)], av n] (.bool (dnodeB l n)) := by
 refine ir_impl_dataNodeOk.F rfl (by simp; exact ⟨AvPure.agg (by simp; exact lav_clean l), AVal.clean n⟩) (AvPure.bool _) ?_
 obtain ⟨kind, nn, s, kids⟩ := n
 simp only at hk hs hin ⊢
 rcases kids with _ | ⟨k0, _ | ⟨k1, _ | ⟨k2, ks⟩⟩⟩
 case cons.nil =>
  obtain ⟨g0, g1⟩ := hin rfl
  simp only [List.getD_cons_zero] at g0 g1
  have g2 : k0.toNat < l.length := by omega
  have e := av_getD l default g2
  rw [av_DNode] at e
  simp +contextual -dsimp (maxSteps := 2000000) only [↓SD, SU, SB, simprocAttr, ir_impl_dataNodeOk, av_DNode, av_int, map_len, g0, g1, g2, e]
  (repeat' (first | intro _ | refine And.intro ?_ ?_))
  all_goals first | omega | skip
  all_goals first | (refine aCallK_of _ (within_ok _ _ _) ?_; simp +contextual -dsimp (maxSteps := 2000000) only [↓SD, SU, SB, simprocAttr, *]; (repeat' (first | intro _ | refine And.intro ?_ ?_))) | (refine aCallK_of _ (conShape_ok _ _ _ (by omega)) ?_; simp +contextual -dsimp (maxSteps := 2000000) only [↓SD, SU, SB, simprocAttr, *]; (repeat' (first | intro _ | refine And.intro ?_ ?_))) | skip
  all_goals first | omega | (simp [dnodeB, onlyKind, g0, g1, *]; done) | trace_state
 case cons.cons.cons =>
  have q0 : ¬ ((ks.length + 1 + 1 + 1 : Nat) : Int) = 0 := by omega
  have q1 : ¬ ((ks.length + 1 + 1 + 1 : Nat) : Int) = 1 := by omega
  have q2 : ¬ ((ks.length + 1 + 1 + 1 : Nat) : Int) = 2 := by omega
  simp +contextual -dsimp (maxSteps := 2000000) only [↓SD, SU, SB, simprocAttr, ir_impl_dataNodeOk, av_DNode, map_len, q0, q1, q2]
  (repeat' (first | intro _ | refine And.intro ?_ ?_))
  all_goals first | omega | skip
  all_goals first | (refine aCallK_of _ (within_ok _ _ _) ?_; simp +contextual -dsimp (maxSteps := 2000000) only [↓SD, SU, SB, simprocAttr, *, map_len]; (repeat' (first | intro _ | refine And.intro ?_ ?_))) | (refine aCallK_of _ (conShape_ok _ _ _ (by omega)) ?_; simp +contextual -dsimp (maxSteps := 2000000) only [↓SD, SU, SB, simprocAttr, *, map_len]; (repeat' (first | intro _ | refine And.intro ?_ ?_))) | skip
  all_goals first | omega | (simp [dnodeB, onlyKind, *]; done) | trace_state
 all_goals
  simp +contextual -dsimp (maxSteps := 2000000) only [↓SD, SU, SB, simprocAttr, ir_impl_dataNodeOk, av_DNode, map_len]
  (repeat' (first | intro _ | refine And.intro ?_ ?_))
  all_goals first | omega | skip
  all_goals first | (refine aCallK_of _ (within_ok _ _ _) ?_; simp +contextual -dsimp (maxSteps := 2000000) only [↓SD, SU, SB, simprocAttr, *]; (repeat' (first | intro _ | refine And.intro ?_ ?_))) | (refine aCallK_of _ (conShape_ok _ _ _ (by omega)) ?_; simp +contextual -dsimp (maxSteps := 2000000) only [↓SD, SU, SB, simprocAttr, *]; (repeat' (first | intro _ | refine And.intro ?_ ?_))) | skip
  all_goals first | omega | (simp [dnodeB, onlyKind, *]; done) | trace_state

theorem dataOk1_ok (l : List DNode) (i : Nat) (hi : i < l.length) : CallsF Tryz.prog 61 [.int .i64 i, .obj [.sl (l.map av)]] (.sl ((dkids l i).map av)) := by
 have hc : AvPure (.obj [.sl (l.map av)]) := AvPure.obj (by simp; exact lav_clean l)
 refine ir_impl_DataOk_1.F rfl (by simp; exact ⟨pint _, hc⟩) (lav_clean _) ?_
 have e := getD_map av l i .top hi
 simp +contextual -dsimp (maxSteps := 2000000) only [↓SD, SU, SB, simprocAttr, ir_impl_DataOk_1, map_len, e, av_DNode, hi, dkids, getD_at hi]
theorem dataOk2_ok (l : List DNode) (n : DNode) (hl : l.length ≤ 1048576) (hk : n.kids.length ≤ 1048576) (hs : n.s.size ≤ 1048576) (hin : n.kids.length = 1 → 0 ≤ n.kids.getD 0 0 ∧ n.kids.getD 0 0 < l.length) :
  CallsF Tryz.prog 63 [av n, .obj [.sl (l.map av)]] (.bool (!dnodeB l n)) := by
 have hc : AvPure (.obj [.sl (l.map av)]) := AvPure.obj (by simp; exact lav_clean l)
 refine ir_impl_DataOk_2.F rfl (by simp; exact ⟨AVal.clean n, hc⟩) (AvPure.bool _) ?_
 have C := dataNodeOk_ok l n hl hk hs hin
 rw [av_DNode] at C
 simp +contextual -dsimp (maxSteps := 2000000) only [↓SD, SU, SB, simprocAttr, ir_impl_DataOk_2, av_DNode]
 refine aCallK_of _ C ?_
 simp +contextual -dsimp (maxSteps := 2000000) only [↓SD, SU, SB, simprocAttr]

theorem implDataOk_ok (l : List DNode) (hx : Bulk.bulk l ≤ 1048576) : CallsF Tryz.prog 29 [.agg [.sl (l.map av)]] (.bool (dataB l)) := by
 have hl := bulk_length l
 have hc : AvPure (.obj [.sl (l.map av)]) := AvPure.obj (by simp; exact lav_clean l)
 refine ir_impl_DataOk.F rfl (by simp; exact AvPure.agg (by simp; exact lav_clean l)) (AvPure.bool _) ?_
 simp +contextual -dsimp (maxSteps := 2000000) only [↓SD, SU, SB, simprocAttr, ir_impl_DataOk, map_len]
 have C1 := within_ok (l.length : Int) 1 600
 by_cases hsm : 1 ≤ (l.length : Int) ∧ (l.length : Int) ≤ 600
 ·rw [decide_eq_true hsm.1, decide_eq_true hsm.2] at C1
  refine aCallK_of _ C1 ?_
  simp +contextual -dsimp (maxSteps := 2000000) only [↓SD, SU, SB, simprocAttr, map_len]
  have C2 := inOrder_ok (dkids l) l.length (by omega) 61 [.obj [.sl (l.map av)]] (by simp; exact hc) (by intro hp; rfl) (fun i hi => ⟨by
   have := (dnode_small hx i hi).1
   rw [dkids, getD_at hi]; exact this, dataOk1_ok l i hi⟩)
  cases ht : treeB (dkids l) l.length with
  | false =>
   rw [ht] at C2
   refine aCallK_of _ C2 ?_
   simp +contextual -dsimp (maxSteps := 2000000) only [↓SD, SU, SB, simprocAttr, dataB_tree ht]
  | true =>
   rw [ht] at C2
   refine aCallK_of _ C2 ?_
   simp +contextual -dsimp (maxSteps := 2000000) only [↓SD, SU, SB, simprocAttr, map_len]
   have C3 := ContainsFunc_DNode_ok l 63 [.obj [.sl (l.map av)]] (fun n => !dnodeB l n) (by omega) (by simp; exact hc) (by intro hp; rfl) (fun n hn => by
    obtain ⟨k, hk, rfl⟩ := List.mem_iff_getElem.1 hn
    obtain ⟨s1, s2⟩ := dnode_small hx k hk
    refine dataOk2_ok l _ (by omega) (by omega) (by omega) (fun h1 => ?_)
    have := tree_in ht hk (k := l[k].kids.getD 0 0) (by
     simp only [dkids, getD_at hk]
     rw [getD_at (by omega)]
     exact List.getElem_mem _)
    omega)
   refine aCallK_of _ C3 ?_
   simp +contextual -dsimp (maxSteps := 2000000) only [↓SD, SU, SB, simprocAttr]
   congr 1
   rw [dataB_of (by omega) (by omega) ht, List.all_eq_not_any_not]
 ·have hf : (decide (1 ≤ (l.length : Int)) && decide ((l.length : Int) ≤ 600)) = false := by
   rw [Bool.and_eq_false_iff, decide_eq_false_iff_not, decide_eq_false_iff_not]; omega
  rw [hf] at C1
  refine aCallK_of _ C1 ?_
  simp +contextual -dsimp (maxSteps := 2000000) only [↓SD, SU, SB, simprocAttr, dataB_small hsm]
end Go.Proofs.YteeiaaogmjbcjaaGreat
