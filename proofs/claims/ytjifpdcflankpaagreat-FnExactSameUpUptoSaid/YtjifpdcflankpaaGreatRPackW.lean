/-
 THE GROUND OF DATA, in one text. Conditions: none.
-/
import Derived.Test.YtjifpdcflankpaaGreatRIrB
import Derived.Test.YtjifpdcflankpaaGreatRPackQ
import Derived.Test.YtjifpdcflankpaaGreatRPackA
import Derived.Test.YtjifpdcflankpaaGreatRPackV
import Derived.Test.YtjifpdcflankpaaGreatRPackG

set_option linter.unusedVariables false
set_option linter.unusedSimpArgs false
set_option maxRecDepth 100000
namespace Go.Proofs.YtjifpdcflankpaaGreat
open Go.RowKit Go.Proofs.YtjifpdcflankpaaGreat.Av Go.Proofs.YtjifpdcflankpaaGreat.Ml
open Go.Proofs.YtjifpdcflankpaaGreat.Av.AVal (av)

def ordHp (n : Nat) (g : FuncId) (caps : List AV) (v5 v6 : Nat) (nx : Nat) : Hp :=
 [(5, ⟨v5, false, 3, 1, [.int .i64 nx]⟩), (6, ⟨v6, false, 84, 1, [.fn 158 [.ptr 5 v5 0 0, .obj [.int .i64 n], .obj [.fn g caps], .ptr 6 v6 0 0]]⟩)]
theorem ordHp_as (n : Nat) (g : FuncId) (caps : List AV) (v5 v6 : Nat) (nx : Nat) : ordHp n g caps v5 v6 nx = [(5, ⟨v5, false, 3, 1, [.int .i64 nx]⟩), (6, ⟨v6, false, 84, 1, [.fn 158 [.ptr 5 v5 0 0, .obj [.int .i64 n], .obj [.fn g caps], .ptr 6 v6 0 0]]⟩)] := eqq rfl
def OrdPost (n : Nat) (g : FuncId) (caps : List AV) (v5 v6 : Nat) (o : Option Nat) (r : AV) (hp' : Hp) : Prop :=
 ∃ nx', r = .bool o.isSome ∧ hp' = ordHp n g caps v5 v6 nx' ∧ (∀ m, o = some m → nx' = m)
theorem OrdPost.of {n : Nat} {g : FuncId} {caps : List AV} {v5 v6 nx : Nat} {o : Option Nat} {b : Bool} (h : o.isSome = b) (hm : ∀ m, o = some m → nx = m) : OrdPost n g caps v5 v6 o (.bool b) (ordHp n g caps v5 v6 nx) := ⟨nx, by rw [h], rfl, hm⟩
theorem walk_ok (K : Nat → List Int) (n : Nat) (hn : n ≤ 4294967296) (g : FuncId) (caps : List AV) (hc : ∀ hp, caps.map (AV.pur1 hp) = caps) (hK : ∀ i, i < n → (K i).length ≤ 4294967296 ∧ CallsF Tryz.prog g (.int .i64 i :: caps) (.sl ((K i).map av))) (v5 v6 : Nat) :
  ∀ (f : Nat) (i : Int) (nx : Nat), nx ≤ n → n - nx < f → CallsH Tryz.prog 158 [.int .i64 i, .ptr 5 v5 0 0, .obj [.int .i64 n], .obj [.fn g caps], .ptr 6 v6 0 0] (ordHp n g caps v5 v6 nx) (OrdPost n g caps v5 v6 (walkF K n f i nx)) := by
 intro f
 induction f with
 | zero => intro i nx _ h; omega
 | succ f ih =>
  intro i nx hnx hf
  refine ir_impl_inOrder_1.H rfl ?_
  simp +contextual -dsimp only [↓SD, SU, SB, simprocAttr, ir_impl_inOrder_1, ordHp_as, hc]
  refine ⟨fun hi => ⟨fun hle => ?_, fun hle => ⟨by omega, ?_⟩⟩, fun hi => ?_⟩
  ·refine Goes.post (ordHp n g caps v5 v6 nx) ?_
   simp +contextual -dsimp only [↓SD, SU, SB, simprocAttr, ordHp_as]
   refine OrdPost.of ?_ ?_ <;> simp [walkF, endF, hi, Nat.not_lt.2 hle]
  ·obtain ⟨hk1, hk2⟩ := hK nx (by omega)
   refine aCallK_of _ hk2 ?_
   simp +contextual -dsimp only [↓SD, SU, SB, simprocAttr, map_len]
   refine aLoop_of (X := Nat × Nat) (fun x => ⟨[(4, .ptr 6 v6 0 0), (21, .sl ((K nx).map av)), (22, .int .i64 (K nx).length), (23, .int .i64 x.1)], ordHp n g caps v5 v6 x.2⟩) (fun x => x.1 ≤ (K nx).length ∧ nx < x.2 ∧ x.2 ≤ n ∧ kidsF (endF K n f) (K nx) (nx + 1) = kidsF (endF K n f) ((K nx).drop x.1) x.2) (fun x => (K nx).length - x.1) (0, nx + 1) ⟨Nat.zero_le _, by simp, by simp only; omega, rfl⟩ (by simp +contextual -dsimp only [↓SD, SU, SB, simprocAttr]) (by simp +contextual -dsimp only [↓SD, SU, SB, simprocAttr, ordHp_as, Int.natCast_add]) ?_
   rintro ⟨j, m⟩ ⟨hj, hm1, hm2, he⟩
   simp only at hj hm1 hm2 he
   have hw : walkF K n (f + 1) i nx = kidsF (endF K n f) ((K nx).drop j) m := by
    rw [walkF, if_pos hi, endF, if_pos (by omega), he]
   by_cases hlt : j < (K nx).length
   ·have e := getD_map av (K nx) j .top hlt
    rw [List.drop_eq_getElem_cons hlt, kidsF] at he
    have hw' : walkF K n (f + 1) i nx = match walkF K n f (K nx)[j] m with | some m' => kidsF (endF K n f) ((K nx).drop (j + 1)) m' | none => none := by
     rw [hw, List.drop_eq_getElem_cons hlt, kidsF, walkF]
     split <;> rfl
    have C := ih (K nx)[j] m hm2 (by omega)
    simp +contextual -dsimp only [↓SD, SU, SB, simprocAttr, map_len, e, av_int, hlt, ordHp_as, hc]
    refine aCallH_of [5, 6] C (by simp +contextual -dsimp only [↓SD, SU, SB, simprocAttr, ordHp_as]) ?_
    rintro r hp' ⟨nx', rfl, rfl, hnx'⟩
    cases ho : walkF K n f (K nx)[j] m with
    | none =>
     rw [ho] at hw'
     simp +contextual -dsimp only [↓SD, SU, SB, simprocAttr, ho, Option.isSome_none]
     refine Goes.post (ordHp n g caps v5 v6 nx') ?_
     simp +contextual -dsimp only [↓SD, SU, SB, simprocAttr, ordHp_as]
     rw [hw']
     exact OrdPost.of rfl (fun m h => by cases h)
    | some m' =>
     rw [ho] at hw'
     obtain rfl := hnx' m' ho
     have hm' : m < nx' ∧ nx' ≤ n := by
      unfold walkF at ho
      split at ho
      ·exact end_le K n f m nx' ho
      ·cases ho
     simp +contextual -dsimp only [↓SD, SU, SB, simprocAttr, ho, Option.isSome_some]
     refine ⟨by omega, Goes.le ⟨(j + 1, nx'), ⟨⟨hlt, by simp only; omega, hm'.2, ?_⟩, (by first | omega | (simp only; omega))⟩, rfl⟩ (by simp +contextual -dsimp only [↓SD, SU, SB, simprocAttr, Int.natCast_add]) (by simp +contextual -dsimp only [↓SD, SU, SB, simprocAttr, ordHp_as])⟩
     rw [he]
     simp only at hw' ⊢
     rw [walkF, if_pos hi, endF, if_pos (by omega), he] at hw'
     exact hw'
   ·obtain rfl : j = (K nx).length := by omega
    rw [List.drop_length, kidsF] at hw
    simp +contextual -dsimp only [↓SD, SU, SB, simprocAttr, map_len, Nat.lt_irrefl]
    refine Goes.post (ordHp n g caps v5 v6 m) ?_
    simp +contextual -dsimp only [↓SD, SU, SB, simprocAttr, ordHp_as]
    rw [hw]
    exact OrdPost.of rfl (fun m h => by cases h; rfl)
  ·refine Goes.post (ordHp n g caps v5 v6 nx) ?_
   simp +contextual -dsimp only [↓SD, SU, SB, simprocAttr, ordHp_as]
   refine OrdPost.of ?_ ?_ <;> simp [walkF, hi]

theorem inOrder_ok (K : Nat → List Int) (n : Nat) (hn : n ≤ 4294967296) (g : FuncId) (caps : List AV) (hp : ∀ x ∈ caps, AvPure x) (hc : ∀ hp, caps.map (AV.pur1 hp) = caps) (hK : ∀ i, i < n → (K i).length ≤ 4294967296 ∧ CallsF Tryz.prog g (.int .i64 i :: caps) (.sl ((K i).map av))) :
  CallsF Tryz.prog 115 [.int .i64 n, .fn g caps] (.bool (treeB K n)) := by
 refine ir_impl_inOrder.F rfl (by simp; exact ⟨pint _, AvPure.fn hp⟩) (AvPure.bool _) ?_
 simp +contextual -dsimp only [↓SD, SU, SB, simprocAttr, ir_impl_inOrder, hc]
 intro v5 v6
 have C := walk_ok K n hn g caps hc hK v5 v6 (n + 1) 0 0 (Nat.zero_le _) (by omega)
 refine aCallH_of [5, 6] C (by simp +contextual -dsimp only [↓SD, SU, SB, simprocAttr, ordHp_as]) ?_
 rintro r hp' ⟨nx', rfl, rfl, hnx'⟩
 have e0 : walkF K n (n + 1) 0 0 = endF K n (n + 1) 0 := by rw [walkF, if_pos (by rfl)]
 rw [e0] at hnx' ⊢
 cases ho : endF K n (n + 1) 0 with
 | none =>
  simp +contextual -dsimp only [↓SD, SU, SB, simprocAttr, ho, Option.isSome_none]
  simp [treeB, ho]
 | some m =>
  obtain rfl := hnx' m ho
  simp +contextual -dsimp only [↓SD, SU, SB, simprocAttr, ho, Option.isSome_some, ordHp_as]
  simp [treeB, ho]
end Go.Proofs.YtjifpdcflankpaaGreat

namespace Go.Proofs.YtjifpdcflankpaaGreat
open Go.RowKit Go.Proofs.YtjifpdcflankpaaGreat.Av Go.Proofs.YtjifpdcflankpaaGreat.Ml
open Go.Proofs.YtjifpdcflankpaaGreat.Av.AVal (av)

set_option maxHeartbeats 4000000 in
theorem patNodeOk_ok (l : List PNode) (n : PNode) (hl : l.length ≤ 4294967296) (hk : n.kids.length ≤ 4294967296) (hs : n.s.size ≤ 4294967296) (hin : n.kids.length = 1 → 0 ≤ n.kids.getD 0 0 ∧ n.kids.getD 0 0 < l.length) :
  CallsF Tryz.prog 127 [.agg [.sl (l.map av)], av n] (.bool (pnodeB l n)) := by
 refine ir_impl_patNodeOk.F rfl (by simp; exact ⟨AvPure.agg (by simp; exact lav_clean l), AVal.clean n⟩) (AvPure.bool _) ?_
 obtain ⟨kind, nn, s, kids⟩ := n
 simp only at hk hs hin ⊢
 rcases kids with _ | ⟨k0, _ | ⟨k1, _ | ⟨k2, ks⟩⟩⟩
 case cons.nil =>
  obtain ⟨g0, g1⟩ := hin rfl
  simp only [List.getD_cons_zero] at g0 g1
  have g2 : k0.toNat < l.length := by omega
  have e := av_getD l default g2
  rw [av_PNode] at e
  simp +contextual -dsimp (maxSteps := 2000000) only [↓SD, SU, SB, simprocAttr, ir_impl_patNodeOk, av_PNode, av_int, map_len, g0, g1, g2, e]
  (repeat' (first | intro _ | refine And.intro ?_ ?_))
  all_goals first | omega | skip
  all_goals first | (refine aCallK_of _ (implNameOk_ok _ (by omega)) ?_; simp +contextual -dsimp (maxSteps := 2000000) only [↓SD, SU, SB, simprocAttr, *]; (repeat' (first | intro _ | refine And.intro ?_ ?_))) | (refine aCallK_of _ (within_ok _ _ _) ?_; simp +contextual -dsimp (maxSteps := 2000000) only [↓SD, SU, SB, simprocAttr, *]; (repeat' (first | intro _ | refine And.intro ?_ ?_))) | (refine aCallK_of _ (conShape_ok _ _ _ (by omega)) ?_; simp +contextual -dsimp (maxSteps := 2000000) only [↓SD, SU, SB, simprocAttr, *]; (repeat' (first | intro _ | refine And.intro ?_ ?_))) | skip
  all_goals first | omega | (simp [pnodeB, onlyKind, g0, g1, *]; done) | trace_state
 all_goals
  simp +contextual -dsimp (maxSteps := 2000000) only [↓SD, SU, SB, simprocAttr, ir_impl_patNodeOk, av_PNode, map_len]
  (repeat' (first | intro _ | refine And.intro ?_ ?_))
  all_goals first | omega | skip
  all_goals first | (refine aCallK_of _ (implNameOk_ok _ (by omega)) ?_; simp +contextual -dsimp (maxSteps := 2000000) only [↓SD, SU, SB, simprocAttr, *]; (repeat' (first | intro _ | refine And.intro ?_ ?_))) | (refine aCallK_of _ (within_ok _ _ _) ?_; simp +contextual -dsimp (maxSteps := 2000000) only [↓SD, SU, SB, simprocAttr, *]; (repeat' (first | intro _ | refine And.intro ?_ ?_))) | (refine aCallK_of _ (conShape_ok _ _ _ (by omega)) ?_; simp +contextual -dsimp (maxSteps := 2000000) only [↓SD, SU, SB, simprocAttr, *]; (repeat' (first | intro _ | refine And.intro ?_ ?_))) | skip
  all_goals first | omega | (simp [pnodeB, onlyKind, *]; done) | trace_state

set_option maxHeartbeats 4000000 in
theorem l04PNode_ok (l : List PNode) (n : PNode) (hl : l.length ≤ 4294967296) (hk : n.kids.length ≤ 4294967296) (hs : n.s.size ≤ 4294967296) :
  CallsF Tryz.prog 154 [.agg [.sl (l.map av)], av n] (.bool (pnodeB l n)) := by
 refine ir_spec_l04PNode.F rfl (by simp; exact ⟨AvPure.agg (by simp; exact lav_clean l), AVal.clean n⟩) (AvPure.bool _) ?_
 obtain ⟨kind, nn, s, kids⟩ := n
 simp only at hk hs ⊢
 rcases kids with _ | ⟨k0, _ | ⟨k1, _ | ⟨k2, ks⟩⟩⟩
 case cons.nil =>
  by_cases g : 0 ≤ k0 ∧ k0 < l.length
  ·obtain ⟨g0, g1⟩ := g
   have g2 : k0.toNat < l.length := by omega
   have e := av_getD l default g2
   rw [av_PNode] at e
   simp +contextual -dsimp (maxSteps := 2000000) only [↓SD, SU, SB, simprocAttr, ir_spec_l04PNode, av_PNode, av_int, map_len, g0, g1, g2, e]
   (repeat' (first | intro _ | refine And.intro ?_ ?_))
   all_goals first | omega | skip
   all_goals first | (refine aCallK_of _ (specNameOk_ok _ (by omega)) ?_; simp +contextual -dsimp (maxSteps := 2000000) only [↓SD, SU, SB, simprocAttr, *, map_len]; (repeat' (first | intro _ | refine And.intro ?_ ?_))) | (refine aCallK_of _ (l04ConOk_ok _ _ _ (by omega)) ?_; simp +contextual -dsimp (maxSteps := 2000000) only [↓SD, SU, SB, simprocAttr, *, map_len]; (repeat' (first | intro _ | refine And.intro ?_ ?_))) | skip
   all_goals first | omega | (simp [pnodeB, onlyKind, g0, g1, *]; done) | trace_state
  ·have ho : onlyKind PNode.kind l [k0] 5 = false := onlyKind_out (by simpa using g)
   by_cases g0 : 0 ≤ k0
   case' pos => have g1 : ¬ k0 < l.length := fun h => g ⟨g0, h⟩
   case' pos => simp +contextual -dsimp (maxSteps := 2000000) only [↓SD, SU, SB, simprocAttr, ir_spec_l04PNode, av_PNode, av_int, map_len, g0, g1]
   case' neg => simp +contextual -dsimp (maxSteps := 2000000) only [↓SD, SU, SB, simprocAttr, ir_spec_l04PNode, av_PNode, av_int, map_len, g0]
   all_goals clear g
   all_goals
    (repeat' (first | intro _ | refine And.intro ?_ ?_))
    all_goals first | omega | skip
    all_goals first | (refine aCallK_of _ (specNameOk_ok _ (by omega)) ?_; simp +contextual -dsimp (maxSteps := 2000000) only [↓SD, SU, SB, simprocAttr, *, map_len]; (repeat' (first | intro _ | refine And.intro ?_ ?_))) | (refine aCallK_of _ (l04ConOk_ok _ _ _ (by omega)) ?_; simp +contextual -dsimp (maxSteps := 2000000) only [↓SD, SU, SB, simprocAttr, *, map_len]; (repeat' (first | intro _ | refine And.intro ?_ ?_))) | skip
    all_goals first | omega | (simp [pnodeB, ho, *]; done) | trace_state
 case cons.cons.cons =>
  have q0 : ¬ ((ks.length + 1 + 1 + 1 : Nat) : Int) = 0 := by omega
  have q1 : ¬ ((ks.length + 1 + 1 + 1 : Nat) : Int) = 1 := by omega
  have q2 : ¬ ((ks.length + 1 + 1 + 1 : Nat) : Int) = 2 := by omega
  simp +contextual -dsimp (maxSteps := 2000000) only [↓SD, SU, SB, simprocAttr, ir_spec_l04PNode, av_PNode, map_len, q0, q1, q2]
  (repeat' (first | intro _ | refine And.intro ?_ ?_))
  all_goals first | omega | skip
  all_goals first | (refine aCallK_of _ (specNameOk_ok _ (by omega)) ?_; simp +contextual -dsimp (maxSteps := 2000000) only [↓SD, SU, SB, simprocAttr, *, map_len]; (repeat' (first | intro _ | refine And.intro ?_ ?_))) | (refine aCallK_of _ (l04ConOk_ok _ _ _ (by omega)) ?_; simp +contextual -dsimp (maxSteps := 2000000) only [↓SD, SU, SB, simprocAttr, *, map_len]; (repeat' (first | intro _ | refine And.intro ?_ ?_))) | skip
  all_goals first | omega | (simp [pnodeB, onlyKind, *]; done) | trace_state
 all_goals
  simp +contextual -dsimp (maxSteps := 2000000) only [↓SD, SU, SB, simprocAttr, ir_spec_l04PNode, av_PNode, map_len]
  (repeat' (first | intro _ | refine And.intro ?_ ?_))
  all_goals first | omega | skip
  all_goals first | (refine aCallK_of _ (specNameOk_ok _ (by omega)) ?_; simp +contextual -dsimp (maxSteps := 2000000) only [↓SD, SU, SB, simprocAttr, *, map_len]; (repeat' (first | intro _ | refine And.intro ?_ ?_))) | (refine aCallK_of _ (l04ConOk_ok _ _ _ (by omega)) ?_; simp +contextual -dsimp (maxSteps := 2000000) only [↓SD, SU, SB, simprocAttr, *, map_len]; (repeat' (first | intro _ | refine And.intro ?_ ?_))) | skip
  all_goals first | omega | (simp [pnodeB, onlyKind, *]; done) | trace_state
end Go.Proofs.YtjifpdcflankpaaGreat

namespace Go.Proofs.YtjifpdcflankpaaGreat
open Go.RowKit Go.Proofs.YtjifpdcflankpaaGreat.Av Go.Proofs.YtjifpdcflankpaaGreat.Ml
open Go.Proofs.YtjifpdcflankpaaGreat.Av.AVal (av)

theorem patOk1_ok (l : List PNode) (i : Nat) (hi : i < l.length) : CallsF Tryz.prog 126 [.int .i64 i, .obj [.sl (l.map av)]] (.sl ((pkids l i).map av)) := by
 have hc : AvPure (.obj [.sl (l.map av)]) := AvPure.obj (by simp; exact lav_clean l)
 refine ir_impl_PatOk_1.F rfl (by simp; exact ⟨pint _, hc⟩) (lav_clean _) ?_
 have e := getD_map av l i .top hi
 simp +contextual -dsimp (maxSteps := 2000000) only [↓SD, SU, SB, simprocAttr, ir_impl_PatOk_1, map_len, e, av_PNode, hi, pkids, getD_at hi]

theorem patB_small {l : List PNode} (h : ¬ (1 ≤ (l.length : Int) ∧ (l.length : Int) ≤ 600)) : patB l = false := by
 cases hb : patB l with
 | false => rfl
 | true => simp only [patB, Bool.and_eq_true, decide_eq_true_eq] at hb; exact absurd hb.1.1 h
theorem patB_tree {l : List PNode} (h : treeB (pkids l) l.length = false) : patB l = false := by simp [patB, h]
theorem patB_no {l : List PNode} {k : Nat} (h : k < l.length) (hb : patIB l k = false) : patB l = false := by
 unfold patB; rw [allI_false h hb, Bool.and_false]
theorem patB_of {l : List PNode} (h1 : 1 ≤ l.length) (h2 : l.length ≤ 600) (h3 : treeB (pkids l) l.length = true) (h4 : ∀ k, k < l.length → patIB l k = true) : patB l = true := by
 simp only [patB, Bool.and_eq_true, decide_eq_true_eq, allI_iff]
 exact ⟨⟨by omega, h3⟩, h4⟩

theorem implPatOk_ok (l : List PNode) (hx : Bulk.bulk l ≤ 4294967296) : CallsF Tryz.prog 62 [.agg [.sl (l.map av)]] (.bool (patB l)) := by
 have hl := bulk_length l
 have hc : AvPure (.obj [.sl (l.map av)]) := AvPure.obj (by simp; exact lav_clean l)
 refine ir_impl_PatOk.F rfl (by simp; exact AvPure.agg (by simp; exact lav_clean l)) (AvPure.bool _) ?_
 simp +contextual -dsimp (maxSteps := 2000000) only [↓SD, SU, SB, simprocAttr, ir_impl_PatOk, map_len]
 have C1 := within_ok (l.length : Int) 1 600
 by_cases hsm : 1 ≤ (l.length : Int) ∧ (l.length : Int) ≤ 600
 ·rw [decide_eq_true hsm.1, decide_eq_true hsm.2] at C1
  refine aCallK_of _ C1 ?_
  simp +contextual -dsimp (maxSteps := 2000000) only [↓SD, SU, SB, simprocAttr, map_len]
  have C2 := inOrder_ok (pkids l) l.length (by omega) 126 [.obj [.sl (l.map av)]] (by simp; exact hc) (by intro hp; rfl) (fun i hi => ⟨by
   have := (pnode_small hx i hi).1
   rw [pkids, getD_at hi]; exact this, patOk1_ok l i hi⟩)
  cases ht : treeB (pkids l) l.length with
  | false =>
   rw [ht] at C2
   refine aCallK_of _ C2 ?_
   simp +contextual -dsimp (maxSteps := 2000000) only [↓SD, SU, SB, simprocAttr, patB_tree ht]
  | true =>
   rw [ht] at C2
   refine aCallK_of _ C2 ?_
   simp +contextual -dsimp (maxSteps := 2000000) only [↓SD, SU, SB, simprocAttr, map_len]
   intro v
   refine aLoop_of (X := Nat × Nat) (fun x => ⟨[(1, .obj [.sl (l.map av)]), (3, .row 19 x.2 (varsOf (l.take x.1)).length), (21, .sl (l.map av)), (22, .int .i64 l.length), (23, .int .i64 x.1)], [(19, ⟨x.2, false, 9, 1, (varsOf (l.take x.1)).map av⟩)]⟩) (fun x => x.1 ≤ l.length ∧ ∀ i, i < x.1 → patIB l i = true) (fun x => l.length - x.1) (0, v) ⟨Nat.zero_le _, fun i h => by omega⟩ (by simp +contextual -dsimp only [↓SD, SU, SB, simprocAttr, varsOf, List.filterMap_nil]) (by simp +contextual -dsimp only [↓SD, SU, SB, simprocAttr, varsOf, List.filterMap_nil]) ?_
   rintro ⟨k, u⟩ ⟨hk, hp⟩
   simp only at hk hp
   by_cases hlt : k < l.length
   ·have e := getD_map av l k .top hlt
    obtain ⟨s1, s2⟩ := pnode_small hx k hlt
    have hin : l[k].kids.length = 1 → 0 ≤ l[k].kids.getD 0 0 ∧ l[k].kids.getD 0 0 < l.length := fun h1 => by
     have := tree_in ht hlt (k := l[k].kids.getD 0 0) (by
      simp only [pkids, getD_at hlt]
      rw [getD_at (by omega)]
      exact List.getElem_mem _)
     omega
    have C3 := patNodeOk_ok l l[k] (by omega) (by omega) (by omega) hin
    have C4 := ContainsStr_ok (varsOf (l.take k)) l[k].s (by have := varsOf_len (l.take k); simp at this; omega)
    have hI : patIB l k = (pnodeB l l[k] && !(decide (l[k].kind = 2) && (varsOf (l.take k)).any fun x => decide (l[k].s = x))) := by simp only [patIB, getD_at hlt]
    have hv := varsOf_snoc hlt
    have hvl := varsOf_len (l.take k)
    rw [List.length_take] at hvl
    generalize l[k] = a at *
    rw [av_PNode] at C3
    simp +contextual -dsimp (maxSteps := 2000000) only [↓SD, SU, SB, simprocAttr, map_len, hlt, e, av_PNode]
    intro w
    cases hb : pnodeB l a with
    | false =>
     rw [hb] at C3
     refine aCallK_of _ C3 ?_
     simp +contextual -dsimp (maxSteps := 2000000) only [↓SD, SU, SB, simprocAttr]
     rw [patB_no hlt (by rw [hI, hb]; rfl)]
    | true =>
     rw [hb] at C3
     refine aCallK_of _ C3 ?_
     simp +contextual -dsimp (maxSteps := 2000000) only [↓SD, SU, SB, simprocAttr]
     refine ⟨fun hk2 => ?_, fun hk2 => ?_⟩
     ·refine aCallL_of [19] C4 rfl (by simp +contextual -dsimp only [↓SD, SU, SB, simprocAttr, map_nop, List.take_length, List.length_map]; simp [List.take_of_length_le]) ?_
      simp +contextual -dsimp (maxSteps := 2000000) only [↓SD, SU, SB, simprocAttr, hk2, map_len]
      refine ⟨fun hc => ?_, fun hc => ?_⟩
      ·rw [patB_no hlt (by rw [hI, hb, hk2, hc]; rfl)]
      ·have hIk : patIB l k = true := by rw [hI, hb, hk2, hc]; rfl
       rw [if_pos hk2] at hv
       (repeat' (first | intro _ | refine And.intro ?_ ?_))
       all_goals first | omega | (unfold maxLen; omega) | skip
       rename_i u'
       exact Goes.le ⟨(k + 1, u'), ⟨⟨hlt, fun i hi => (Nat.lt_succ_iff_lt_or_eq.1 hi).elim (hp i) (fun e => e ▸ hIk)⟩, (by first | omega | (simp only; omega))⟩, rfl⟩ (by simp +contextual -dsimp only [↓SD, SU, SB, simprocAttr, Int.natCast_add, hv, List.length_append]) (by simp +contextual -dsimp only [↓SD, SU, SB, simprocAttr, hv, map_nop, take_map, List.map_append, av_str])
     ·have hIk : patIB l k = true := by rw [hI, hb, decide_eq_false hk2]; rfl
      rw [if_neg hk2, List.append_nil] at hv
      refine ⟨by omega, Goes.le ⟨(k + 1, u), ⟨⟨hlt, fun i hi => (Nat.lt_succ_iff_lt_or_eq.1 hi).elim (hp i) (fun e => e ▸ hIk)⟩, (by first | omega | (simp only; omega))⟩, rfl⟩ (by simp +contextual -dsimp only [↓SD, SU, SB, simprocAttr, Int.natCast_add, hv]) (by simp +contextual -dsimp only [↓SD, SU, SB, simprocAttr, hv])⟩
   ·obtain rfl : k = l.length := by omega
    simp +contextual -dsimp (maxSteps := 2000000) only [↓SD, SU, SB, simprocAttr, map_len, Nat.lt_irrefl]
    rw [patB_of (by omega) (by omega) ht hp]
 ·have hf : (decide (1 ≤ (l.length : Int)) && decide ((l.length : Int) ≤ 600)) = false := by
   rw [Bool.and_eq_false_iff, decide_eq_false_iff_not, decide_eq_false_iff_not]; omega
  rw [hf] at C1
  refine aCallK_of _ C1 ?_
  simp +contextual -dsimp (maxSteps := 2000000) only [↓SD, SU, SB, simprocAttr, patB_small hsm]

def endI (o : Option Nat) : Int := match o with | some m => (m : Int) | none => -1
theorem l04PEnd_ok (l : List PNode) (hx : Bulk.bulk l ≤ 4294967296) : ∀ (f i : Nat), l.length - i < f → i ≤ 4294967296 → CallsF Tryz.prog 155 [.agg [.sl (l.map av)], .int .i64 i] (.int .i64 (endI (endF (pkids l) l.length f i))) := by
 have hl := bulk_length l
 intro f
 induction f with
 | zero => intro i h; omega
 | succ f ih =>
  intro i hf hi0
  refine ir_spec_l04PEnd.F rfl (by simp; exact ⟨AvPure.agg (by simp; exact lav_clean l), pint _⟩) (pint _) ?_
  by_cases hi : i < l.length
  ·have e := getD_map av l i .top hi
   have hs := (pnode_small hx i hi).1
   have hK : pkids l i = l[i].kids := by rw [pkids, getD_at hi]
   have hE : endF (pkids l) l.length (f + 1) i = kidsF (endF (pkids l) l.length f) l[i].kids (i + 1) := by rw [endF, if_pos hi, hK]
   rw [hE]
   generalize l[i] = a at *
   simp +contextual -dsimp (maxSteps := 2000000) only [↓SD, SU, SB, simprocAttr, ir_spec_l04PEnd, map_len, hi, e, av_PNode, Nat.not_le]
   refine ⟨by omega, by omega, ?_⟩
   refine aLoop_of (X := Nat × Nat) (fun x => ⟨[(2, .obj [.sl (l.map av)]), (5, .int .i64 x.2), (20, .sl (a.kids.map av)), (21, .int .i64 a.kids.length), (22, .int .i64 x.1)], []⟩) (fun x => x.1 ≤ a.kids.length ∧ i < x.2 ∧ x.2 ≤ l.length ∧ kidsF (endF (pkids l) l.length f) a.kids (i + 1) = kidsF (endF (pkids l) l.length f) (a.kids.drop x.1) x.2) (fun x => a.kids.length - x.1) (0, i + 1) ⟨Nat.zero_le _, by simp, by simp only; omega, rfl⟩ (by simp +contextual -dsimp only [↓SD, SU, SB, simprocAttr, Int.natCast_add]) trivial ?_
   rintro ⟨j, m⟩ ⟨hj, hm1, hm2, he⟩
   simp only at hj hm1 hm2 he
   by_cases hlt : j < a.kids.length
   ·have e2 := getD_map av a.kids j .top hlt
    rw [List.drop_eq_getElem_cons hlt, kidsF] at he
    have C := ih m (by omega) (by omega)
    by_cases hkm : a.kids[j] = (m : Int)
    ·rw [if_pos hkm] at he
     simp +contextual -dsimp (maxSteps := 2000000) only [↓SD, SU, SB, simprocAttr, map_len, hlt, e2, av_int, hkm]
     refine aCallK_of _ C ?_
     cases hm' : endF (pkids l) l.length f m with
     | none =>
      rw [hm'] at he
      simp +contextual -dsimp (maxSteps := 2000000) only [↓SD, SU, SB, simprocAttr, endI]
      rw [he]
     | some m' =>
      rw [hm'] at he
      have := end_le (pkids l) l.length f m m' hm'
      have hneg : ¬ ((m' : Int) < 0) := by omega
      simp +contextual -dsimp (maxSteps := 2000000) only [↓SD, SU, SB, simprocAttr, endI, hneg]
      refine ⟨by omega, Goes.le ⟨(j + 1, m'), ⟨⟨hlt, by simp only; omega, this.2, he⟩, (by first | omega | (simp only; omega))⟩, rfl⟩ (by simp +contextual -dsimp only [↓SD, SU, SB, simprocAttr, Int.natCast_add]) trivial⟩
    ·rw [if_neg hkm] at he
     simp +contextual -dsimp (maxSteps := 2000000) only [↓SD, SU, SB, simprocAttr, map_len, hlt, e2, av_int, hkm]
     rw [he]; rfl
   ·obtain rfl : j = a.kids.length := by omega
    rw [List.drop_length, kidsF] at he
    simp +contextual -dsimp (maxSteps := 2000000) only [↓SD, SU, SB, simprocAttr, map_len, Nat.lt_irrefl]
    rw [he]; rfl
  ·have hE : endF (pkids l) l.length (f + 1) i = none := by rw [endF, if_neg hi]
   have hi' : l.length ≤ i := by omega
   simp +contextual -dsimp (maxSteps := 2000000) only [↓SD, SU, SB, simprocAttr, ir_spec_l04PEnd, map_len, hi', hE]
   rfl

end Go.Proofs.YtjifpdcflankpaaGreat

namespace Go.Proofs.YtjifpdcflankpaaGreat
open Go.RowKit Go.Proofs.YtjifpdcflankpaaGreat.Av Go.Proofs.YtjifpdcflankpaaGreat.Ml
open Go.Proofs.YtjifpdcflankpaaGreat.Av.AVal (av)

theorem varsOf_any {l : List PNode} {i : Nat} (hi : i ≤ l.length) (s : ByteArray) : ((varsOf (l.take i)).any fun x => decide (s = x)) = true ↔ ∃ j, ∃ h : j < l.length, j < i ∧ l[j].kind = 2 ∧ l[j].s = s := by
 rw [List.any_eq_true]
 simp only [varsOf, List.mem_filterMap, decide_eq_true_eq]
 constructor
 ·rintro ⟨x, ⟨n, hn, hx⟩, rfl⟩
  obtain ⟨j, hj, rfl⟩ := List.mem_take_iff_getElem.1 hn
  split at hx
  ·rename_i hk
   exact ⟨j, by omega, by omega, hk, by simpa using hx⟩
  ·cases hx
 ·rintro ⟨j, hj, hji, hk, rfl⟩
  exact ⟨_, ⟨l[j], List.mem_take_iff_getElem.2 ⟨j, by omega, rfl⟩, by simp [hk]⟩, rfl⟩

def NoDup (l : List PNode) (a : PNode) (j : Nat) : Prop := ∀ i, ∀ h : i < l.length, i < j → ¬ (a.kind = 2 ∧ l[i].kind = 2 ∧ l[i].s = a.s)
theorem specPatOk_ok (l : List PNode) (hx : Bulk.bulk l ≤ 4294967296) : CallsF Tryz.prog 110 [.agg [.sl (l.map av)]] (.bool (patB l)) := by
 have hl := bulk_length l
 refine ir_spec_PatOk.F rfl (by simp; exact AvPure.agg (by simp; exact lav_clean l)) (AvPure.bool _) ?_
 simp +contextual -dsimp (maxSteps := 2000000) only [↓SD, SU, SB, simprocAttr, ir_spec_PatOk, map_len]
 refine ⟨fun h1 => ⟨fun h2 => by rw [patB_small (by omega)], fun h2 => ?_⟩, fun h1 => by rw [patB_small (by omega)]⟩
 refine aLoop_of (X := Nat) (fun k => ⟨[(1, .obj [.sl (l.map av)]), (17, .sl (l.map av)), (18, .int .i64 l.length), (19, .int .i64 k)], []⟩) (fun k => k ≤ l.length ∧ ∀ i, i < k → patIB l i = true) (fun k => l.length - k) 0 ⟨Nat.zero_le _, fun i h => by omega⟩ (by simp +contextual -dsimp only [↓SD, SU, SB, simprocAttr]) trivial ?_
 intro k ⟨hk, hp⟩
 by_cases hlt : k < l.length
 ·have e := getD_map av l k .top hlt
  obtain ⟨s1, s2⟩ := pnode_small hx k hlt
  have C3 := l04PNode_ok l l[k] (by omega) (by omega) (by omega)
  have hI : patIB l k = (pnodeB l l[k] && !(decide (l[k].kind = 2) && (varsOf (l.take k)).any fun x => decide (l[k].s = x))) := by simp only [patIB, getD_at hlt]
  have hany := varsOf_any (l := l) (i := k) (by omega) l[k].s
  generalize l[k] = a at *
  rw [av_PNode] at C3
  simp +contextual -dsimp (maxSteps := 2000000) only [↓SD, SU, SB, simprocAttr, map_len, hlt, e, av_PNode]
  intro w
  cases hb : pnodeB l a with
  | false =>
   rw [hb] at C3
   refine aCallK_of _ C3 ?_
   simp +contextual -dsimp (maxSteps := 2000000) only [↓SD, SU, SB, simprocAttr]
   rw [patB_no hlt (by rw [hI, hb]; rfl)]
  | true =>
   rw [hb] at C3
   refine aCallK_of _ C3 ?_
   simp +contextual -dsimp (maxSteps := 2000000) only [↓SD, SU, SB, simprocAttr]
   refine aLoop_of (X := Nat) (fun j => ⟨[(1, .obj [.sl (l.map av)]), (3, .int .i64 k), (4, .ptr 4 w 0 0), (5, .int .i64 j), (17, .sl (l.map av)), (18, .int .i64 l.length), (19, .int .i64 k)], [(4, ⟨w, false, 94, 4, [av a]⟩)]⟩) (fun j => j ≤ k ∧ NoDup l a j) (fun j => k - j) 0 ⟨Nat.zero_le _, fun i _ h => by omega⟩ (by simp +contextual -dsimp only [↓SD, SU, SB, simprocAttr]) (by simp +contextual -dsimp only [↓SD, SU, SB, simprocAttr, av_PNode]) ?_
   intro j ⟨hj, hq⟩
   by_cases hjk : j < k
   ·have hjl : j < l.length := by omega
    have e2 := getD_map av l j .top hjl
    simp +contextual -dsimp (maxSteps := 2000000) only [↓SD, SU, SB, simprocAttr, map_len, hjk, hjl, e2, av_PNode]
    have hq2 : ¬ (a.kind = 2 ∧ l[j].kind = 2 ∧ l[j].s = a.s) → NoDup l a (j + 1) := fun h0 i hi hij => by
     rcases Nat.lt_succ_iff_lt_or_eq.1 hij with h1 | rfl
     ·exact hq i hi h1
     ·exact h0
    (repeat' (first | intro _ | refine And.intro ?_ ?_))
    all_goals first | omega | skip
    ·rename_i g1 g2 g3
     have : ((varsOf (l.take k)).any fun x => decide (a.s = x)) = true := hany.2 ⟨j, hjl, hjk, g2, g3⟩
     rw [patB_no hlt (by rw [hI, hb, g1, this]; rfl)]
    ·rename_i g1 g2 g3
     exact Goes.le ⟨j + 1, ⟨⟨hjk, hq2 (fun h => g3 h.2.2)⟩, (by first | omega | (simp only; omega))⟩, rfl⟩ (by simp +contextual -dsimp only [↓SD, SU, SB, simprocAttr, Int.natCast_add]) (by simp +contextual -dsimp only [↓SD, SU, SB, simprocAttr, av_PNode, g1])
    ·rename_i g1 g2
     exact Goes.le ⟨j + 1, ⟨⟨hjk, hq2 (fun h => g2 h.2.1)⟩, (by first | omega | (simp only; omega))⟩, rfl⟩ (by simp +contextual -dsimp only [↓SD, SU, SB, simprocAttr, Int.natCast_add]) (by simp +contextual -dsimp only [↓SD, SU, SB, simprocAttr, av_PNode, g1])
    ·rename_i g1
     exact Goes.le ⟨j + 1, ⟨⟨hjk, hq2 (fun h => g1 h.1)⟩, (by first | omega | (simp only; omega))⟩, rfl⟩ (by simp +contextual -dsimp only [↓SD, SU, SB, simprocAttr, Int.natCast_add]) (by simp +contextual -dsimp only [↓SD, SU, SB, simprocAttr, av_PNode])
   ·obtain rfl : j = k := by omega
    have hIk : patIB l j = true := by
     rw [hI, hb, Bool.true_and, Bool.not_eq_true', Bool.and_eq_false_iff]
     by_cases g : a.kind = 2
     ·right
      rw [← Bool.not_eq_true, hany]
      rintro ⟨i, h, hi, g2, g3⟩
      exact hq i h hi ⟨g, g2, g3⟩
     ·left; exact decide_eq_false g
    simp +contextual -dsimp (maxSteps := 2000000) only [↓SD, SU, SB, simprocAttr, Nat.lt_irrefl]
    refine ⟨by omega, Goes.le ⟨j + 1, ⟨⟨hlt, fun i hi => (Nat.lt_succ_iff_lt_or_eq.1 hi).elim (hp i) (fun e => e ▸ hIk)⟩, (by first | omega | (simp only; omega))⟩, rfl⟩ (by simp +contextual -dsimp only [↓SD, SU, SB, simprocAttr, Int.natCast_add]) trivial⟩
 ·obtain rfl : k = l.length := by omega
  have C := l04PEnd_ok l hx (l.length + 1) 0 (by omega) (by omega)
  simp +contextual -dsimp (maxSteps := 2000000) only [↓SD, SU, SB, simprocAttr, map_len, Nat.lt_irrefl]
  refine aCallK_of _ C ?_
  simp +contextual -dsimp (maxSteps := 2000000) only [↓SD, SU, SB, simprocAttr, map_len]
  congr 1
  cases ht : treeB (pkids l) l.length with
  | true =>
   rw [patB_of (by omega) (by omega) ht hp]
   unfold treeB at ht
   rw [of_decide_eq_true ht]; simp [endI]
  | false =>
   rw [patB_tree ht]
   unfold treeB at ht
   cases ho : endF (pkids l) l.length (l.length + 1) 0 with
   | none => simp [endI]
   | some m =>
    rw [ho] at ht
    have hne : m ≠ l.length := fun e => by simp [e] at ht
    exact decide_eq_false (by simp only [endI]; omega)

end Go.Proofs.YtjifpdcflankpaaGreat

namespace Go.Proofs.YtjifpdcflankpaaGreat
open Go.RowKit Go.Proofs.YtjifpdcflankpaaGreat.Av Go.Proofs.YtjifpdcflankpaaGreat.Ml
open Go.Proofs.YtjifpdcflankpaaGreat.Av.AVal (av)

theorem IndexFunc_Pat_ok (l : List Pat) (g : FuncId) (caps : List AV) (p : Pat → Bool) (hl : l.length ≤ 1099511627776) (hp : ∀ x ∈ caps, AvPure x) (hc : ∀ hp, caps.map (AV.pur1 hp) = caps) (hg : ∀ x ∈ l, CallsF Tryz.prog g (av x :: caps) (.bool (p x))) :
  CallsF Tryz.prog 125 [.sl (l.map av), .fn g caps] (.int .i64 (indexOf l p)) := by
 refine ir_slices_IndexFunc_impl_Pat_impl_Pat.F rfl (by simp; exact ⟨lav_clean l, AvPure.fn hp⟩) (AvPure.int _ _) ?_
 simp +contextual -dsimp (maxSteps := 2000000) only [↓SD, SU, SB, simprocAttr, ir_slices_IndexFunc_impl_Pat_impl_Pat, map_len]
 refine aLoop_of (X := Nat) (fun k => ⟨[(0, .sl (l.map av)), (1, .fn g caps), (7, .int .i64 l.length), (8, .int .i64 k)], []⟩) (fun k => k ≤ l.length ∧ (l.take k).all (fun x => !p x) = true) (fun k => l.length - k) 0 ⟨Nat.zero_le _, rfl⟩ (by simp +contextual -dsimp only [↓SD, SU, SB, simprocAttr]) trivial ?_
 intro k ⟨hk, hpk⟩
 by_cases hlt : k < l.length
 ·have e := getD_map av l k .top hlt
  have C := hg l[k] (List.getElem_mem hlt)
  rw [av_Pat] at C
  simp +contextual -dsimp (maxSteps := 2000000) only [↓SD, SU, SB, simprocAttr, map_len, e, av_Pat, hlt, hc]
  refine aCallK_of _ C ?_
  simp +contextual -dsimp (maxSteps := 2000000) only [↓SD, SU, SB, simprocAttr]
  refine ⟨fun h1 => by rw [indexOf_at hlt hpk h1], fun h1 => ⟨by omega, ?_⟩⟩
  exact Goes.le ⟨k + 1, ⟨⟨hlt, by rw [all_take' _ hlt hpk, h1]; rfl⟩, (by first | omega | (simp only; omega))⟩, rfl⟩ (by simp +contextual -dsimp only [↓SD, SU, SB, simprocAttr, Int.natCast_add]) trivial
 ·obtain rfl : k = l.length := by omega
  rw [List.take_length] at hpk
  simp +contextual -dsimp (maxSteps := 2000000) only [↓SD, SU, SB, simprocAttr, map_len, Nat.lt_irrefl, indexOf_none hpk]
theorem ContainsFunc_Pat_ok (l : List Pat) (g : FuncId) (caps : List AV) (p : Pat → Bool) (hl : l.length ≤ 1099511627776) (hp : ∀ x ∈ caps, AvPure x) (hc : ∀ hp, caps.map (AV.pur1 hp) = caps) (hg : ∀ x ∈ l, CallsF Tryz.prog g (av x :: caps) (.bool (p x))) :
  CallsF Tryz.prog 60 [.sl (l.map av), .fn g caps] (.bool (l.any p)) := by
 refine ir_slices_ContainsFunc_impl_Pat_impl_Pat.F rfl (by simp; exact ⟨lav_clean l, AvPure.fn hp⟩) (AvPure.bool _) ?_
 simp +contextual -dsimp (maxSteps := 2000000) only [↓SD, SU, SB, simprocAttr, ir_slices_ContainsFunc_impl_Pat_impl_Pat, hc]
 refine aCallK_of _ (IndexFunc_Pat_ok l g caps p hl hp hc hg) ?_
 simp +contextual -dsimp (maxSteps := 2000000) only [↓SD, SU, SB, simprocAttr, indexOf_neg]

end Go.Proofs.YtjifpdcflankpaaGreat

namespace Go.Proofs.YtjifpdcflankpaaGreat
open Go.RowKit Go.Proofs.YtjifpdcflankpaaGreat.Av Go.Proofs.YtjifpdcflankpaaGreat.Ml
open Go.Proofs.YtjifpdcflankpaaGreat.Av.AVal (av)

theorem IndexFunc_Type_ok (l : List TypeD) (g : FuncId) (caps : List AV) (p : TypeD → Bool) (hl : l.length ≤ 1099511627776) (hp : ∀ x ∈ caps, AvPure x) (hc : ∀ hp, caps.map (AV.pur1 hp) = caps) (hg : ∀ x ∈ l, CallsF Tryz.prog g (av x :: caps) (.bool (p x))) :
  CallsF Tryz.prog 162 [.sl (l.map av), .fn g caps] (.int .i64 (indexOf l p)) := by
 refine ir_slices_IndexFunc_impl_Type_impl_Type.F rfl (by simp; exact ⟨lav_clean l, AvPure.fn hp⟩) (AvPure.int _ _) ?_
 simp +contextual -dsimp (maxSteps := 2000000) only [↓SD, SU, SB, simprocAttr, ir_slices_IndexFunc_impl_Type_impl_Type, map_len]
 refine aLoop_of (X := Nat) (fun k => ⟨[(0, .sl (l.map av)), (1, .fn g caps), (7, .int .i64 l.length), (8, .int .i64 k)], []⟩) (fun k => k ≤ l.length ∧ (l.take k).all (fun x => !p x) = true) (fun k => l.length - k) 0 ⟨Nat.zero_le _, rfl⟩ (by simp +contextual -dsimp only [↓SD, SU, SB, simprocAttr]) trivial ?_
 intro k ⟨hk, hpk⟩
 by_cases hlt : k < l.length
 ·have e := getD_map av l k .top hlt
  have C := hg l[k] (List.getElem_mem hlt)
  rw [av_TypeD] at C
  simp +contextual -dsimp (maxSteps := 2000000) only [↓SD, SU, SB, simprocAttr, map_len, e, av_TypeD, hlt, hc]
  refine aCallK_of _ C ?_
  simp +contextual -dsimp (maxSteps := 2000000) only [↓SD, SU, SB, simprocAttr]
  refine ⟨fun h1 => by rw [indexOf_at hlt hpk h1], fun h1 => ⟨by omega, ?_⟩⟩
  exact Goes.le ⟨k + 1, ⟨⟨hlt, by rw [all_take' _ hlt hpk, h1]; rfl⟩, (by first | omega | (simp only; omega))⟩, rfl⟩ (by simp +contextual -dsimp only [↓SD, SU, SB, simprocAttr, Int.natCast_add]) trivial
 ·obtain rfl : k = l.length := by omega
  rw [List.take_length] at hpk
  simp +contextual -dsimp (maxSteps := 2000000) only [↓SD, SU, SB, simprocAttr, map_len, Nat.lt_irrefl, indexOf_none hpk]
theorem ContainsFunc_Type_ok (l : List TypeD) (g : FuncId) (caps : List AV) (p : TypeD → Bool) (hl : l.length ≤ 1099511627776) (hp : ∀ x ∈ caps, AvPure x) (hc : ∀ hp, caps.map (AV.pur1 hp) = caps) (hg : ∀ x ∈ l, CallsF Tryz.prog g (av x :: caps) (.bool (p x))) :
  CallsF Tryz.prog 118 [.sl (l.map av), .fn g caps] (.bool (l.any p)) := by
 refine ir_slices_ContainsFunc_impl_Type_impl_Type.F rfl (by simp; exact ⟨lav_clean l, AvPure.fn hp⟩) (AvPure.bool _) ?_
 simp +contextual -dsimp (maxSteps := 2000000) only [↓SD, SU, SB, simprocAttr, ir_slices_ContainsFunc_impl_Type_impl_Type, hc]
 refine aCallK_of _ (IndexFunc_Type_ok l g caps p hl hp hc hg) ?_
 simp +contextual -dsimp (maxSteps := 2000000) only [↓SD, SU, SB, simprocAttr, indexOf_neg]

end Go.Proofs.YtjifpdcflankpaaGreat

namespace Go.Proofs.YtjifpdcflankpaaGreat
open Go.RowKit Go.Proofs.YtjifpdcflankpaaGreat.Av Go.Proofs.YtjifpdcflankpaaGreat.Ml
open Go.Proofs.YtjifpdcflankpaaGreat.Av.AVal (av)

def headB (x : TyItem) : Bool :=
 if x.name = bs [45, 62] ∨ x.name = bs [42] then decide (x.arity = 2)
 else if x.name = bs [114, 101, 102] then decide (x.arity = 1)
 else nameB x.name
theorem tyName_ok (x : TyItem) (hs : x.name.size ≤ 4294967296) : CallsF Tryz.prog 192 [av x] (.bool (headB x)) := by
 refine ir_impl_tyName.F rfl (by simp; exact AVal.clean x) (AvPure.bool _) ?_
 obtain ⟨v, nm, ar⟩ := x
 simp only at hs ⊢
 simp +contextual -dsimp (maxSteps := 2000000) only [↓SD, SU, SB, simprocAttr, ir_impl_tyName, av_TyItem]
 (repeat' (first | intro _ | refine And.intro ?_ ?_))
 all_goals first | (refine aCallK_of _ (implNameOk_ok _ (by omega)) ?_; simp +contextual -dsimp (maxSteps := 2000000) only [↓SD, SU, SB, simprocAttr, *]) | skip
 all_goals first | (simp [headB, *]; done) | (rename_i h; simp [headB, h]; intros; simp_all [bs]; done) | (simp_all [headB, bs]; done) | trace_state
theorem item_small {l : List TyItem} (hx : Bulk.bulk l ≤ 4294967296) {x : TyItem} (hn : x ∈ l) : x.name.size ≤ 4294967296 := by
 have h1 := bulk_mem hn
 have h2 : Bulk.bulk x = Bulk.bulk x.var + Bulk.bulk x.name + Bulk.bulk x.arity + 1 := rfl
 have h4 : Bulk.bulk x.name = x.name.size + 1 := rfl
 omega
theorem itemB_head {x : TyItem} (hn : ¬ x.name = bs []) (hv : x.var = 0) : itemB x = ((decide (0 ≤ x.arity) && decide (x.arity ≤ 2)) && headB x) := by
 unfold itemB headB
 rw [if_neg hn, if_pos hv]
 split
 ·by_cases h : x.arity = 2 <;> simp [h]
 ·split
  ·by_cases h : x.arity = 1 <;> simp [h]
  ·rw [Bool.and_comm]

theorem arL_drop {l : List TyItem} {k : Nat} (h : k < l.length) : arL (l.drop k) = l[k].arity.toNat :: arL (l.drop (k + 1)) := by
 rw [List.drop_eq_getElem_cons h]; rfl
theorem tyItemsB_no {l : List TyItem} {k : Nat} (h : k < l.length) (hb : itemB l[k] = false) : tyItemsB l = false := by
 unfold tyItemsB; rw [all_false' _ h hb]; rfl
set_option maxHeartbeats 1000000 in
theorem tyOk_ok (l : List TyItem) (hx : Bulk.bulk l ≤ 4294967296) : CallsF Tryz.prog 181 [.sl (l.map av)] (.bool (tyItemsB l)) := by
 have hl := bulk_length l
 refine ir_impl_tyOk.F rfl (by simp; exact lav_clean l) (AvPure.bool _) ?_
 simp +contextual -dsimp (maxSteps := 2000000) only [↓SD, SU, SB, simprocAttr, ir_impl_tyOk, map_len]
 refine aLoop_of (X := Nat × Nat) (fun x => ⟨[(3, .int .i64 x.2), (6, .sl (l.map av)), (7, .int .i64 l.length), (8, .int .i64 x.1)], []⟩) (fun x => x.1 ≤ l.length ∧ (l.take x.1).all itemB = true ∧ x.2 ≤ 1 + 2 * x.1 ∧ skipT 1 (arL l) = skipT x.2 (arL (l.drop x.1))) (fun x => l.length - x.1) (0, 1) ⟨Nat.zero_le _, rfl, by simp, rfl⟩ (by simp +contextual -dsimp only [↓SD, SU, SB, simprocAttr]) trivial ?_
 rintro ⟨k, c⟩ ⟨hk, hp, hc, he⟩
 simp only at hk hp hc he
 by_cases hlt : k < l.length
 ·have e := getD_map av l k .top hlt
  have hs := item_small hx (List.getElem_mem hlt)
  rw [arL_drop hlt] at he
  have hbad : itemB l[k] = false → tyItemsB l = false := tyItemsB_no hlt
  have hgood : itemB l[k] = true → (l.take (k + 1)).all itemB = true := fun h => by rw [all_take' _ hlt hp]; exact h
  have CH := tyName_ok l[k] hs
  have hi := @itemB_head l[k]
  have hia := @itemB_ar l[k]
  generalize l[k] = x at *
  obtain ⟨var, nm, ar⟩ := x
  simp only at hs he hi hia
  rw [av_TyItem] at CH
  cases c with
  | zero =>
   rw [skipT_zero] at he
   have hno : tyItemsB l = false := by unfold tyItemsB; rw [he]; simp
   simp +contextual -dsimp (maxSteps := 2000000) only [↓SD, SU, SB, simprocAttr, map_len, hlt, e, av_TyItem]
   rw [hno]
  | succ c =>
   rw [skipT_cons] at he
   have hc0 : ¬ ((c + 1 : Nat) : Int) = 0 := by omega
   have hc1 : ((c + 1 : Nat) : Int) - 1 = c := by omega
   by_cases hn : nm = bs []
   ·have hib : itemB ⟨var, nm, ar⟩ = ((decide (0 ≤ var) && decide (var ≤ 9999)) && decide (ar = 0)) := by simp [itemB, hn]
    subst hn
    have CW := within_ok var 0 9999
    by_cases hw : 0 ≤ var ∧ var ≤ 9999
    ·rw [decide_eq_true hw.1, decide_eq_true hw.2] at CW hib
     by_cases har : ar = 0
     ·subst har
      simp +contextual -dsimp (maxSteps := 2000000) only [↓SD, SU, SB, simprocAttr, map_len, hlt, e, av_TyItem, hc0, hc1]
      intro v
      refine ⟨by omega, ?_⟩
      refine aCallK_of _ CW ?_
      simp +contextual -dsimp (maxSteps := 2000000) only [↓SD, SU, SB, simprocAttr]
      exact ⟨by omega, Goes.le ⟨(k + 1, c), ⟨⟨hlt, hgood (by rw [hib]; rfl), by simp only; omega, by simpa using he⟩, (by first | omega | (simp only; omega))⟩, rfl⟩ (by simp +contextual -dsimp only [↓SD, SU, SB, simprocAttr, Int.natCast_add]) trivial⟩
     ·simp +contextual -dsimp (maxSteps := 2000000) only [↓SD, SU, SB, simprocAttr, map_len, hlt, e, av_TyItem, hc0, hc1, har]
      intro v
      refine ⟨by omega, ?_⟩
      refine aCallK_of _ CW ?_
      simp +contextual -dsimp (maxSteps := 2000000) only [↓SD, SU, SB, simprocAttr, har]
      rw [hbad (by rw [hib, decide_eq_false har]; rfl)]
    ·have hf : (decide (0 ≤ var) && decide (var ≤ 9999)) = false := by
      rw [Bool.and_eq_false_iff, decide_eq_false_iff_not, decide_eq_false_iff_not]; omega
     rw [hf] at CW hib
     simp +contextual -dsimp (maxSteps := 2000000) only [↓SD, SU, SB, simprocAttr, map_len, hlt, e, av_TyItem, hc0, hc1]
     intro v
     refine ⟨by omega, ?_⟩
     refine aCallK_of _ CW ?_
     simp +contextual -dsimp (maxSteps := 2000000) only [↓SD, SU, SB, simprocAttr]
     rw [hbad (by rw [hib]; rfl)]
   ·by_cases hv : var = 0
    ·subst hv
     have hib := hi hn rfl
     have CW := within_ok ar 0 2
     by_cases hr : 0 ≤ ar ∧ ar ≤ 2
     ·rw [decide_eq_true hr.1, decide_eq_true hr.2] at CW hib
      have hca : ((c : Nat) : Int) + ar = ((ar.toNat + c : Nat) : Int) := by omega
      cases hh : headB ⟨0, nm, ar⟩ with
      | false =>
       rw [hh] at CH hib
       simp +contextual -dsimp (maxSteps := 2000000) only [↓SD, SU, SB, simprocAttr, map_len, hlt, e, av_TyItem, hc0, hc1, hn]
       intro v
       refine ⟨by omega, ?_⟩
       refine aCallK_of _ CW ?_
       simp +contextual -dsimp (maxSteps := 2000000) only [↓SD, SU, SB, simprocAttr]
       refine aCallK_of _ CH ?_
       simp +contextual -dsimp (maxSteps := 2000000) only [↓SD, SU, SB, simprocAttr]
       rw [hbad (by rw [hib]; rfl)]
      | true =>
       rw [hh] at CH hib
       simp +contextual -dsimp (maxSteps := 2000000) only [↓SD, SU, SB, simprocAttr, map_len, hlt, e, av_TyItem, hc0, hc1, hn]
       intro v
       refine ⟨by omega, ?_⟩
       refine aCallK_of _ CW ?_
       simp +contextual -dsimp (maxSteps := 2000000) only [↓SD, SU, SB, simprocAttr]
       refine aCallK_of _ CH ?_
       simp +contextual -dsimp (maxSteps := 2000000) only [↓SD, SU, SB, simprocAttr, hca]
       refine ⟨by omega, by omega, Goes.le ⟨(k + 1, ar.toNat + c), ⟨⟨hlt, hgood (by rw [hib]; rfl), by simp only; omega, he⟩, (by first | omega | (simp only; omega))⟩, rfl⟩ (by simp +contextual -dsimp only [↓SD, SU, SB, simprocAttr, Int.natCast_add]) trivial⟩
     ·have hf : (decide (0 ≤ ar) && decide (ar ≤ 2)) = false := by
       rw [Bool.and_eq_false_iff, decide_eq_false_iff_not, decide_eq_false_iff_not]; omega
      rw [hf] at CW hib
      simp +contextual -dsimp (maxSteps := 2000000) only [↓SD, SU, SB, simprocAttr, map_len, hlt, e, av_TyItem, hc0, hc1, hn]
      intro v
      refine ⟨by omega, ?_⟩
      refine aCallK_of _ CW ?_
      simp +contextual -dsimp (maxSteps := 2000000) only [↓SD, SU, SB, simprocAttr]
      rw [hbad (by rw [hib]; rfl)]
    ·simp +contextual -dsimp (maxSteps := 2000000) only [↓SD, SU, SB, simprocAttr, map_len, hlt, e, av_TyItem, hc0, hc1, hn, hv]
     (repeat' (first | intro _ | refine And.intro ?_ ?_))
     all_goals first | omega | skip
     rw [hbad (by simp [itemB, hn, hv])]
 ·obtain rfl : k = l.length := by omega
  rw [List.take_length] at hp
  rw [List.drop_length] at he
  simp +contextual -dsimp (maxSteps := 2000000) only [↓SD, SU, SB, simprocAttr, map_len, Nat.lt_irrefl]
  congr 1
  unfold tyItemsB
  rw [he, hp, Bool.true_and]
  cases c with
  | zero => simp [skipT_zero, arL]
  | succ c => simp [arL, skipT_nil]; omega

theorem tyB_big {l : List TyItem} (h : ¬ (l.length : Int) ≤ 200) : tyB l = false := by unfold tyB; rw [decide_eq_false h]; rfl
theorem implTyOk_ok (l : List TyItem) (hx : Bulk.bulk l ≤ 4294967296) : CallsF Tryz.prog 164 [.agg [.sl (l.map av)]] (.bool (tyB l)) := by
 have hl := bulk_length l
 refine ir_impl_TyOk.F rfl (by simp; exact AvPure.agg (by simp; exact lav_clean l)) (AvPure.bool _) ?_
 by_cases h : (l.length : Int) ≤ 200
 ·simp +contextual -dsimp (maxSteps := 2000000) only [↓SD, SU, SB, simprocAttr, ir_impl_TyOk, map_len, h]
  refine aCallK_of _ (tyOk_ok l hx) ?_
  simp +contextual -dsimp (maxSteps := 2000000) only [↓SD, SU, SB, simprocAttr]
  unfold tyB; rw [decide_eq_true h]; rfl
 ·simp +contextual -dsimp (maxSteps := 2000000) only [↓SD, SU, SB, simprocAttr, ir_impl_TyOk, map_len, h]
  rw [tyB_big h]

theorem l04Item_ok (x : TyItem) (hs : x.name.size ≤ 4294967296) : CallsF Tryz.prog 152 [av x] (.bool (itemB x)) := by
 refine ir_spec_l04Item.F rfl (by simp; exact AVal.clean x) (AvPure.bool _) ?_
 obtain ⟨v, nm, ar⟩ := x
 simp only at hs ⊢
 by_cases hn : nm = bs []
 ·subst hn
  simp +contextual -dsimp (maxSteps := 2000000) only [↓SD, SU, SB, simprocAttr, ir_spec_l04Item, av_TyItem]
  (repeat' (first | intro _ | refine And.intro ?_ ?_))
  all_goals simp [itemB, *]
 ·by_cases hv : v = 0
  ·subst hv
   have hib := itemB_head (x := ⟨0, nm, ar⟩) hn rfl
   rw [hib]
   simp +contextual -dsimp (maxSteps := 2000000) only [↓SD, SU, SB, simprocAttr, ir_spec_l04Item, av_TyItem, hn]
   (repeat' (first | intro _ | refine And.intro ?_ ?_))
   all_goals first | (refine aCallK_of _ (specNameOk_ok _ (by omega)) ?_; simp +contextual -dsimp (maxSteps := 2000000) only [↓SD, SU, SB, simprocAttr, *]; (repeat' (first | intro _ | refine And.intro ?_ ?_))) | skip
   all_goals first | (simp [headB, *]; done) | (rename_i h; subst h; simp [headB]; done) | (simp_all [headB]; done) | trace_state
  ·simp +contextual -dsimp (maxSteps := 2000000) only [↓SD, SU, SB, simprocAttr, ir_spec_l04Item, av_TyItem, hn, hv]
   simp [itemB, hn, hv]

theorem endT_le (A : List Nat) : ∀ (f p m : Nat), endT A f p = some m → p < m ∧ m ≤ A.length := by
 intro f
 induction f with
 | zero => intro p m h; cases h
 | succ f ih =>
  intro p m h
  have hit : ∀ c q m, q ≤ A.length → iterT (endT A f) c q = some m → q ≤ m ∧ m ≤ A.length := by
   intro c
   induction c with
   | zero => intro q m hq h; cases h; exact ⟨Nat.le_refl _, hq⟩
   | succ c ihc =>
    intro q m hq h
    rw [iterT] at h
    cases he : endT A f q with
    | none => rw [he] at h; cases h
    | some r =>
     rw [he] at h
     have h1 := ih q r he
     have h2 := ihc r m h1.2 h
     omega
  unfold endT at h
  split at h
  ·have := hit _ _ _ (by omega) h; omega
  ·cases h
theorem l04End_ok (l : List TyItem) (hx : Bulk.bulk l ≤ 4294967296) (hi : l.all itemB = true) : ∀ (f p : Nat), l.length - p < f → p ≤ 4294967296 → CallsF Tryz.prog 153 [.agg [.sl (l.map av)], .int .i64 p] (.int .i64 (endI (endT (arL l) f p))) := by
 have hl := bulk_length l
 have hA : (arL l).length = l.length := by simp [arL]
 intro f
 induction f with
 | zero => intro p h; omega
 | succ f ih =>
  intro p hf hp0
  refine ir_spec_l04End.F rfl (by simp; exact ⟨AvPure.agg (by simp; exact lav_clean l), pint _⟩) (pint _) ?_
  by_cases hp : p < l.length
  ·have e := getD_map av l p .top hp
   have hit := itemB_ar (List.all_eq_true.1 hi l[p] (List.getElem_mem hp))
   have hE : endT (arL l) (f + 1) p = iterT (endT (arL l) f) l[p].arity.toNat (p + 1) := by
    rw [endT, if_pos (by omega)]
    congr 1
    simp [arL, List.getD_eq_getElem?_getD, hp]
   rw [hE]
   generalize l[p] = a at *
   obtain ⟨var, nm, ar⟩ := a
   simp only at hit ⊢
   have hp' : ¬ l.length ≤ p := by omega
   simp +contextual -dsimp (maxSteps := 2000000) only [↓SD, SU, SB, simprocAttr, ir_spec_l04End, map_len, hp, hp', e, av_TyItem]
   (repeat' (first | intro _ | refine And.intro ?_ ?_))
   all_goals first | omega | skip
   refine aLoop_of (X := Nat × Option Nat) (fun x => ⟨[(1, .int .i64 p), (2, .obj [.sl (l.map av)]), (5, .int .i64 (endI x.2)), (6, .int .i64 x.1)], []⟩) (fun x => x.1 ≤ ar.toNat ∧ (∀ q, x.2 = some q → p < q ∧ q ≤ l.length) ∧ iterT (endT (arL l) f) ar.toNat (p + 1) = x.2.bind (iterT (endT (arL l) f) (ar.toNat - x.1))) (fun x => ar.toNat - x.1) (0, some (p + 1)) ⟨Nat.zero_le _, fun q h => by cases h; omega, rfl⟩ (by simp +contextual -dsimp only [↓SD, SU, SB, simprocAttr, endI, Int.natCast_add]) trivial ?_
   rintro ⟨i, o⟩ ⟨hi1, hq, he⟩
   simp only at hi1 hq he
   have hii : decide ((i : Int) < ar) = decide (i < ar.toNat) := by congr 1; apply propext; omega
   cases o with
   | none =>
    simp +contextual -dsimp (maxSteps := 2000000) only [↓SD, SU, SB, simprocAttr, map_len, hp, e, av_TyItem, endI]
    rw [he]
    exact ⟨fun _ => rfl, fun _ => rfl⟩
   | some q =>
    obtain ⟨q1, q2⟩ := hq q rfl
    have hq0 : (0 : Int) ≤ q := by omega
    by_cases hlt : (i : Int) < ar
    ·have C := ih q (by omega) (by omega)
     have hstep : iterT (endT (arL l) f) ar.toNat (p + 1) = (endT (arL l) f q).bind (iterT (endT (arL l) f) (ar.toNat - (i + 1))) := by
      rw [he, show ar.toNat - i = (ar.toNat - (i + 1)) + 1 by omega]
      rfl
     have hle := endT_le (arL l) f q
     simp +contextual -dsimp (maxSteps := 2000000) only [↓SD, SU, SB, simprocAttr, map_len, hp, e, av_TyItem, endI, hlt, hq0]
     refine aCallK_of _ C ?_
     simp +contextual -dsimp (maxSteps := 2000000) only [↓SD, SU, SB, simprocAttr]
     refine ⟨by omega, Goes.le ⟨(i + 1, endT (arL l) f q), ⟨⟨by simp only; omega, fun m hm => by have := hle m hm; omega, hstep⟩, (by first | omega | (simp only; omega))⟩, rfl⟩ (by simp +contextual -dsimp only [↓SD, SU, SB, simprocAttr, Int.natCast_add]) trivial⟩
    ·obtain rfl : i = ar.toNat := by omega
     rw [Nat.sub_self] at he
     have he' : iterT (endT (arL l) f) ar.toNat (p + 1) = some q := by rw [he]; rfl
     simp +contextual -dsimp (maxSteps := 2000000) only [↓SD, SU, SB, simprocAttr, map_len, hp, e, av_TyItem, endI, hlt, hq0]
     rw [he']
  ·have hE : endT (arL l) (f + 1) p = none := by rw [endT, if_neg (by omega)]
   have hp' : l.length ≤ p := by omega
   simp +contextual -dsimp (maxSteps := 2000000) only [↓SD, SU, SB, simprocAttr, ir_spec_l04End, map_len, hp', hE]
   (repeat' (first | intro _ | refine And.intro ?_ ?_))
   all_goals first | omega | rfl

theorem specTyOk_ok (l : List TyItem) (hx : Bulk.bulk l ≤ 4294967296) : CallsF Tryz.prog 107 [.agg [.sl (l.map av)]] (.bool (tyB l)) := by
 have hl := bulk_length l
 have hA : (arL l).length = l.length := by simp [arL]
 refine ir_spec_TyOk.F rfl (by simp; exact AvPure.agg (by simp; exact lav_clean l)) (AvPure.bool _) ?_
 simp +contextual -dsimp (maxSteps := 2000000) only [↓SD, SU, SB, simprocAttr, ir_spec_TyOk, map_len]
 refine ⟨fun h => by rw [tyB_big (by omega)], fun h => ?_⟩
 refine aLoop_of (X := Nat) (fun k => ⟨[(1, .obj [.sl (l.map av)]), (10, .sl (l.map av)), (11, .int .i64 l.length), (12, .int .i64 k)], []⟩) (fun k => k ≤ l.length ∧ (l.take k).all itemB = true) (fun k => l.length - k) 0 ⟨Nat.zero_le _, rfl⟩ (by simp +contextual -dsimp only [↓SD, SU, SB, simprocAttr]) trivial ?_
 rintro k ⟨hk, hp⟩
 by_cases hlt : k < l.length
 ·have e := getD_map av l k .top hlt
  have C := l04Item_ok l[k] (item_small hx (List.getElem_mem hlt))
  rw [av_TyItem] at C
  simp +contextual -dsimp (maxSteps := 2000000) only [↓SD, SU, SB, simprocAttr, map_len, hlt, e, av_TyItem]
  intro v
  refine aCallK_of _ C ?_
  simp +contextual -dsimp (maxSteps := 2000000) only [↓SD, SU, SB, simprocAttr]
  refine ⟨fun hb => ?_, fun hb => ⟨by omega, Goes.le ⟨k + 1, ⟨⟨hlt, by rw [all_take' _ hlt hp]; exact hb⟩, (by first | omega | (simp only; omega))⟩, rfl⟩ (by simp +contextual -dsimp only [↓SD, SU, SB, simprocAttr, Int.natCast_add]) trivial⟩⟩
  unfold tyB; rw [tyItemsB_no hlt hb, Bool.and_false]
 ·obtain rfl : k = l.length := by omega
  rw [List.take_length] at hp
  have C := l04End_ok l hx hp (l.length + 1) 0 (by omega) (by omega)
  simp +contextual -dsimp (maxSteps := 2000000) only [↓SD, SU, SB, simprocAttr, map_len, Nat.lt_irrefl]
  refine aCallK_of _ C ?_
  simp +contextual -dsimp (maxSteps := 2000000) only [↓SD, SU, SB, simprocAttr, map_len]
  congr 1
  rw [endT_skip _ _ _ (by omega), List.drop_zero]
  unfold tyB tyItemsB
  rw [hp, decide_eq_true (p := (l.length : Int) ≤ 200) (by omega), Bool.true_and, Bool.true_and, hA]
  cases hs : skipT 1 (arL l) with
  | none =>
   rw [decide_eq_false (p := (none : Option (List Nat)) = some []) (by simp)]
   exact decide_eq_false (by simp only [Option.map_none, endI]; omega)
  | some r =>
   have := skipT_len _ _ _ hs
   rw [hA] at this
   cases r with
   | nil => simp [endI]
   | cons a r =>
    have h0 : ((a :: r).length) = r.length + 1 := rfl
    rw [decide_eq_false (p := some (a :: r) = some []) (by simp)]
    exact decide_eq_false (by simp only [Option.map_some, endI]; omega)

end Go.Proofs.YtjifpdcflankpaaGreat
