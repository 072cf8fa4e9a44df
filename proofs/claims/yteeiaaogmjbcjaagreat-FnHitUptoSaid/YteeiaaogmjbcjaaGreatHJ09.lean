/-
 RIGHT PATTERNS AND VALUES, told plainly. Conditions: none.
-/
import Derived.Test.YteeiaaogmjbcjaaGreatHWords
import Derived.Test.YteeiaaogmjbcjaaGreatHJ07
import Derived.Test.YteeiaaogmjbcjaaGreatHJ06
import Derived.Test.YteeiaaogmjbcjaaGreatProg
import Derived.Test.YteeiaaogmjbcjaaGreatHAvDraw
set_option linter.unusedVariables false
namespace Go.Proofs.YteeiaaogmjbcjaaGreat
open Go.RowKit Go.Proofs.YteeiaaogmjbcjaaGreat.Av Go.Proofs.YteeiaaogmjbcjaaGreat.Ml
open Go.Proofs.YteeiaaogmjbcjaaGreat.Av.AVal (av)

def onlyKind {α : Type} [Inhabited α] (kd : α → Int) (l : List α) (kids : List Int) (d : Int) : Bool :=
 match kids with
 | [k] => decide (0 ≤ k) && decide (k < l.length) && decide (kd (l.getD k.toNat default) = d)
 | _ => false
def pnodeB (l : List PNode) (n : PNode) : Bool :=
 if n.kind = 1 ∨ n.kind = 6 then decide (n.kids.length = 0) && decide (n.n = 0) && decide (n.s = bs [])
 else if n.kind = 2 then decide (n.kids.length = 0) && decide (n.n = 0) && nameB n.s
 else if n.kind = 3 then decide (n.kids.length = 0) && decide (n.s = bs []) && (decide (-4611686018427387903 ≤ n.n) && decide (n.n ≤ 4611686018427387903))
 else if n.kind = 4 then decide (n.n = 0) && shapeB n.s n.kids.length (onlyKind PNode.kind l n.kids 5)
 else if n.kind = 5 then decide (n.kids.length = 2) && decide (n.n = 0) && decide (n.s = bs [])
 else false
def varsOf (l : List PNode) : List ByteArray := l.filterMap fun n => if n.kind = 2 then some n.s else none
def patIB (l : List PNode) (i : Nat) : Bool := pnodeB l (l.getD i default) && !(decide ((l.getD i default).kind = 2) && (varsOf (l.take i)).any fun x => decide ((l.getD i default).s = x))
def pkids (l : List PNode) (i : Nat) : List Int := (l.getD i default).kids
def patB (l : List PNode) : Bool := (decide (1 ≤ (l.length : Int)) && decide ((l.length : Int) ≤ 600)) && treeB (pkids l) l.length && allI (patIB l) l.length
theorem onlyKind_out {α : Type} [Inhabited α] {kd : α → Int} {l : List α} {kids : List Int} {d : Int} (h : ¬ (0 ≤ kids.getD 0 0 ∧ kids.getD 0 0 < l.length)) : onlyKind kd l kids d = false := by
 unfold onlyKind; split
 ·rename_i k
  simp only [List.getD_cons_zero] at h
  by_cases h0 : 0 ≤ k
  ·have : ¬ k < l.length := fun h1 => h ⟨h0, h1⟩
   simp [this]
  ·simp [h0]
 ·rfl
theorem varsOf_snoc {l : List PNode} {k : Nat} (h : k < l.length) : varsOf (l.take (k + 1)) = varsOf (l.take k) ++ (if l[k].kind = 2 then [l[k].s] else []) := by
 rw [List.take_succ_eq_append_getElem h, varsOf, List.filterMap_append]
 congr 1
 split <;> simp_all
theorem pnode_small {l : List PNode} (hx : Bulk.bulk l ≤ 1048576) (k : Nat) (hk : k < l.length) : l[k].kids.length ≤ 1048576 ∧ l[k].s.size ≤ 1048576 := by
 have h1 := bulk_mem (List.getElem_mem hk)
 have h2 : Bulk.bulk l[k] = Bulk.bulk l[k].kind + Bulk.bulk l[k].n + Bulk.bulk l[k].s + Bulk.bulk l[k].kids + 1 := rfl
 have h3 := bulk_length l[k].kids
 have h4 : Bulk.bulk l[k].s = l[k].s.size + 1 := rfl
 omega
theorem varsOf_len (l : List PNode) : (varsOf l).length ≤ l.length := List.length_filterMap_le _ _
end Go.Proofs.YteeiaaogmjbcjaaGreat
set_option linter.unusedVariables false
set_option maxRecDepth 100000
namespace Go.Proofs.YteeiaaogmjbcjaaGreat
open Go.Proofs.YteeiaaogmjbcjaaGreat.Av

theorem follows_Tree : Tryz.prog.follows .mixedOrders = true := by kernel_rfl

def ir_impl_inOrder : Ir Tryz.prog 57 [(9,7777)] [] 2 := ⟨_, _, Tryz.func57, follows_Tree, by kernel_rfl, low_of [] Tryz.progTables (by conv => lhs; cbv) (by kernel_rfl)⟩
def ir_impl_inOrder_1 : Ir Tryz.prog 87 [(29,7777)] [9999] 5 := ⟨_, _, Tryz.func87, follows_Tree, by kernel_rfl, low_of [] Tryz.progTables (by conv => lhs; cbv) (by kernel_rfl)⟩
end Go.Proofs.YteeiaaogmjbcjaaGreat
set_option linter.unusedVariables false
set_option linter.unusedSimpArgs false
set_option maxRecDepth 100000
namespace Go.Proofs.YteeiaaogmjbcjaaGreat
open Go.RowKit Go.Proofs.YteeiaaogmjbcjaaGreat.Av Go.Proofs.YteeiaaogmjbcjaaGreat.Ml
open Go.Proofs.YteeiaaogmjbcjaaGreat.Av.AVal (av)

def ordHp (n : Nat) (g : FuncId) (caps : List AV) (v5 v6 : Nat) (nx : Nat) : Hp :=
 [(5, ⟨v5, false, 3, 1, [.int .i64 nx]⟩), (6, ⟨v6, false, 140, 1, [.fn 87 [.ptr 5 v5 0 0, .obj [.int .i64 n], .obj [.fn g caps], .ptr 6 v6 0 0]]⟩)]
theorem ordHp_as (n : Nat) (g : FuncId) (caps : List AV) (v5 v6 : Nat) (nx : Nat) : ordHp n g caps v5 v6 nx = [(5, ⟨v5, false, 3, 1, [.int .i64 nx]⟩), (6, ⟨v6, false, 140, 1, [.fn 87 [.ptr 5 v5 0 0, .obj [.int .i64 n], .obj [.fn g caps], .ptr 6 v6 0 0]]⟩)] := eqq rfl
def OrdPost (n : Nat) (g : FuncId) (caps : List AV) (v5 v6 : Nat) (o : Option Nat) (r : AV) (hp' : Hp) : Prop :=
 ∃ nx', r = .bool o.isSome ∧ hp' = ordHp n g caps v5 v6 nx' ∧ (∀ m, o = some m → nx' = m)
theorem OrdPost.of {n : Nat} {g : FuncId} {caps : List AV} {v5 v6 nx : Nat} {o : Option Nat} {b : Bool} (h : o.isSome = b) (hm : ∀ m, o = some m → nx = m) : OrdPost n g caps v5 v6 o (.bool b) (ordHp n g caps v5 v6 nx) := ⟨nx, by rw [h], rfl, hm⟩
theorem walk_ok (K : Nat → List Int) (n : Nat) (hn : n ≤ 1048576) (g : FuncId) (caps : List AV) (hc : ∀ hp, caps.map (AV.pur1 hp) = caps) (hK : ∀ i, i < n → (K i).length ≤ 1048576 ∧ CallsF Tryz.prog g (.int .i64 i :: caps) (.sl ((K i).map av))) (v5 v6 : Nat) :
  ∀ (f : Nat) (i : Int) (nx : Nat), nx ≤ n → n - nx < f → CallsH Tryz.prog 87 [.int .i64 i, .ptr 5 v5 0 0, .obj [.int .i64 n], .obj [.fn g caps], .ptr 6 v6 0 0] (ordHp n g caps v5 v6 nx) (OrdPost n g caps v5 v6 (walkF K n f i nx)) := by
 intro f
 induction f with
 | zero => intro i nx _ h; omega
 | succ f ih =>
  intro i nx hnx hf
  refine ir_impl_inOrder_1.H rfl ?_
  simp +contextual -dsimp only [↓SD, SU, SB, simprocAttr, ir_impl_inOrder_1, ordHp_as, hc]
  refine ⟨fun hi => ⟨fun hle => ?_, fun hle => ⟨by omega, ?_⟩⟩, fun hi => ?_⟩
  ·refine Goes.post (ordHp n g caps v5 v6 nx) ?_
   simp +contextual -dsimp only [↓SD, SU, SB, simprocAttr, ordHp_as]
   refine OrdPost.of ?_ ?_ <;> simp [walkF, endF, hi, Nat.not_lt.2 hle]
  ·obtain ⟨hk1, hk2⟩ := hK nx (by omega)
   refine aCallK_of _ hk2 ?_
   simp +contextual -dsimp only [↓SD, SU, SB, simprocAttr, map_len]
   refine aLoop_of (X := Nat × Nat) (fun x => ⟨[(4, .ptr 6 v6 0 0), (21, .sl ((K nx).map av)), (22, .int .i64 (K nx).length), (23, .int .i64 x.1)], ordHp n g caps v5 v6 x.2⟩) (fun x => x.1 ≤ (K nx).length ∧ nx < x.2 ∧ x.2 ≤ n ∧ kidsF (endF K n f) (K nx) (nx + 1) = kidsF (endF K n f) ((K nx).drop x.1) x.2) (fun x => (K nx).length - x.1) (0, nx + 1) ⟨Nat.zero_le _, by simp, by simp only; omega, rfl⟩ (by simp +contextual -dsimp only [↓SD, SU, SB, simprocAttr]) (by simp +contextual -dsimp only [↓SD, SU, SB, simprocAttr, ordHp_as, Int.natCast_add]) ?_
   rintro ⟨j, m⟩ ⟨hj, hm1, hm2, he⟩
   simp only at hj hm1 hm2 he
   have hw : walkF K n (f + 1) i nx = kidsF (endF K n f) ((K nx).drop j) m := by
    rw [walkF, if_pos hi, endF, if_pos (by omega), he]
   by_cases hlt : j < (K nx).length
   ·have e := getD_map av (K nx) j .top hlt
    rw [List.drop_eq_getElem_cons hlt, kidsF] at he
    have hw' : walkF K n (f + 1) i nx = match walkF K n f (K nx)[j] m with | some m' => kidsF (endF K n f) ((K nx).drop (j + 1)) m' | none => none := by
     rw [hw, List.drop_eq_getElem_cons hlt, kidsF, walkF]
     split <;> rfl
    have C := ih (K nx)[j] m hm2 (by omega)
    simp +contextual -dsimp only [↓SD, SU, SB, simprocAttr, map_len, e, av_int, hlt, ordHp_as, hc]
    refine aCallH_of [5, 6] C (by simp +contextual -dsimp only [↓SD, SU, SB, simprocAttr, ordHp_as]) ?_
    rintro r hp' ⟨nx', rfl, rfl, hnx'⟩
    cases ho : walkF K n f (K nx)[j] m with
    | none =>
     rw [ho] at hw'
     simp +contextual -dsimp only [↓SD, SU, SB, simprocAttr, ho, Option.isSome_none]
     refine Goes.post (ordHp n g caps v5 v6 nx') ?_
     simp +contextual -dsimp only [↓SD, SU, SB, simprocAttr, ordHp_as]
     rw [hw']
     exact OrdPost.of rfl (fun m h => by cases h)
    | some m' =>
     rw [ho] at hw'
     obtain rfl := hnx' m' ho
     have hm' : m < nx' ∧ nx' ≤ n := by
      unfold walkF at ho
      split at ho
      ·exact end_le K n f m nx' ho
      ·cases ho
     simp +contextual -dsimp only [↓SD, SU, SB, simprocAttr, ho, Option.isSome_some]
     refine ⟨by omega, Goes.le ⟨(j + 1, nx'), ⟨⟨hlt, by simp only; omega, hm'.2, ?_⟩, (by first | omega | (simp only; omega))⟩, rfl⟩ (by simp +contextual -dsimp only [↓SD, SU, SB, simprocAttr, Int.natCast_add]) (by simp +contextual -dsimp only [↓SD, SU, SB, simprocAttr, ordHp_as])⟩
     rw [he]
     simp only at hw' ⊢
     rw [walkF, if_pos hi, endF, if_pos (by omega), he] at hw'
     exact hw'
   ·obtain rfl : j = (K nx).length := by omega
    rw [List.drop_length, kidsF] at hw
    simp +contextual -dsimp only [↓SD, SU, SB, simprocAttr, map_len, Nat.lt_irrefl]
    refine Goes.post (ordHp n g caps v5 v6 m) ?_
    simp +contextual -dsimp only [↓SD, SU, SB, simprocAttr, ordHp_as]
    rw [hw]
    exact OrdPost.of rfl (fun m h => by cases h; rfl)
  ·refine Goes.post (ordHp n g caps v5 v6 nx) ?_
   simp +contextual -dsimp only [↓SD, SU, SB, simprocAttr, ordHp_as]
   refine OrdPost.of ?_ ?_ <;> simp [walkF, hi]

theorem inOrder_ok (K : Nat → List Int) (n : Nat) (hn : n ≤ 1048576) (g : FuncId) (caps : List AV) (hp : ∀ x ∈ caps, AvPure x) (hc : ∀ hp, caps.map (AV.pur1 hp) = caps) (hK : ∀ i, i < n → (K i).length ≤ 1048576 ∧ CallsF Tryz.prog g (.int .i64 i :: caps) (.sl ((K i).map av))) :
  CallsF Tryz.prog 57 [.int .i64 n, .fn g caps] (.bool (treeB K n)) := by
 refine ir_impl_inOrder.F rfl (by simp; exact ⟨pint _, AvPure.fn hp⟩) (AvPure.bool _) ?_
 simp +contextual -dsimp only [↓SD, SU, SB, simprocAttr, ir_impl_inOrder, hc]
 intro v5 v6
 have C := walk_ok K n hn g caps hc hK v5 v6 (n + 1) 0 0 (Nat.zero_le _) (by omega)
 refine aCallH_of [5, 6] C (by simp +contextual -dsimp only [↓SD, SU, SB, simprocAttr, ordHp_as]) ?_
 rintro r hp' ⟨nx', rfl, rfl, hnx'⟩
 have e0 : walkF K n (n + 1) 0 0 = endF K n (n + 1) 0 := by rw [walkF, if_pos (by rfl)]
 rw [e0] at hnx' ⊢
 cases ho : endF K n (n + 1) 0 with
 | none =>
  simp +contextual -dsimp only [↓SD, SU, SB, simprocAttr, ho, Option.isSome_none]
  simp [treeB, ho]
 | some m =>
  obtain rfl := hnx' m ho
  simp +contextual -dsimp only [↓SD, SU, SB, simprocAttr, ho, Option.isSome_some, ordHp_as]
  simp [treeB, ho]
end Go.Proofs.YteeiaaogmjbcjaaGreat
set_option linter.unusedVariables false
set_option linter.unusedSimpArgs false
set_option maxRecDepth 100000
namespace Go.Proofs.YteeiaaogmjbcjaaGreat
open Go.RowKit Go.Proofs.YteeiaaogmjbcjaaGreat.Av Go.Proofs.YteeiaaogmjbcjaaGreat.Ml
open Go.Proofs.YteeiaaogmjbcjaaGreat.Av.AVal (av)

set_option maxHeartbeats 4000000 in
theorem patNodeOk_ok (l : List PNode) (n : PNode) (hl : l.length ≤ 1048576) (hk : n.kids.length ≤ 1048576) (hs : n.s.size ≤ 1048576) (hin : n.kids.length = 1 → 0 ≤ n.kids.getD 0 0 ∧ n.kids.getD 0 0 < l.length) :
  CallsF Tryz.prog 59 [.agg [.sl (l.map av)], av n] (.bool (pnodeB l n)) := by
 refine ir_impl_patNodeOk.F rfl (by simp; exact ⟨AvPure.agg (by simp; exact lav_clean l), AVal.clean n⟩) (AvPure.bool _) ?_
 obtain ⟨kind, nn, s, kids⟩ := n
 simp only at hk hs hin ⊢
 rcases kids with _ | ⟨k0, _ | ⟨k1, _ | ⟨k2, ks⟩⟩⟩
 case cons.nil =>
  obtain ⟨g0, g1⟩ := hin rfl
  simp only [List.getD_cons_zero] at g0 g1
  have g2 : k0.toNat < l.length := by omega
  have e := av_getD l default g2
  rw [av_PNode] at e
  simp +contextual -dsimp (maxSteps := 2000000) only [↓SD, SU, SB, simprocAttr, ir_impl_patNodeOk, av_PNode, av_int, map_len, g0, g1, g2, e]
  (repeat' (first | intro _ | refine And.intro ?_ ?_))
  all_goals first | omega | skip
  all_goals first | (refine aCallK_of _ (implNameOk_ok _ (by omega)) ?_; simp +contextual -dsimp (maxSteps := 2000000) only [↓SD, SU, SB, simprocAttr, *]; (repeat' (first | intro _ | refine And.intro ?_ ?_))) | (refine aCallK_of _ (within_ok _ _ _) ?_; simp +contextual -dsimp (maxSteps := 2000000) only [↓SD, SU, SB, simprocAttr, *]; (repeat' (first | intro _ | refine And.intro ?_ ?_))) | (refine aCallK_of _ (conShape_ok _ _ _ (by omega)) ?_; simp +contextual -dsimp (maxSteps := 2000000) only [↓SD, SU, SB, simprocAttr, *]; (repeat' (first | intro _ | refine And.intro ?_ ?_))) | skip
  all_goals first | omega | (simp [pnodeB, onlyKind, g0, g1, *]; done) | trace_state
 all_goals
  simp +contextual -dsimp (maxSteps := 2000000) only [↓SD, SU, SB, simprocAttr, ir_impl_patNodeOk, av_PNode, map_len]
  (repeat' (first | intro _ | refine And.intro ?_ ?_))
  all_goals first | omega | skip
  all_goals first | (refine aCallK_of _ (implNameOk_ok _ (by omega)) ?_; simp +contextual -dsimp (maxSteps := 2000000) only [↓SD, SU, SB, simprocAttr, *]; (repeat' (first | intro _ | refine And.intro ?_ ?_))) | (refine aCallK_of _ (within_ok _ _ _) ?_; simp +contextual -dsimp (maxSteps := 2000000) only [↓SD, SU, SB, simprocAttr, *]; (repeat' (first | intro _ | refine And.intro ?_ ?_))) | (refine aCallK_of _ (conShape_ok _ _ _ (by omega)) ?_; simp +contextual -dsimp (maxSteps := 2000000) only [↓SD, SU, SB, simprocAttr, *]; (repeat' (first | intro _ | refine And.intro ?_ ?_))) | skip
  all_goals first | omega | (simp [pnodeB, onlyKind, *]; done) | trace_state

set_option maxHeartbeats 4000000 in
theorem l04PNode_ok (l : List PNode) (n : PNode) (hl : l.length ≤ 1048576) (hk : n.kids.length ≤ 1048576) (hs : n.s.size ≤ 1048576) :
  CallsF Tryz.prog 36 [.agg [.sl (l.map av)], av n] (.bool (pnodeB l n)) := by
 refine ir_spec_l04PNode.F rfl (by simp; exact ⟨AvPure.agg (by simp; exact lav_clean l), AVal.clean n⟩) (AvPure.bool _) ?_
 obtain ⟨kind, nn, s, kids⟩ := n
 simp only at hk hs ⊢
 rcases kids with _ | ⟨k0, _ | ⟨k1, _ | ⟨k2, ks⟩⟩⟩
 case cons.nil =>
  by_cases g : 0 ≤ k0 ∧ k0 < l.length
  ·obtain ⟨g0, g1⟩ := g
   have g2 : k0.toNat < l.length := by omega
   have e := av_getD l default g2
   rw [av_PNode] at e
   simp +contextual -dsimp (maxSteps := 2000000) only [↓SD, SU, SB, simprocAttr, ir_spec_l04PNode, av_PNode, av_int, map_len, g0, g1, g2, e]
   (repeat' (first | intro _ | refine And.intro ?_ ?_))
   all_goals first | omega | skip
   all_goals first | (refine aCallK_of _ (specNameOk_ok _ (by omega)) ?_; simp +contextual -dsimp (maxSteps := 2000000) only [↓SD, SU, SB, simprocAttr, *, map_len]; (repeat' (first | intro _ | refine And.intro ?_ ?_))) | (refine aCallK_of _ (l04ConOk_ok _ _ _ (by omega)) ?_; simp +contextual -dsimp (maxSteps := 2000000) only [↓SD, SU, SB, simprocAttr, *, map_len]; (repeat' (first | intro _ | refine And.intro ?_ ?_))) | skip
   all_goals first | omega | (simp [pnodeB, onlyKind, g0, g1, *]; done) | trace_state
  ·have ho : onlyKind PNode.kind l [k0] 5 = false := onlyKind_out (by simpa using g)
   by_cases g0 : 0 ≤ k0
   case' pos => have g1 : ¬ k0 < l.length := fun h => g ⟨g0, h⟩
   case' pos => simp +contextual -dsimp (maxSteps := 2000000) only [↓SD, SU, SB, simprocAttr, ir_spec_l04PNode, av_PNode, av_int, map_len, g0, g1]
   case' neg => simp +contextual -dsimp (maxSteps := 2000000) only [↓SD, SU, SB, simprocAttr, ir_spec_l04PNode, av_PNode, av_int, map_len, g0]
   all_goals clear g
   all_goals
    (repeat' (first | intro _ | refine And.intro ?_ ?_))
    all_goals first | omega | skip
    all_goals first | (refine aCallK_of _ (specNameOk_ok _ (by omega)) ?_; simp +contextual -dsimp (maxSteps := 2000000) only [↓SD, SU, SB, simprocAttr, *, map_len]; (repeat' (first | intro _ | refine And.intro ?_ ?_))) | (refine aCallK_of _ (l04ConOk_ok _ _ _ (by omega)) ?_; simp +contextual -dsimp (maxSteps := 2000000) only [↓SD, SU, SB, simprocAttr, *, map_len]; (repeat' (first | intro _ | refine And.intro ?_ ?_))) | skip
    all_goals first | omega | (simp [pnodeB, ho, *]; done) | trace_state
 case cons.cons.cons =>
  have q0 : ¬ ((ks.length + 1 + 1 + 1 : Nat) : Int) = 0 := by omega
  have q1 : ¬ ((ks.length + 1 + 1 + 1 : Nat) : Int) = 1 := by omega
  have q2 : ¬ ((ks.length + 1 + 1 + 1 : Nat) : Int) = 2 := by omega
  simp +contextual -dsimp (maxSteps := 2000000) only [↓SD, SU, SB, simprocAttr, ir_spec_l04PNode, av_PNode, map_len, q0, q1, q2]
  (repeat' (first | intro _ | refine And.intro ?_ ?_))
  all_goals first | omega | skip
  all_goals first | (refine aCallK_of _ (specNameOk_ok _ (by omega)) ?_; simp +contextual -dsimp (maxSteps := 2000000) only [↓SD, SU, SB, simprocAttr, *, map_len]; (repeat' (first | intro _ | refine And.intro ?_ ?_))) | (refine aCallK_of _ (l04ConOk_ok _ _ _ (by omega)) ?_; simp +contextual -dsimp (maxSteps := 2000000) only [↓SD, SU, SB, simprocAttr, *, map_len]; (repeat' (first | intro _ | refine And.intro ?_ ?_))) | skip
  all_goals first | omega | (simp [pnodeB, onlyKind, *]; done) | trace_state
 all_goals
  simp +contextual -dsimp (maxSteps := 2000000) only [↓SD, SU, SB, simprocAttr, ir_spec_l04PNode, av_PNode, map_len]
  (repeat' (first | intro _ | refine And.intro ?_ ?_))
  all_goals first | omega | skip
  all_goals first | (refine aCallK_of _ (specNameOk_ok _ (by omega)) ?_; simp +contextual -dsimp (maxSteps := 2000000) only [↓SD, SU, SB, simprocAttr, *, map_len]; (repeat' (first | intro _ | refine And.intro ?_ ?_))) | (refine aCallK_of _ (l04ConOk_ok _ _ _ (by omega)) ?_; simp +contextual -dsimp (maxSteps := 2000000) only [↓SD, SU, SB, simprocAttr, *, map_len]; (repeat' (first | intro _ | refine And.intro ?_ ?_))) | skip
  all_goals first | omega | (simp [pnodeB, onlyKind, *]; done) | trace_state
end Go.Proofs.YteeiaaogmjbcjaaGreat
