/-
 DataOk OF THE REFERENCE, by abstract texts. Conditions: none.
-/
import Derived.Test.YteeiaaogmjbcjaaGreatHDataP
import Derived.Test.YteeiaaogmjbcjaaGreatHJ13
import Derived.Test.YteeiaaogmjbcjaaGreatProg
import Derived.Test.YteeiaaogmjbcjaaGreatHAvDraw
set_option linter.unusedVariables false
set_option linter.unusedSimpArgs false
set_option maxRecDepth 100000
namespace Go.Proofs.YteeiaaogmjbcjaaGreat
open Go.RowKit Go.Proofs.YteeiaaogmjbcjaaGreat.Av Go.Proofs.YteeiaaogmjbcjaaGreat.Ml
open Go.Proofs.YteeiaaogmjbcjaaGreat.Av.AVal (av)

theorem l07End_ok (l : List DNode) (hx : Bulk.bulk l ≤ 1048576) : ∀ (f i : Nat), l.length - i < f → i ≤ 1048576 → CallsF Tryz.prog 68 [.agg [.sl (l.map av)], .int .i64 i] (.int .i64 (endI (endF (dkids l) l.length f i))) := by
 have hl := bulk_length l
 intro f
 induction f with
 | zero => intro i h; omega
 | succ f ih =>
  intro i hf hi0
  refine ir_spec_l07End.F rfl (by simp; exact ⟨AvPure.agg (by simp; exact lav_clean l), pint _⟩) (pint _) ?_
  by_cases hi : i < l.length
  ·have e := getD_map av l i .top hi
   have hs := (dnode_small hx i hi).1
   have hK : dkids l i = l[i].kids := by rw [dkids, getD_at hi]
   have hE : endF (dkids l) l.length (f + 1) i = kidsF (endF (dkids l) l.length f) l[i].kids (i + 1) := by rw [endF, if_pos hi, hK]
   rw [hE]
   generalize l[i] = a at *
   simp +contextual -dsimp (maxSteps := 2000000) only [↓SD, SU, SB, simprocAttr, ir_spec_l07End, map_len, hi, e, av_DNode, Nat.not_le]
   refine ⟨by omega, by omega, ?_⟩
   refine aLoop_of (X := Nat × Nat) (fun x => ⟨[(2, .obj [.sl (l.map av)]), (5, .int .i64 x.2), (20, .sl (a.kids.map av)), (21, .int .i64 a.kids.length), (22, .int .i64 x.1)], []⟩) (fun x => x.1 ≤ a.kids.length ∧ i < x.2 ∧ x.2 ≤ l.length ∧ kidsF (endF (dkids l) l.length f) a.kids (i + 1) = kidsF (endF (dkids l) l.length f) (a.kids.drop x.1) x.2) (fun x => a.kids.length - x.1) (0, i + 1) ⟨Nat.zero_le _, by simp, by simp only; omega, rfl⟩ (by simp +contextual -dsimp only [↓SD, SU, SB, simprocAttr, Int.natCast_add]) trivial ?_
   rintro ⟨j, m⟩ ⟨hj, hm1, hm2, he⟩
   simp only at hj hm1 hm2 he
   by_cases hlt : j < a.kids.length
   ·have e2 := getD_map av a.kids j .top hlt
    rw [List.drop_eq_getElem_cons hlt, kidsF] at he
    have C := ih m (by omega) (by omega)
    by_cases hkm : a.kids[j] = (m : Int)
    ·rw [if_pos hkm] at he
     simp +contextual -dsimp (maxSteps := 2000000) only [↓SD, SU, SB, simprocAttr, map_len, hlt, e2, av_int, hkm]
     refine aCallK_of _ C ?_
     cases hm' : endF (dkids l) l.length f m with
     | none =>
      rw [hm'] at he
      simp +contextual -dsimp (maxSteps := 2000000) only [↓SD, SU, SB, simprocAttr, endI]
      rw [he]
     | some m' =>
      rw [hm'] at he
      have := end_le (dkids l) l.length f m m' hm'
      have hneg : ¬ ((m' : Int) < 0) := by omega
      simp +contextual -dsimp (maxSteps := 2000000) only [↓SD, SU, SB, simprocAttr, endI, hneg]
      refine ⟨by omega, Goes.le ⟨(j + 1, m'), ⟨⟨hlt, by simp only; omega, this.2, he⟩, (by first | omega | (simp only; omega))⟩, rfl⟩ (by simp +contextual -dsimp only [↓SD, SU, SB, simprocAttr, Int.natCast_add]) trivial⟩
    ·rw [if_neg hkm] at he
     simp +contextual -dsimp (maxSteps := 2000000) only [↓SD, SU, SB, simprocAttr, map_len, hlt, e2, av_int, hkm]
     rw [he]; rfl
   ·obtain rfl : j = a.kids.length := by omega
    rw [List.drop_length, kidsF] at he
    simp +contextual -dsimp (maxSteps := 2000000) only [↓SD, SU, SB, simprocAttr, map_len, Nat.lt_irrefl]
    rw [he]; rfl
  ·have hE : endF (dkids l) l.length (f + 1) i = none := by rw [endF, if_neg hi]
   have hi' : l.length ≤ i := by omega
   simp +contextual -dsimp (maxSteps := 2000000) only [↓SD, SU, SB, simprocAttr, ir_spec_l07End, map_len, hi', hE]
   rfl
set_option maxHeartbeats 4000000 in
theorem specDataOk_ok (l : List DNode) (hx : Bulk.bulk l ≤ 1048576) (hr : ∀ n ∈ l, -9223372036854775808 ≤ n.n ∧ n.n ≤ 9223372036854775807) : CallsF Tryz.prog 34 [.agg [.sl (l.map av)]] (.bool (dataB l)) := by
 have hl := bulk_length l
 refine ir_spec_DataOk.F rfl (by simp; exact AvPure.agg (by simp; exact lav_clean l)) (AvPure.bool _) ?_
 simp +contextual -dsimp (maxSteps := 2000000) only [↓SD, SU, SB, simprocAttr, ir_spec_DataOk, map_len]
 refine ⟨fun h1 => ⟨fun h2 => by rw [dataB_small (by omega)], fun h2 => ?_⟩, fun h1 => by rw [dataB_small (by omega)]⟩
 refine aLoop_of (X := Nat) (fun k => ⟨[(1, .obj [.sl (l.map av)]), (18, .sl (l.map av)), (19, .int .i64 l.length), (20, .int .i64 k)], []⟩) (fun k => k ≤ l.length ∧ (l.take k).all (dnodeB l) = true) (fun k => l.length - k) 0 ⟨Nat.zero_le _, rfl⟩ (by simp +contextual -dsimp only [↓SD, SU, SB, simprocAttr]) trivial ?_
 rintro k ⟨hk, hp⟩
 by_cases hlt : k < l.length
 ·have e := getD_map av l k .top hlt
  obtain ⟨s1, s2⟩ := dnode_small hx k hlt
  have hr1 := hr _ (List.getElem_mem hlt)
  have hno : dnodeB l l[k] = false → dataB l = false := dataB_no hlt
  have hyes : dnodeB l l[k] = true → (l.take (k + 1)).all (dnodeB l) = true := fun h => by rw [all_take' _ hlt hp]; exact h
  obtain ⟨D, hD⟩ : ∃ D, D = dataB l := ⟨_, rfl⟩
  rw [← hD] at hno ⊢
  clear hD hp
  generalize l[k] = a at *
  obtain ⟨kind, nn, s, kids⟩ := a
  simp only at s1 s2 hr1
  obtain ⟨m, CW, hm⟩ := wrapN_ok nn hr1
  rcases kids with _ | ⟨k0, _ | ⟨k1, _ | ⟨k2, ks⟩⟩⟩
  case cons.nil =>
   by_cases g : 0 ≤ k0 ∧ k0 < l.length
   ·obtain ⟨g0, g1⟩ := g
    have g2 : k0.toNat < l.length := by omega
    have e2 := av_getD l default g2
    rw [av_DNode] at e2
    have ho : onlyKind DNode.kind l [k0] 5 = decide ((l.getD k0.toNat default).kind = 5) := by
     unfold onlyKind
     simp only [decide_eq_true g0, decide_eq_true g1, Bool.true_and]
    generalize l.getD k0.toNat default = y at e2 ho
    simp +contextual -dsimp (maxSteps := 2000000) only [↓SD, SU, SB, simprocAttr, map_len, hlt, e, av_DNode, av_int, g0, g1, g2, e2]
    intro v
    (repeat' (first | intro _ | refine And.intro ?_ ?_))
    all_goals first | omega | skip
    all_goals first | (refine aCallK_of _ CW ?_; simp +contextual -dsimp (maxSteps := 2000000) only [↓SD, SU, SB, simprocAttr, *, map_len]; (repeat' (first | intro _ | refine And.intro ?_ ?_))) | (refine aCallK_of _ (l04ConOk_ok _ _ _ (by omega)) ?_; simp +contextual -dsimp (maxSteps := 2000000) only [↓SD, SU, SB, simprocAttr, *, map_len]; (repeat' (first | intro _ | refine And.intro ?_ ?_))) | skip
    all_goals first | omega | skip
    all_goals first
     | (refine congrArg AV.bool (hno ?_).symm; first | (simp [dnodeB, ho, *]; done) | (simp [dnodeB, ho, *]; omega) | (simp [dnodeB, ho, *]; intro _ _; omega))
     | (refine Goes.le ⟨k + 1, ⟨⟨hlt, hyes ?_⟩, (by first | omega | (simp only; omega))⟩, rfl⟩ (by simp +contextual -dsimp only [↓SD, SU, SB, simprocAttr, Int.natCast_add]) trivial; first | (simp [dnodeB, ho, *]; done) | (simp [dnodeB, ho, *]; omega))
     | trace_state
   ·have ho : onlyKind DNode.kind l [k0] 5 = false := onlyKind_out (by simpa using g)
    by_cases g0 : 0 ≤ k0
    case' pos => have g1 : ¬ k0 < l.length := fun h => g ⟨g0, h⟩
    case' pos => simp +contextual -dsimp (maxSteps := 2000000) only [↓SD, SU, SB, simprocAttr, map_len, hlt, e, av_DNode, av_int, g0, g1]
    case' neg => simp +contextual -dsimp (maxSteps := 2000000) only [↓SD, SU, SB, simprocAttr, map_len, hlt, e, av_DNode, av_int, g0]
    all_goals clear g
    all_goals
     intro v
     (repeat' (first | intro _ | refine And.intro ?_ ?_))
     all_goals first | omega | skip
     all_goals first | (refine aCallK_of _ CW ?_; simp +contextual -dsimp (maxSteps := 2000000) only [↓SD, SU, SB, simprocAttr, *, map_len]; (repeat' (first | intro _ | refine And.intro ?_ ?_))) | (refine aCallK_of _ (l04ConOk_ok _ _ _ (by omega)) ?_; simp +contextual -dsimp (maxSteps := 2000000) only [↓SD, SU, SB, simprocAttr, *, map_len]; (repeat' (first | intro _ | refine And.intro ?_ ?_))) | skip
     all_goals first | omega | skip
     all_goals first
      | (refine congrArg AV.bool (hno ?_).symm; first | (simp [dnodeB, ho, *]; done) | (simp [dnodeB, ho, *]; omega) | (simp [dnodeB, ho, *]; intro _ _; omega))
      | (refine Goes.le ⟨k + 1, ⟨⟨hlt, hyes ?_⟩, (by first | omega | (simp only; omega))⟩, rfl⟩ (by simp +contextual -dsimp only [↓SD, SU, SB, simprocAttr, Int.natCast_add]) trivial; first | (simp [dnodeB, ho, *]; done) | (simp [dnodeB, ho, *]; omega))
      | trace_state
  case cons.cons.cons =>
   have q0 : ¬ ((ks.length + 1 + 1 + 1 : Nat) : Int) = 0 := by omega
   have q1 : ¬ ((ks.length + 1 + 1 + 1 : Nat) : Int) = 1 := by omega
   have q2 : ¬ ((ks.length + 1 + 1 + 1 : Nat) : Int) = 2 := by omega
   simp +contextual -dsimp (maxSteps := 2000000) only [↓SD, SU, SB, simprocAttr, map_len, hlt, e, av_DNode, av_int, q0, q1, q2]
   intro v
   (repeat' (first | intro _ | refine And.intro ?_ ?_))
   all_goals first | omega | skip
   all_goals first | (refine aCallK_of _ CW ?_; simp +contextual -dsimp (maxSteps := 2000000) only [↓SD, SU, SB, simprocAttr, *, map_len]; (repeat' (first | intro _ | refine And.intro ?_ ?_))) | (refine aCallK_of _ (l04ConOk_ok _ _ _ (by omega)) ?_; simp +contextual -dsimp (maxSteps := 2000000) only [↓SD, SU, SB, simprocAttr, *, map_len]; (repeat' (first | intro _ | refine And.intro ?_ ?_))) | skip
   all_goals first | omega | skip
   all_goals (try push_cast at *)
   all_goals first
    | (refine congrArg AV.bool (hno ?_).symm; first | (simp [dnodeB, onlyKind, *]; done) | (simp [dnodeB, onlyKind, *]; omega) | (simp [dnodeB, onlyKind, *]; intro _ _; omega))
    | (refine Goes.le ⟨k + 1, ⟨⟨hlt, hyes ?_⟩, (by first | omega | (simp only; omega))⟩, rfl⟩ (by simp +contextual -dsimp only [↓SD, SU, SB, simprocAttr, Int.natCast_add]) trivial; first | (simp [dnodeB, onlyKind, *]; done) | (simp [dnodeB, onlyKind, *]; omega))
    | trace_state
  all_goals
   simp +contextual -dsimp (maxSteps := 2000000) only [↓SD, SU, SB, simprocAttr, map_len, hlt, e, av_DNode, av_int]
   intro v
   (repeat' (first | intro _ | refine And.intro ?_ ?_))
   all_goals first | omega | skip
   all_goals first | (refine aCallK_of _ CW ?_; simp +contextual -dsimp (maxSteps := 2000000) only [↓SD, SU, SB, simprocAttr, *, map_len]; (repeat' (first | intro _ | refine And.intro ?_ ?_))) | (refine aCallK_of _ (l04ConOk_ok _ _ _ (by omega)) ?_; simp +contextual -dsimp (maxSteps := 2000000) only [↓SD, SU, SB, simprocAttr, *, map_len]; (repeat' (first | intro _ | refine And.intro ?_ ?_))) | skip
   all_goals first | omega | skip
   all_goals first
    | (refine congrArg AV.bool (hno ?_).symm; first | (simp [dnodeB, onlyKind, *]; done) | (simp [dnodeB, onlyKind, *]; omega) | (simp [dnodeB, onlyKind, *]; intro _ _; omega))
    | (refine Goes.le ⟨k + 1, ⟨⟨hlt, hyes ?_⟩, (by first | omega | (simp only; omega))⟩, rfl⟩ (by simp +contextual -dsimp only [↓SD, SU, SB, simprocAttr, Int.natCast_add]) trivial; first | (simp [dnodeB, onlyKind, *]; done) | (simp [dnodeB, onlyKind, *]; omega))
    | trace_state
 ·obtain rfl : k = l.length := by omega
  rw [List.take_length] at hp
  have C := l07End_ok l hx (l.length + 1) 0 (by omega) (by omega)
  simp +contextual -dsimp (maxSteps := 2000000) only [↓SD, SU, SB, simprocAttr, map_len, Nat.lt_irrefl]
  refine aCallK_of _ C ?_
  simp +contextual -dsimp (maxSteps := 2000000) only [↓SD, SU, SB, simprocAttr, map_len]
  congr 1
  cases ht : treeB (dkids l) l.length with
  | true =>
   rw [dataB_of (by omega) (by omega) ht, hp]
   unfold treeB at ht
   rw [of_decide_eq_true ht]; simp [endI]
  | false =>
   rw [dataB_tree ht]
   unfold treeB at ht
   cases ho : endF (dkids l) l.length (l.length + 1) 0 with
   | none => simp [endI]
   | some m =>
    rw [ho] at ht
    have hne : m ≠ l.length := fun e => by simp [e] at ht
    exact decide_eq_false (by simp only [endI]; omega)
end Go.Proofs.YteeiaaogmjbcjaaGreat
set_option linter.unusedVariables false
set_option maxRecDepth 100000
namespace Go.Proofs.YteeiaaogmjbcjaaGreat
open Go.Proofs.YteeiaaogmjbcjaaGreat.Av

theorem follows_GrowP : Tryz.prog.follows .mixedOrders = true := by kernel_rfl

def ir_impl_growPat : Ir Tryz.prog 31 [(20,20)] [] 2 := ⟨_, _, Tryz.func31, follows_GrowP, by kernel_rfl, low_of [] Tryz.progTables (by conv => lhs; cbv) (by kernel_rfl)⟩
end Go.Proofs.YteeiaaogmjbcjaaGreat
set_option linter.unusedVariables false
set_option linter.unusedSimpArgs false
set_option maxRecDepth 100000
namespace Go.Proofs.YteeiaaogmjbcjaaGreat
open Go.RowKit Go.Proofs.YteeiaaogmjbcjaaGreat.Av Go.Proofs.YteeiaaogmjbcjaaGreat.Ml
open Go.Proofs.YteeiaaogmjbcjaaGreat.Av.AVal (av)

theorem growPatH_ok (l : List PNode) (hk : ∀ i, i < l.length → ∀ k ∈ pkids l i, (i : Int) < k ∧ k < l.length) (hx : Bulk.bulk l ≤ 1048576) : ∀ (f i : Nat), i < l.length → l.length - i ≤ f → CallsF Tryz.prog 31 [.sl (l.map av), .int .i64 i] (av (growX (phd l) (pkids l) f i)) := by
 intro f
 induction f with
 | zero => intro i hi hf; omega
 | succ f ih =>
  intro i hi hf
  have hl := bulk_length l
  have e := getD_map av l i .top hi
  have hs := (pnode_small hx i hi).1
  have hK : pkids l i = l[i].kids := by rw [pkids, getD_at hi]
  have hH : phd l i = ⟨l[i].kind, l[i].n, l[i].s⟩ := by rw [phd, getD_at hi]
  have hg : growX (phd l) (pkids l) (f + 1) i = .mk ⟨l[i].kind, l[i].n, l[i].s⟩ (l[i].kids.map fun k => growX (phd l) (pkids l) f k.toNat) := by rw [growX, hK, hH]
  have hks := hk i hi
  rw [hK] at hks
  refine ir_impl_growPat.F rfl (by simp; exact ⟨lav_clean l, pint _⟩) (AVal.clean _) ?_
  rw [hg]
  clear hg hK hH
  generalize l[i] = n at *
  simp +contextual -dsimp only [↓SD, SU, SB, simprocAttr, ir_impl_growPat, map_len, hi, e, av_PNode]
  intro w5 w
  refine aLoop_goes (X := Nat × Nat) (fun x => ⟨[(0, .sl (l.map av)), (6, .ptr 20 w 0 0), (22, .sl (n.kids.map av)), (23, .int .i64 n.kids.length), (24, .int .i64 x.1)], [(20, ⟨w, false, 125, 4, [.agg [.int .i64 n.kind, .int .i64 n.n, .str n.s, .row 37 x.2 x.1]]⟩), (37, ⟨x.2, false, 73, 1, ((n.kids.take x.1).map fun k => growX (phd l) (pkids l) f k.toNat).map av⟩)]⟩) (fun x => x.1 ≤ n.kids.length) (fun x => n.kids.length - x.1) (Goes.adoptB 20 0 3 37 73 1 rfl rfl Nat.zero_lt_one rfl (by decide) (fun v => Goes.le ⟨(0, v), Nat.zero_le _, rfl⟩ (by simp +contextual -dsimp only [↓SD, SU, SB, simprocAttr]) (by simp +contextual -dsimp only [↓SD, SU, SB, simprocAttr]))) ?_
  rintro ⟨j, u⟩ hj
  simp only at hj
  by_cases hlt : j < n.kids.length
  ·have e2 := getD_map av n.kids j .top hlt
   have hkj := hks _ (List.getElem_mem hlt)
   have ht : n.kids.take (j + 1) = n.kids.take j ++ [n.kids[j]] := List.take_succ_eq_append_getElem hlt
   obtain ⟨m, hm⟩ : ∃ m : Nat, n.kids[j] = m := ⟨n.kids[j].toNat, by omega⟩
   rw [hm] at e2 hkj ht
   have C2 := ih m (by omega) (by omega)
   have hk2 : (n.kids.take j).length = j := by simp; omega
   have ht2 : List.take j (((n.kids.take j).map fun k => growX (phd l) (pkids l) f k.toNat).map av) = ((n.kids.take j).map fun k => growX (phd l) (pkids l) f k.toNat).map av := List.take_of_length_le (by simp; omega)
   simp +contextual -dsimp only [↓SD, SU, SB, simprocAttr, map_len, hlt, e2, av_int]
   refine aCallK_of _ C2 ?_
   simp +contextual -dsimp only [↓SD, SU, SB, simprocAttr, map_len, hlt, px_cells, px_pur, px_pur1, px_purA, px_one, px_ok, hk2, ht2]
   refine ⟨⟨by omega, by unfold maxLen; omega⟩, fun u' => ⟨by omega, Goes.le ⟨(j + 1, u'), ⟨hlt, (by first | omega | (simp only; omega))⟩, rfl⟩ (by simp +contextual -dsimp only [↓SD, SU, SB, simprocAttr, Int.natCast_add]) (by simp +contextual -dsimp only [↓SD, SU, SB, simprocAttr, ht, List.map_append, Int.toNat_natCast])⟩⟩
  ·obtain rfl : j = n.kids.length := by omega
   simp +contextual -dsimp only [↓SD, SU, SB, simprocAttr, map_len, Nat.lt_irrefl, map_nop, List.take_length, take_map]
   rw [av_Px, List.take_of_length_le (by simp)]

end Go.Proofs.YteeiaaogmjbcjaaGreat
set_option linter.unusedVariables false
set_option maxRecDepth 100000
namespace Go.Proofs.YteeiaaogmjbcjaaGreat
open Go.Proofs.YteeiaaogmjbcjaaGreat.Av

theorem follows_Hit : Tryz.prog.follows .mixedOrders = true := by kernel_rfl

def ir_impl_growData : Ir Tryz.prog 32 [(20,20)] [] 2 := ⟨_, _, Tryz.func32, follows_Hit, by kernel_rfl, low_of [] Tryz.progTables (by conv => lhs; cbv) (by kernel_rfl)⟩
def ir_impl_hit : Ir Tryz.prog 30 [(89, 7777)] [9999] 3 := ⟨_, _, Tryz.func30, follows_Hit, by kernel_rfl, low_of [] Tryz.progTables (by conv => lhs; cbv) (by kernel_rfl)⟩
end Go.Proofs.YteeiaaogmjbcjaaGreat
