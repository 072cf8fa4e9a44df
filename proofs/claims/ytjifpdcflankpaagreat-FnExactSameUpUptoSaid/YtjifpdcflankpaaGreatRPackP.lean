/-
 THE GROUND OF DATA, in one text. Conditions: none.
-/
import Derived.Test.YtjifpdcflankpaaGreatRPackQ
import Derived.Test.YtjifpdcflankpaaGreatRPackW
import Derived.Test.YtjifpdcflankpaaGreatRIrB
import Derived.Test.YtjifpdcflankpaaGreatRPackV

set_option linter.unusedVariables false
set_option linter.unusedSimpArgs false
set_option maxRecDepth 100000
namespace Go.Proofs.YtjifpdcflankpaaGreat
open Go.RowKit Go.Proofs.YtjifpdcflankpaaGreat.Av Go.Proofs.YtjifpdcflankpaaGreat.Ml
open Go.Proofs.YtjifpdcflankpaaGreat.Av.AVal (av)

theorem arity_ok (k : Int) : CallsF Tryz.prog 159 [.int .i64 k] (.int .i64 (arityK k)) := by
 refine ir_impl_arity.F rfl (by simp; exact pint _) (pint _) ?_
 simp +contextual -dsimp (maxSteps := 2000000) only [↓SD, SU, SB, simprocAttr, ir_impl_arity]
 (repeat' (first | intro _ | refine And.intro ?_ ?_))
 all_goals first | (simp [arityK, *]; done) | (subst_vars; rfl)
theorem l04Kids_ok (k : Int) : CallsF Tryz.prog 111 [.int .i64 k] (.int .i64 (arityK k)) := by
 refine ir_spec_l04Kids.F rfl (by simp; exact pint _) (pint _) ?_
 simp +contextual -dsimp (maxSteps := 2000000) only [↓SD, SU, SB, simprocAttr, ir_spec_l04Kids]
 (repeat' (first | intro _ | refine And.intro ?_ ?_))
 all_goals first | (simp [arityK, *]; done) | (subst_vars; rfl)
theorem kinds {k : Int} (h : 1 ≤ k ∧ k ≤ 19) : k = 1 ∨ k = 2 ∨ k = 3 ∨ k = 4 ∨ k = 5 ∨ k = 6 ∨ k = 7 ∨ k = 8 ∨ k = 9 ∨ k = 10 ∨ k = 11 ∨ k = 12 ∨ k = 13 ∨ k = 14 ∨ k = 15 ∨ k = 16 ∨ k = 17 ∨ k = 18 ∨ k = 19 := by omega

set_option maxHeartbeats 8000000 in
theorem nodeOk_ok (nm : Node → Bool) (p : Program) (n : Node) (g : FuncId) (caps : List AV) (hpc : ∀ x ∈ caps, AvPure x) (hc : ∀ hp, caps.map (AV.pur1 hp) = caps) (hg : CallsF Tryz.prog g (av n :: caps) (.bool (nm n)))
  (hl : p.nodes.length ≤ 4294967296) (hk : n.kids.length ≤ 4294967296) (hs : n.s.size ≤ 4294967296) (hq : n.pats.length ≤ 4294967296) (hin : ∀ k ∈ n.kids, 0 ≤ k ∧ k < p.nodes.length) :
  CallsF Tryz.prog 117 [av p, av n, .fn g caps] (.bool (nodeB nm p.nodes n)) := by
 refine ir_impl_nodeOk.F rfl (by simp; exact ⟨AVal.clean p, AVal.clean n, AvPure.fn hpc⟩) (AvPure.bool _) ?_
 have CA := arity_ok n.kind
 rw [av_Node] at hg
 by_cases hkk : 1 ≤ n.kind ∧ n.kind ≤ 19
 ·obtain ⟨kind, pos, nn, s, kids, pats⟩ := n
  simp only at hk hs hq hin hkk CA hg
  rcases kinds hkk with rfl | rfl | rfl | rfl | rfl | rfl | rfl | rfl | rfl | rfl | rfl | rfl | rfl | rfl | rfl | rfl | rfl | rfl | rfl
  all_goals first | (rw [show arityK 1 = 0 from rfl] at CA; have hA : arityK 1 = 0 := rfl; clear hkk) | (rw [show arityK 2 = 0 from rfl] at CA; have hA : arityK 2 = 0 := rfl; clear hkk) | (rw [show arityK 3 = 0 from rfl] at CA; have hA : arityK 3 = 0 := rfl; clear hkk) | (rw [show arityK 4 = -1 from rfl] at CA; have hA : arityK 4 = -1 := rfl; clear hkk) | (rw [show arityK 5 = 1 from rfl] at CA; have hA : arityK 5 = 1 := rfl; clear hkk) | (rw [show arityK 6 = 2 from rfl] at CA; have hA : arityK 6 = 2 := rfl; clear hkk) | (rw [show arityK 7 = 2 from rfl] at CA; have hA : arityK 7 = 2 := rfl; clear hkk) | (rw [show arityK 8 = 2 from rfl] at CA; have hA : arityK 8 = 2 := rfl; clear hkk) | (rw [show arityK 9 = 3 from rfl] at CA; have hA : arityK 9 = 3 := rfl; clear hkk) | (rw [show arityK 10 = 2 from rfl] at CA; have hA : arityK 10 = 2 := rfl; clear hkk) | (rw [show arityK 11 = 2 from rfl] at CA; have hA : arityK 11 = 2 := rfl; clear hkk) | (rw [show arityK 12 = 0 from rfl] at CA; have hA : arityK 12 = 0 := rfl; clear hkk) | (rw [show arityK 13 = -1 from rfl] at CA; have hA : arityK 13 = -1 := rfl; clear hkk) | (rw [show arityK 14 = 1 from rfl] at CA; have hA : arityK 14 = 1 := rfl; clear hkk) | (rw [show arityK 15 = 2 from rfl] at CA; have hA : arityK 15 = 2 := rfl; clear hkk) | (rw [show arityK 16 = 1 from rfl] at CA; have hA : arityK 16 = 1 := rfl; clear hkk) | (rw [show arityK 17 = 1 from rfl] at CA; have hA : arityK 17 = 1 := rfl; clear hkk) | (rw [show arityK 18 = 2 from rfl] at CA; have hA : arityK 18 = 2 := rfl; clear hkk) | (rw [show arityK 19 = 2 from rfl] at CA; have hA : arityK 19 = 2 := rfl; clear hkk)
  case inr.inr.inr.inl =>
   rcases kids with _ | ⟨k0, _ | ⟨k1, ks⟩⟩
   case cons.nil =>
    obtain ⟨g0, g1⟩ := hin k0 (by simp)
    have g2 : k0.toNat < p.nodes.length := by omega
    have e := av_getD p.nodes default g2
    rw [av_Node] at e
    rcases pats with _ | ⟨q0, qs⟩ <;>
    (simp +contextual -dsimp (maxSteps := 2000000) only [↓SD, SU, SB, simprocAttr, ir_impl_nodeOk, av_Node, av_Program, av_int, map_len, hc]
     refine aCallK_of _ CA ?_
     simp +contextual -dsimp (maxSteps := 2000000) only [↓SD, SU, SB, simprocAttr, map_len, g0, g1, g2, e]
     (repeat' (first | intro _ | refine And.intro ?_ ?_))
     all_goals first | omega | skip
     all_goals first | (refine aCallK_of _ (conShape_ok _ _ _ (by omega)) ?_; simp +contextual -dsimp (maxSteps := 2000000) only [↓SD, SU, SB, simprocAttr, *]; (repeat' (first | intro _ | refine And.intro ?_ ?_))) | skip
     all_goals first | omega | (simp [nodeB, onlyKind, firstKind, *]; done))
   all_goals
    rcases pats with _ | ⟨q0, qs⟩ <;>
    (simp +contextual -dsimp (maxSteps := 2000000) only [↓SD, SU, SB, simprocAttr, ir_impl_nodeOk, av_Node, av_Program, av_int, map_len, hc]
     refine aCallK_of _ CA ?_
     simp +contextual -dsimp (maxSteps := 2000000) only [↓SD, SU, SB, simprocAttr, map_len]
     (repeat' (first | intro _ | refine And.intro ?_ ?_))
     all_goals first | omega | skip
     all_goals first | (refine aCallK_of _ (conShape_ok _ _ _ (by omega)) ?_; simp +contextual -dsimp (maxSteps := 2000000) only [↓SD, SU, SB, simprocAttr, *, map_len]; (repeat' (first | intro _ | refine And.intro ?_ ?_))) | skip
     all_goals first | omega | (simp [nodeB, onlyKind, firstKind, *]; done))
  case inr.inr.inr.inr.inr.inr.inr.inl =>
   cases hb : nm ⟨8, pos, nn, s, kids, pats⟩ <;> rw [hb] at hg <;>
   rcases kids with _ | ⟨k0, ks⟩
   case false.cons | true.cons =>
    obtain ⟨g0, g1⟩ := hin k0 (by simp)
    have g2 : k0.toNat < p.nodes.length := by omega
    have e := av_getD p.nodes default g2
    rw [av_Node] at e
    rcases pats with _ | ⟨q0, qs⟩ <;>
    (simp +contextual -dsimp (maxSteps := 2000000) only [↓SD, SU, SB, simprocAttr, ir_impl_nodeOk, av_Node, av_Program, av_int, map_len, hc]
     refine aCallK_of _ CA ?_
     simp +contextual -dsimp (maxSteps := 2000000) only [↓SD, SU, SB, simprocAttr, map_len, g0, g1, g2, e, hc]
     (repeat' (first | intro _ | refine And.intro ?_ ?_))
     all_goals first | omega | skip
     all_goals first | (subst_vars; refine aCallK_of _ hg ?_; simp +contextual -dsimp (maxSteps := 2000000) only [↓SD, SU, SB, simprocAttr, *, map_len]; (repeat' (first | intro _ | refine And.intro ?_ ?_))) | skip
     all_goals first | omega | (simp [nodeB, onlyKind, firstKind, *]; done) | (simp [nodeB, onlyKind, firstKind, *]; omega) | trace_state)
   all_goals
    rcases pats with _ | ⟨q0, qs⟩ <;>
    (simp +contextual -dsimp (maxSteps := 2000000) only [↓SD, SU, SB, simprocAttr, ir_impl_nodeOk, av_Node, av_Program, av_int, map_len, hc]
     refine aCallK_of _ CA ?_
     simp +contextual -dsimp (maxSteps := 2000000) only [↓SD, SU, SB, simprocAttr, map_len, hc]
     (repeat' (first | intro _ | refine And.intro ?_ ?_))
     all_goals first | omega | skip
     all_goals first | (subst_vars; refine aCallK_of _ hg ?_; simp +contextual -dsimp (maxSteps := 2000000) only [↓SD, SU, SB, simprocAttr, *, map_len]; (repeat' (first | intro _ | refine And.intro ?_ ?_))) | skip
     all_goals first | omega | (simp [nodeB, onlyKind, firstKind, *]; done))
  all_goals
   rcases pats with _ | ⟨q0, qs⟩ <;>
   ((try simp only [List.length_cons] at hq)
    simp +contextual -dsimp (maxSteps := 2000000) only [↓SD, SU, SB, simprocAttr, ir_impl_nodeOk, av_Node, av_Program, map_len, hc]
    refine aCallK_of _ CA ?_
    simp +contextual -dsimp (maxSteps := 2000000) only [↓SD, SU, SB, simprocAttr, map_len, hc]
    (repeat' (first | intro _ | refine And.intro ?_ ?_))
    all_goals first | omega | skip
    all_goals first | (subst_vars; refine aCallK_of _ hg ?_; simp +contextual -dsimp (maxSteps := 2000000) only [↓SD, SU, SB, simprocAttr, *]; (repeat' (first | intro _ | refine And.intro ?_ ?_))) | (refine aCallK_of _ (within_ok _ _ _) ?_; simp +contextual -dsimp (maxSteps := 2000000) only [↓SD, SU, SB, simprocAttr, *]; (repeat' (first | intro _ | refine And.intro ?_ ?_))) | (refine aCallK_of _ primOps_ok ?_; simp +contextual -dsimp (maxSteps := 2000000) only [↓SD, SU, SB, simprocAttr, *]; refine aCallK_of _ (ContainsStr_ok opsL _ (by decide)) ?_; simp +contextual -dsimp (maxSteps := 2000000) only [↓SD, SU, SB, simprocAttr, *]; (repeat' (first | intro _ | refine And.intro ?_ ?_))) | skip
    all_goals first | omega | (simp [nodeB, onlyKind, firstKind, *]; done) | (have kne : kids ≠ [] := (fun h => by subst h; simp at *); simp [nodeB, hA, kne]; done) | (simp [nodeB, hA, *]; omega) | trace_state)
 ·obtain ⟨kind, pos, nn, s, kids, pats⟩ := n
  simp only at hk hs hq hin hkk CA hg
  have c1 : ¬ kind = 1 := by omega
  have c2 : ¬ kind = 2 := by omega
  have c3 : ¬ kind = 3 := by omega
  have c4 : ¬ kind = 4 := by omega
  have c5 : ¬ kind = 5 := by omega
  have c6 : ¬ kind = 6 := by omega
  have c7 : ¬ kind = 7 := by omega
  have c8 : ¬ kind = 8 := by omega
  have c9 : ¬ kind = 9 := by omega
  have c10 : ¬ kind = 10 := by omega
  have c11 : ¬ kind = 11 := by omega
  have c12 : ¬ kind = 12 := by omega
  have c13 : ¬ kind = 13 := by omega
  have c14 : ¬ kind = 14 := by omega
  have c15 : ¬ kind = 15 := by omega
  have c16 : ¬ kind = 16 := by omega
  have c17 : ¬ kind = 17 := by omega
  have c18 : ¬ kind = 18 := by omega
  have c19 : ¬ kind = 19 := by omega
  have hA : arityK kind = -1 := by simp [arityK, c1, c2, c3, c4, c5, c6, c7, c8, c9, c10, c11, c12, c13, c14, c15, c16, c17, c18, c19]
  rw [hA] at CA
  simp +contextual -dsimp (maxSteps := 2000000) only [↓SD, SU, SB, simprocAttr, ir_impl_nodeOk, av_Node, av_Program, map_len, hc]
  refine aCallK_of _ CA ?_
  simp +contextual -dsimp (maxSteps := 2000000) only [↓SD, SU, SB, simprocAttr, map_len, hc, c1, c2, c3, c4, c5, c6, c7, c8, c9, c10, c11, c12, c13, c14, c15, c16, c17, c18, c19]
  (repeat' (first | intro _ | refine And.intro ?_ ?_))
  all_goals first | omega | (simp [nodeB, hA, c1, c2, c3, c4, c5, c6, c7, c8, c9, c10, c11, c12, c13, c14, c15, c16, c17, c18, c19]; done) | trace_state
end Go.Proofs.YtjifpdcflankpaaGreat

namespace Go.Proofs.YtjifpdcflankpaaGreat
open Go.RowKit Go.Proofs.YtjifpdcflankpaaGreat.Av Go.Proofs.YtjifpdcflankpaaGreat.Ml
open Go.Proofs.YtjifpdcflankpaaGreat.Av.AVal (av)

def varB (m : Int) (x : TyItem) : Bool := !(decide (x.name = bs []) && decide (m ≤ x.var))
theorem con_small {l : List Con} (hx : Bulk.bulk l ≤ 4294967296) {c : Con} (hn : c ∈ l) : c.name.size ≤ 4294967296 ∧ Bulk.bulk c.arg.items ≤ 4294967296 := by
 have h1 := bulk_mem hn
 have h2 : Bulk.bulk c = Bulk.bulk c.name + Bulk.bulk c.has + Bulk.bulk c.arg + 1 := rfl
 have h3 : Bulk.bulk c.arg = Bulk.bulk c.arg.items + 1 := rfl
 have h4 : Bulk.bulk c.name = c.name.size + 1 := rfl
 omega
theorem type_small {t : TypeD} (hx : Bulk.bulk t ≤ 4294967296) : t.name.size ≤ 4294967296 ∧ Bulk.bulk t.cons ≤ 4294967296 := by
 have h2 : Bulk.bulk t = Bulk.bulk t.name + Bulk.bulk t.params + Bulk.bulk t.cons + 1 := rfl
 have h4 : Bulk.bulk t.name = t.name.size + 1 := rfl
 omega
theorem conOkB_as (c : Con) (m : Int) : conOkB c m = (conB c.name && (if c.has then tyB c.arg.items else decide (c.arg.items = [])) && c.arg.items.all (varB m)) := rfl
def typeHB (t : TypeD) : Bool := nameB t.name && (decide (0 ≤ t.params) && decide (t.params ≤ 2)) && (decide (1 ≤ (t.cons.length : Int)) && decide ((t.cons.length : Int) ≤ 8))
theorem typeB_as (t : TypeD) : typeB t = (typeHB t && t.cons.all fun c => conOkB c t.params) := rfl
theorem within_cases (n a b : Int) : ∃ r : Bool, r = (decide (a ≤ n) && decide (n ≤ b)) ∧ CallsF Tryz.prog 86 [.int .i64 n, .int .i64 a, .int .i64 b] (.bool r) := ⟨_, rfl, within_ok n a b⟩

set_option maxHeartbeats 2000000 in
theorem typeOk_ok (t : TypeD) (hx : Bulk.bulk t ≤ 4294967296) : CallsF Tryz.prog 120 [av t] (.bool (typeB t)) := by
 obtain ⟨hs, hcb⟩ := type_small hx
 refine ir_impl_typeOk.F rfl (by simp; exact AVal.clean t) (AvPure.bool _) ?_
 obtain ⟨name, params, cons⟩ := t
 simp only at hs hcb
 have hl := bulk_length cons
 have C1 := implNameOk_ok name (by omega)
 obtain ⟨r2, hr2, C2⟩ := within_cases params 0 2
 obtain ⟨r3, hr3, C3⟩ := within_cases (cons.length : Int) 1 8
 have hH : typeHB ⟨name, params, cons⟩ = (nameB name && r2 && r3) := by rw [hr2, hr3]; rfl
 rw [typeB_as, hH]
 clear hr2 hr3 hH
 simp only
 generalize nameB name = r1 at *
 cases r1
 case false =>
  simp +contextual -dsimp (maxSteps := 2000000) only [↓SD, SU, SB, simprocAttr, ir_impl_typeOk, av_TypeD, map_len]
  refine aCallK_of _ C1 ?_
  simp +contextual -dsimp (maxSteps := 2000000) only [↓SD, SU, SB, simprocAttr, Bool.false_and]
 cases r2
 case false =>
  simp +contextual -dsimp (maxSteps := 2000000) only [↓SD, SU, SB, simprocAttr, ir_impl_typeOk, av_TypeD, map_len]
  refine aCallK_of _ C1 ?_
  simp +contextual -dsimp (maxSteps := 2000000) only [↓SD, SU, SB, simprocAttr]
  refine aCallK_of _ C2 ?_
  simp +contextual -dsimp (maxSteps := 2000000) only [↓SD, SU, SB, simprocAttr, Bool.false_and, Bool.and_false]
 cases r3
 case false =>
  simp +contextual -dsimp (maxSteps := 2000000) only [↓SD, SU, SB, simprocAttr, ir_impl_typeOk, av_TypeD, map_len]
  refine aCallK_of _ C1 ?_
  simp +contextual -dsimp (maxSteps := 2000000) only [↓SD, SU, SB, simprocAttr]
  refine aCallK_of _ C2 ?_
  simp +contextual -dsimp (maxSteps := 2000000) only [↓SD, SU, SB, simprocAttr, map_len]
  refine aCallK_of _ C3 ?_
  simp +contextual -dsimp (maxSteps := 2000000) only [↓SD, SU, SB, simprocAttr, Bool.false_and, Bool.and_false]
 simp +contextual -dsimp (maxSteps := 2000000) only [↓SD, SU, SB, simprocAttr, ir_impl_typeOk, av_TypeD, map_len]
 refine aCallK_of _ C1 ?_
 simp +contextual -dsimp (maxSteps := 2000000) only [↓SD, SU, SB, simprocAttr]
 refine aCallK_of _ C2 ?_
 simp +contextual -dsimp (maxSteps := 2000000) only [↓SD, SU, SB, simprocAttr, map_len]
 refine aCallK_of _ C3 ?_
 simp +contextual -dsimp (maxSteps := 2000000) only [↓SD, SU, SB, simprocAttr, map_len, Bool.true_and, Bool.and_self]
 refine aLoop_of (X := Nat) (fun k => ⟨[(1, .obj [.str name, .int .i64 params, .sl (cons.map av)]), (25, .sl (cons.map av)), (26, .int .i64 cons.length), (27, .int .i64 k)], []⟩) (fun k => k ≤ cons.length ∧ (cons.take k).all (fun c => conOkB c params) = true) (fun k => cons.length - k) 0 ⟨Nat.zero_le _, rfl⟩ (by simp +contextual -dsimp only [↓SD, SU, SB, simprocAttr]) trivial ?_
 rintro k ⟨hk, hp⟩
 by_cases hlt : k < cons.length
 ·have e := getD_map av cons k .top hlt
  obtain ⟨s1, s2⟩ := con_small hcb (List.getElem_mem hlt)
  have hno : conOkB cons[k] params = false → (cons.all fun c => conOkB c params) = false := fun h => all_false' _ hlt h
  have hyes : conOkB cons[k] params = true → ((cons.take (k + 1)).all fun c => conOkB c params) = true := fun h => by rw [all_take' _ hlt hp]; exact h
  generalize cons[k] = c at *
  obtain ⟨cn, ch, ⟨items⟩⟩ := c
  simp only at s1 s2
  have hil := bulk_length items
  rw [conOkB_as] at hno hyes
  simp only at hno hyes
  have D1 := implConOk_ok cn (by omega)
  have D2 := implTyOk_ok items s2
  generalize conB cn = b1 at *
  cases b1
  case false =>
   simp +contextual -dsimp (maxSteps := 2000000) only [↓SD, SU, SB, simprocAttr, map_len, hlt, e, av_Con]
   intro v
   refine aCallK_of _ D1 ?_
   simp +contextual -dsimp (maxSteps := 2000000) only [↓SD, SU, SB, simprocAttr]
   rw [hno rfl]
  cases ch
  case false =>
   by_cases hi : items = []
   ·subst hi
    simp +contextual -dsimp (maxSteps := 2000000) only [↓SD, SU, SB, simprocAttr, map_len, hlt, e, av_Con]
    intro v
    refine aCallK_of _ D1 ?_
    simp +contextual -dsimp (maxSteps := 2000000) only [↓SD, SU, SB, simprocAttr, map_len]
    refine aLoop_of (X := Unit) (fun _ => ⟨[(1, .obj [.str name, .int .i64 params, .sl (cons.map av)]), (25, .sl (cons.map av)), (26, .int .i64 cons.length), (27, .int .i64 k), (60, .int .i64 0), (61, .int .i64 0)], []⟩) (fun _ => True) (fun _ => 0) () trivial (by simp +contextual -dsimp only [↓SD, SU, SB, simprocAttr]) trivial ?_
    intro _ _
    simp +contextual -dsimp (maxSteps := 2000000) only [↓SD, SU, SB, simprocAttr, map_len]
    refine ⟨by omega, Goes.le ⟨k + 1, ⟨⟨hlt, hyes (by simp)⟩, (by first | omega | (simp only; omega))⟩, rfl⟩ (by simp +contextual -dsimp only [↓SD, SU, SB, simprocAttr, Int.natCast_add]) trivial⟩
   ·have hi0 : (0 : Int) < items.length := by have := List.length_pos_iff.2 hi; omega
    simp +contextual -dsimp (maxSteps := 2000000) only [↓SD, SU, SB, simprocAttr, map_len, hlt, e, av_Con]
    intro v
    refine aCallK_of _ D1 ?_
    simp +contextual -dsimp (maxSteps := 2000000) only [↓SD, SU, SB, simprocAttr, map_len, hi0]
    rw [hno (by simp [hi])]
  generalize tyB items = b2 at *
  cases b2
  case false =>
   simp +contextual -dsimp (maxSteps := 2000000) only [↓SD, SU, SB, simprocAttr, map_len, hlt, e, av_Con]
   intro v
   refine aCallK_of _ D1 ?_
   simp +contextual -dsimp (maxSteps := 2000000) only [↓SD, SU, SB, simprocAttr, map_len]
   refine aCallK_of _ D2 ?_
   simp +contextual -dsimp (maxSteps := 2000000) only [↓SD, SU, SB, simprocAttr, map_len]
   rw [hno (by simp)]
  simp +contextual -dsimp (maxSteps := 2000000) only [↓SD, SU, SB, simprocAttr, map_len, hlt, e, av_Con]
  intro v
  refine aCallK_of _ D1 ?_
  simp +contextual -dsimp (maxSteps := 2000000) only [↓SD, SU, SB, simprocAttr, map_len]
  refine aCallK_of _ D2 ?_
  simp +contextual -dsimp (maxSteps := 2000000) only [↓SD, SU, SB, simprocAttr, map_len]
  refine aLoop_of (X := Nat) (fun j => ⟨[(1, .obj [.str name, .int .i64 params, .sl (cons.map av)]), (25, .sl (cons.map av)), (26, .int .i64 cons.length), (27, .int .i64 k), (59, .sl (items.map av)), (60, .int .i64 items.length), (61, .int .i64 j)], []⟩) (fun j => j ≤ items.length ∧ (items.take j).all (varB params) = true) (fun j => items.length - j) 0 ⟨Nat.zero_le _, rfl⟩ (by simp +contextual -dsimp only [↓SD, SU, SB, simprocAttr]) trivial ?_
  rintro j ⟨hj, hq⟩
  by_cases hjl : j < items.length
  ·have e2 := getD_map av items j .top hjl
   have hno2 : varB params items[j] = false → (cons.all fun c => conOkB c params) = false := fun h => hno (by simp [all_false' _ hjl h])
   have hyes2 : varB params items[j] = true → (items.take (j + 1)).all (varB params) = true := fun h => by rw [all_take' _ hjl hq]; exact h
   generalize items[j] = x at *
   obtain ⟨vr, nm, ar⟩ := x
   simp +contextual -dsimp (maxSteps := 2000000) only [↓SD, SU, SB, simprocAttr, map_len, hjl, e2, av_TyItem]
   intro w
   (repeat' (first | intro _ | refine And.intro ?_ ?_))
   all_goals first
    | omega
    | exact Goes.le ⟨j + 1, ⟨⟨hjl, hyes2 (by simp [varB, *])⟩, (by first | omega | (simp only; omega))⟩, rfl⟩ (by simp +contextual -dsimp only [↓SD, SU, SB, simprocAttr, Int.natCast_add]) trivial
    | (rw [hno2 (by simp [varB, *])]; done)
    | exact Goes.le ⟨j + 1, ⟨⟨hjl, hyes2 (by simp [varB, *]; omega)⟩, (by first | omega | (simp only; omega))⟩, rfl⟩ (by simp +contextual -dsimp only [↓SD, SU, SB, simprocAttr, Int.natCast_add]) trivial
  ·obtain rfl : j = items.length := by omega
   rw [List.take_length] at hq
   simp +contextual -dsimp (maxSteps := 2000000) only [↓SD, SU, SB, simprocAttr, map_len, Nat.lt_irrefl]
   refine ⟨by omega, Goes.le ⟨k + 1, ⟨⟨hlt, hyes (by simp [hq])⟩, (by first | omega | (simp only; omega))⟩, rfl⟩ (by simp +contextual -dsimp only [↓SD, SU, SB, simprocAttr, Int.natCast_add]) trivial⟩
 ·obtain rfl : k = cons.length := by omega
  rw [List.take_length] at hp
  simp +contextual -dsimp (maxSteps := 2000000) only [↓SD, SU, SB, simprocAttr, map_len, Nat.lt_irrefl, hp]

theorem prog_small {p : Program} (hx : Bulk.bulk p ≤ 4294967296) : Bulk.bulk p.types ≤ 4294967296 ∧ Bulk.bulk p.nodes ≤ 4294967296 ∧ p.types.length ≤ 4294967296 ∧ p.nodes.length ≤ 4294967296 := by
 have h2 : Bulk.bulk p = Bulk.bulk p.types + Bulk.bulk p.nodes + 1 := rfl
 have := bulk_length p.types
 have := bulk_length p.nodes
 omega
theorem progPure (p : Program) : AvPure (.obj [.sl (p.types.map av), .sl (p.nodes.map av)]) := AvPure.obj (by simp; exact ⟨lav_clean _, lav_clean _⟩)
theorem shapeOk1_ok (p : Program) (i : Nat) (hi : i < p.nodes.length) : CallsF Tryz.prog 116 [.int .i64 i, .obj [.sl (p.types.map av), .sl (p.nodes.map av)]] (.sl ((nkids p.nodes i).map av)) := by
 refine ir_impl_shapeOk_1.F rfl (by simp; exact ⟨pint _, progPure p⟩) (lav_clean _) ?_
 have e := getD_map av p.nodes i .top hi
 simp +contextual -dsimp (maxSteps := 2000000) only [↓SD, SU, SB, simprocAttr, ir_impl_shapeOk_1, map_len, e, av_Node, hi, nkids, getD_at hi]
theorem shapeOk2_ok (t : TypeD) (hx : Bulk.bulk t ≤ 4294967296) : CallsF Tryz.prog 119 [av t] (.bool (!typeB t)) := by
 refine ir_impl_shapeOk_2.F rfl (by simp; exact AVal.clean t) (AvPure.bool _) ?_
 have C := typeOk_ok t hx
 rw [av_TypeD] at C
 simp +contextual -dsimp (maxSteps := 2000000) only [↓SD, SU, SB, simprocAttr, ir_impl_shapeOk_2, av_TypeD]
 refine aCallK_of _ C ?_
 simp +contextual -dsimp (maxSteps := 2000000) only [↓SD, SU, SB, simprocAttr]
def headP (p : Program) : Bool := (decide (1 ≤ (p.nodes.length : Int)) && decide ((p.nodes.length : Int) ≤ 600)) && decide ((p.types.length : Int) ≤ 8)
theorem shapeP_as (nm : Node → Bool) (p : Program) : shapeP nm p = (headP p && treeB (nkids p.nodes) p.nodes.length && p.nodes.all (nodeB nm p.nodes) && p.types.all typeB) := rfl

set_option maxHeartbeats 2000000 in
theorem shapeOk_ok (nm : Node → Bool) (p : Program) (g : FuncId) (caps : List AV) (hpc : ∀ x ∈ caps, AvPure x) (hc : ∀ hp, caps.map (AV.pur1 hp) = caps) (hg : ∀ n ∈ p.nodes, CallsF Tryz.prog g (av n :: caps) (.bool (nm n))) (hx : Bulk.bulk p ≤ 4294967296) :
  CallsF Tryz.prog 57 [av p, .fn g caps] (.bool (shapeP nm p)) := by
 obtain ⟨s1, s2, s3, s4⟩ := prog_small hx
 refine ir_impl_shapeOk.F rfl (by simp; exact ⟨AVal.clean p, AvPure.fn hpc⟩) (AvPure.bool _) ?_
 have C1 := within_ok (p.nodes.length : Int) 1 600
 rw [shapeP_as]
 by_cases hh : headP p = true
 ·have hh' := hh
  unfold headP at hh'
  simp only [Bool.and_eq_true, decide_eq_true_eq] at hh'
  obtain ⟨⟨h1, h2⟩, h3⟩ := hh'
  rw [decide_eq_true h1, decide_eq_true h2] at C1
  have h3' : ¬ (8 : Int) < p.types.length := by omega
  have C2 := inOrder_ok (nkids p.nodes) p.nodes.length s4 116 [.obj [.sl (p.types.map av), .sl (p.nodes.map av)]] (by simp; exact progPure p) (by intro hp; rfl) (fun i hi => ⟨by
   have := (node_small s2 (List.getElem_mem hi)).1
   rw [nkids, getD_at hi]; exact this, shapeOk1_ok p i hi⟩)
  simp +contextual -dsimp (maxSteps := 2000000) only [↓SD, SU, SB, simprocAttr, ir_impl_shapeOk, av_Program, map_len]
  refine aCallK_of _ C1 ?_
  simp +contextual -dsimp (maxSteps := 2000000) only [↓SD, SU, SB, simprocAttr, map_len, h3']
  rw [hh]
  cases ht : treeB (nkids p.nodes) p.nodes.length with
  | false =>
   rw [ht] at C2
   refine aCallK_of _ C2 ?_
   simp +contextual -dsimp (maxSteps := 2000000) only [↓SD, SU, SB, simprocAttr, Bool.and_false, Bool.false_and]
  | true =>
   rw [ht] at C2
   refine aCallK_of _ C2 ?_
   simp +contextual -dsimp (maxSteps := 2000000) only [↓SD, SU, SB, simprocAttr, map_len]
   refine aLoop_of (X := Nat) (fun k => ⟨[(1, .fn g caps), (2, .obj [.sl (p.types.map av), .sl (p.nodes.map av)]), (25, .sl (p.nodes.map av)), (26, .int .i64 p.nodes.length), (27, .int .i64 k)], []⟩) (fun k => k ≤ p.nodes.length ∧ (p.nodes.take k).all (nodeB nm p.nodes) = true) (fun k => p.nodes.length - k) 0 ⟨Nat.zero_le _, rfl⟩ (by simp +contextual -dsimp only [↓SD, SU, SB, simprocAttr]) trivial ?_
   rintro k ⟨hk, hp⟩
   by_cases hlt : k < p.nodes.length
   ·have e := getD_map av p.nodes k .top hlt
    have hm := List.getElem_mem hlt
    obtain ⟨b1, b2, b3, b4⟩ := node_small s2 hm
    have C3 := nodeOk_ok nm p p.nodes[k] g caps hpc hc (hg _ hm) s4 b1 b2 b4 (fun x hx' => by
     have := tree_in ht hlt (k := x) (by rw [nkids, getD_at hlt]; exact hx')
     omega)
    have hno : nodeB nm p.nodes p.nodes[k] = false → p.nodes.all (nodeB nm p.nodes) = false := fun h => all_false' _ hlt h
    have hyes : nodeB nm p.nodes p.nodes[k] = true → (p.nodes.take (k + 1)).all (nodeB nm p.nodes) = true := fun h => by rw [all_take' _ hlt hp]; exact h
    generalize p.nodes[k] = n at *
    rw [av_Node, av_Program] at C3
    simp +contextual -dsimp (maxSteps := 2000000) only [↓SD, SU, SB, simprocAttr, map_len, hlt, e, av_Node, hc]
    intro v
    refine aCallK_of _ C3 ?_
    simp +contextual -dsimp (maxSteps := 2000000) only [↓SD, SU, SB, simprocAttr, hc]
    refine ⟨fun h => by rw [hno h]; simp, fun h => ⟨by omega, Goes.le ⟨k + 1, ⟨⟨hlt, hyes h⟩, (by first | omega | (simp only; omega))⟩, rfl⟩ (by simp +contextual -dsimp only [↓SD, SU, SB, simprocAttr, Int.natCast_add]) trivial⟩⟩
   ·obtain rfl : k = p.nodes.length := by omega
    rw [List.take_length] at hp
    have C4 := ContainsFunc_Type_ok p.types 119 [] (fun t => !typeB t) (by omega) (by simp) (by intro hp; rfl) (fun t ht' => shapeOk2_ok t (by have := bulk_mem ht'; omega))
    simp +contextual -dsimp (maxSteps := 2000000) only [↓SD, SU, SB, simprocAttr, map_len, Nat.lt_irrefl]
    refine aCallK_of _ C4 ?_
    simp +contextual -dsimp (maxSteps := 2000000) only [↓SD, SU, SB, simprocAttr, hp, Bool.true_and, Bool.and_true, Bool.and_self]
    congr 1
    rw [List.all_eq_not_any_not]
 ·have hh0 : headP p = false := by simpa using hh
  rw [hh0]
  by_cases hw : 1 ≤ (p.nodes.length : Int) ∧ (p.nodes.length : Int) ≤ 600
  ·rw [decide_eq_true hw.1, decide_eq_true hw.2] at C1
   have h3 : (8 : Int) < p.types.length := by
    unfold headP at hh0
    rw [decide_eq_true hw.1, decide_eq_true hw.2, Bool.true_and, Bool.true_and] at hh0
    have := of_decide_eq_false hh0
    omega
   simp +contextual -dsimp (maxSteps := 2000000) only [↓SD, SU, SB, simprocAttr, ir_impl_shapeOk, av_Program, map_len]
   refine aCallK_of _ C1 ?_
   simp +contextual -dsimp (maxSteps := 2000000) only [↓SD, SU, SB, simprocAttr, map_len, h3, Bool.false_and]
  ·have hf : (decide (1 ≤ (p.nodes.length : Int)) && decide ((p.nodes.length : Int) ≤ 600)) = false := by
    rw [Bool.and_eq_false_iff, decide_eq_false_iff_not, decide_eq_false_iff_not]; omega
   rw [hf] at C1
   simp +contextual -dsimp (maxSteps := 2000000) only [↓SD, SU, SB, simprocAttr, ir_impl_shapeOk, av_Program, map_len]
   refine aCallK_of _ C1 ?_
   simp +contextual -dsimp (maxSteps := 2000000) only [↓SD, SU, SB, simprocAttr, Bool.false_and]

theorem programOk1_ok (n : Node) (hs : n.s.size ≤ 4294967296) : CallsF Tryz.prog 58 [av n] (.bool (nameN n)) := by
 refine ir_impl_ProgramOk_1.F rfl (by simp; exact AVal.clean n) (AvPure.bool _) ?_
 simp +contextual -dsimp (maxSteps := 2000000) only [↓SD, SU, SB, simprocAttr, ir_impl_ProgramOk_1, av_Node]
 refine aCallK_of _ (implNameOk_ok _ (by omega)) ?_
 simp +contextual -dsimp (maxSteps := 2000000) only [↓SD, SU, SB, simprocAttr]
 (repeat' (first | intro _ | refine And.intro ?_ ?_))
 all_goals simp [nameN, *]
theorem programOk2_ok (q : Pat) (hx : Bulk.bulk q.nodes ≤ 4294967296) : CallsF Tryz.prog 61 [av q] (.bool (!patB q.nodes)) := by
 refine ir_impl_ProgramOk_2.F rfl (by simp; exact AVal.clean q) (AvPure.bool _) ?_
 simp +contextual -dsimp (maxSteps := 2000000) only [↓SD, SU, SB, simprocAttr, ir_impl_ProgramOk_2, av_Pat]
 refine aCallK_of _ (implPatOk_ok q.nodes hx) ?_
 simp +contextual -dsimp (maxSteps := 2000000) only [↓SD, SU, SB, simprocAttr]
theorem pat_small {l : List Pat} (hx : Bulk.bulk l ≤ 4294967296) {q : Pat} (hn : q ∈ l) : Bulk.bulk q.nodes ≤ 4294967296 := by
 have h1 := bulk_mem hn
 have h2 : Bulk.bulk q = Bulk.bulk q.nodes + 1 := rfl
 omega
def patsB (n : Node) : Bool := n.pats.all fun q => patB q.nodes
theorem progB_as (p : Program) : progB p = (shapeP nameN p && p.nodes.all patsB) := rfl
theorem implProgramOk_ok (p : Program) (hx : Bulk.bulk p ≤ 4294967296) : CallsF Tryz.prog 29 [av p] (.bool (progB p)) := by
 obtain ⟨s1, s2, s3, s4⟩ := prog_small hx
 refine ir_impl_ProgramOk.F rfl (by simp; exact AVal.clean p) (AvPure.bool _) ?_
 have C1 := shapeOk_ok nameN p 58 [] (by simp) (by intro hp; rfl) (fun n hn => programOk1_ok n (node_small s2 hn).2.1) hx
 rw [av_Program] at C1
 simp +contextual -dsimp (maxSteps := 2000000) only [↓SD, SU, SB, simprocAttr, ir_impl_ProgramOk, av_Program, map_len]
 rw [progB_as]
 cases hsh : shapeP nameN p with
 | false =>
  rw [hsh] at C1
  refine aCallK_of _ C1 ?_
  simp +contextual -dsimp (maxSteps := 2000000) only [↓SD, SU, SB, simprocAttr, Bool.false_and]
 | true =>
  rw [hsh] at C1
  refine aCallK_of _ C1 ?_
  simp +contextual -dsimp (maxSteps := 2000000) only [↓SD, SU, SB, simprocAttr, map_len, Bool.true_and]
  refine aLoop_of (X := Nat) (fun k => ⟨[(9, .sl (p.nodes.map av)), (10, .int .i64 p.nodes.length), (11, .int .i64 k)], []⟩) (fun k => k ≤ p.nodes.length ∧ (p.nodes.take k).all patsB = true) (fun k => p.nodes.length - k) 0 ⟨Nat.zero_le _, rfl⟩ (by simp +contextual -dsimp only [↓SD, SU, SB, simprocAttr]) trivial ?_
  rintro k ⟨hk, hp⟩
  by_cases hlt : k < p.nodes.length
  ·have e := getD_map av p.nodes k .top hlt
   have hm := List.getElem_mem hlt
   obtain ⟨b1, b2, b3, b4⟩ := node_small s2 hm
   have C3 := ContainsFunc_Pat_ok p.nodes[k].pats 61 [] (fun q => !patB q.nodes) (by omega) (by simp) (by intro hp; rfl) (fun q hq => programOk2_ok q (pat_small b3 hq))
   have hno : patsB p.nodes[k] = false → p.nodes.all patsB = false := fun h => all_false' _ hlt h
   have hyes : patsB p.nodes[k] = true → (p.nodes.take (k + 1)).all patsB = true := fun h => by rw [all_take' _ hlt hp]; exact h
   have hpe : (p.nodes[k].pats.any fun q => !patB q.nodes) = !patsB p.nodes[k] := by
    unfold patsB; rw [List.all_eq_not_any_not, Bool.not_not]
   rw [hpe] at C3
   generalize p.nodes[k] = n at *
   simp +contextual -dsimp (maxSteps := 2000000) only [↓SD, SU, SB, simprocAttr, map_len, hlt, e, av_Node]
   intro v
   refine aCallK_of _ C3 ?_
   simp +contextual -dsimp (maxSteps := 2000000) only [↓SD, SU, SB, simprocAttr]
   refine ⟨fun h => by rw [hno h], fun h => ⟨by omega, Goes.le ⟨k + 1, ⟨⟨hlt, hyes h⟩, (by first | omega | (simp only; omega))⟩, rfl⟩ (by simp +contextual -dsimp only [↓SD, SU, SB, simprocAttr, Int.natCast_add]) trivial⟩⟩
  ·obtain rfl : k = p.nodes.length := by omega
   rw [List.take_length] at hp
   simp +contextual -dsimp (maxSteps := 2000000) only [↓SD, SU, SB, simprocAttr, map_len, Nat.lt_irrefl, hp]
end Go.Proofs.YtjifpdcflankpaaGreat

namespace Go.Proofs.YtjifpdcflankpaaGreat
open Go.RowKit Go.Proofs.YtjifpdcflankpaaGreat.Av Go.Proofs.YtjifpdcflankpaaGreat.Ml
open Go.Proofs.YtjifpdcflankpaaGreat.Av.AVal (av)

def inB (m : Nat) (k : Int) : Bool := decide (0 ≤ k) && decide (k < m)
def nodeSB (l : List Node) (n : Node) : Bool := n.kids.all (inB l.length) && nodeB nameN l n && patsB n

set_option maxHeartbeats 16000000 in
theorem l04Node_ok (p : Program) (n : Node) (hl : p.nodes.length ≤ 4294967296) (hk : n.kids.length ≤ 4294967296) (hs : n.s.size ≤ 4294967296) (hq : n.pats.length ≤ 4294967296) (hqb : Bulk.bulk n.pats ≤ 4294967296) :
  CallsF Tryz.prog 48 [av p, av n] (.bool (nodeSB p.nodes n)) := by
 refine ir_spec_l04Node.F rfl (by simp; exact ⟨AVal.clean p, AVal.clean n⟩) (AvPure.bool _) ?_
 have CA := l04Kids_ok n.kind
 by_cases hkk : 1 ≤ n.kind ∧ n.kind ≤ 19
 ·obtain ⟨kind, pos, nn, s, kids, pats⟩ := n
  simp only at hk hs hq hkk CA hqb
  by_cases hpre : 0 ≤ pos ∧ (kind ≠ 1 → nn = 0) ∧ 0 ≤ nn ∧ nn ≤ 4611686018427387903
  ·obtain ⟨p1, p2, p3, p4⟩ := hpre
   have p1' : ¬ pos < 0 := by omega
   have p3' : ¬ nn < 0 := by omega
   have p4' : ¬ (4611686018427387903 : Int) < nn := by omega
   have hrun : True := trivial
   rcases kinds hkk with rfl | rfl | rfl | rfl | rfl | rfl | rfl | rfl | rfl | rfl | rfl | rfl | rfl | rfl | rfl | rfl | rfl | rfl | rfl
   case inl =>
    have hA : arityK 1 = 0 := rfl
    rw [hA] at CA
    clear hkk
    simp +contextual -dsimp (maxSteps := 2000000) only [↓SD, SU, SB, simprocAttr, ir_spec_l04Node, av_Node, av_Program, map_len, p1', p3', p4']
    refine aLoop_of (X := Nat) (fun j => ⟨[(2, .obj [.sl (p.types.map av), .sl (p.nodes.map av)]), (3, .obj [.int .i64 1, .int .i64 pos, .int .i64 nn, .str s, .sl (kids.map av), .sl (pats.map av)]), (44, .sl (kids.map av)), (45, .int .i64 kids.length), (46, .int .i64 j)], []⟩) (fun j => j ≤ kids.length ∧ (kids.take j).all (inB p.nodes.length) = true) (fun j => kids.length - j) 0 ⟨Nat.zero_le _, rfl⟩ (by simp +contextual -dsimp only [↓SD, SU, SB, simprocAttr]) trivial ?_
    rintro j ⟨hj, hp⟩
    by_cases hjl : j < kids.length
    ·have e := getD_map av kids j .top hjl
     have hno : inB p.nodes.length kids[j] = false → nodeSB p.nodes ⟨1, pos, nn, s, kids, pats⟩ = false := fun h => by simp [nodeSB, all_false' _ hjl h]
     have hyes : inB p.nodes.length kids[j] = true → (kids.take (j + 1)).all (inB p.nodes.length) = true := fun h => by rw [all_take' _ hjl hp]; exact h
     generalize kids[j] = x at *
     simp +contextual -dsimp (maxSteps := 2000000) only [↓SD, SU, SB, simprocAttr, map_len, hjl, e, av_int]
     (repeat' (first | intro _ | refine And.intro ?_ ?_))
     all_goals first
      | omega
      | (rw [hno (by simp [inB]; omega)]; done)
      | exact Goes.le ⟨j + 1, ⟨⟨hjl, hyes (by simp [inB]; omega)⟩, (by first | omega | (simp only; omega))⟩, rfl⟩ (by simp +contextual -dsimp only [↓SD, SU, SB, simprocAttr, Int.natCast_add]) trivial
    ·obtain rfl : j = kids.length := by omega
     rw [List.take_length] at hp
     rcases pats with _ | ⟨q0, qs⟩ <;>
     ((try simp only [List.length_cons] at hq)
      simp +contextual -dsimp (maxSteps := 2000000) only [↓SD, SU, SB, simprocAttr, map_len, Nat.lt_irrefl, List.length_map]
      (repeat' (first | intro _ | refine And.intro ?_ ?_))
      all_goals first | omega | skip
      all_goals first | (refine aCallK_of _ (specNameOk_ok s (by omega)) ?_; simp +contextual -dsimp (maxSteps := 2000000) only [↓SD, SU, SB, simprocAttr, *, map_len]; (repeat' (first | intro _ | refine And.intro ?_ ?_))) | (refine aCallK_of _ (l04Prim_ok s) ?_; simp +contextual -dsimp (maxSteps := 2000000) only [↓SD, SU, SB, simprocAttr, *, map_len]; (repeat' (first | intro _ | refine And.intro ?_ ?_))) | skip
      all_goals first | omega | skip
      all_goals first | (refine aCallK_of _ CA ?_; simp +contextual -dsimp (maxSteps := 2000000) only [↓SD, SU, SB, simprocAttr, *, map_len]; (repeat' (first | intro _ | refine And.intro ?_ ?_))) | skip
      all_goals first | omega | (simp [nodeSB, nodeB, patsB, nameN, onlyKind, firstKind, *]; done) | (have kne : kids ≠ [] := (fun h => by subst h; simp at *); simp [nodeSB, nodeB, hA, kne]; done) | (simp [nodeSB, nodeB, patsB, nameN, onlyKind, firstKind, *]; omega) | trace_state)
   case inr.inl =>
    obtain rfl : nn = 0 := p2 (by decide)
    clear p2 p3' p4'
    have hA : arityK 2 = 0 := rfl
    rw [hA] at CA
    clear hkk
    simp +contextual -dsimp (maxSteps := 2000000) only [↓SD, SU, SB, simprocAttr, ir_spec_l04Node, av_Node, av_Program, map_len, p1']
    refine aLoop_of (X := Nat) (fun j => ⟨[(2, .obj [.sl (p.types.map av), .sl (p.nodes.map av)]), (3, .obj [.int .i64 2, .int .i64 pos, .int .i64 0, .str s, .sl (kids.map av), .sl (pats.map av)]), (44, .sl (kids.map av)), (45, .int .i64 kids.length), (46, .int .i64 j)], []⟩) (fun j => j ≤ kids.length ∧ (kids.take j).all (inB p.nodes.length) = true) (fun j => kids.length - j) 0 ⟨Nat.zero_le _, rfl⟩ (by simp +contextual -dsimp only [↓SD, SU, SB, simprocAttr]) trivial ?_
    rintro j ⟨hj, hp⟩
    by_cases hjl : j < kids.length
    ·have e := getD_map av kids j .top hjl
     have hno : inB p.nodes.length kids[j] = false → nodeSB p.nodes ⟨2, pos, 0, s, kids, pats⟩ = false := fun h => by simp [nodeSB, all_false' _ hjl h]
     have hyes : inB p.nodes.length kids[j] = true → (kids.take (j + 1)).all (inB p.nodes.length) = true := fun h => by rw [all_take' _ hjl hp]; exact h
     generalize kids[j] = x at *
     simp +contextual -dsimp (maxSteps := 2000000) only [↓SD, SU, SB, simprocAttr, map_len, hjl, e, av_int]
     (repeat' (first | intro _ | refine And.intro ?_ ?_))
     all_goals first
      | omega
      | (rw [hno (by simp [inB]; omega)]; done)
      | exact Goes.le ⟨j + 1, ⟨⟨hjl, hyes (by simp [inB]; omega)⟩, (by first | omega | (simp only; omega))⟩, rfl⟩ (by simp +contextual -dsimp only [↓SD, SU, SB, simprocAttr, Int.natCast_add]) trivial
    ·obtain rfl : j = kids.length := by omega
     rw [List.take_length] at hp
     rcases pats with _ | ⟨q0, qs⟩ <;>
     ((try simp only [List.length_cons] at hq)
      simp +contextual -dsimp (maxSteps := 2000000) only [↓SD, SU, SB, simprocAttr, map_len, Nat.lt_irrefl, List.length_map]
      (repeat' (first | intro _ | refine And.intro ?_ ?_))
      all_goals first | omega | skip
      all_goals first | (refine aCallK_of _ (specNameOk_ok s (by omega)) ?_; simp +contextual -dsimp (maxSteps := 2000000) only [↓SD, SU, SB, simprocAttr, *, map_len]; (repeat' (first | intro _ | refine And.intro ?_ ?_))) | (refine aCallK_of _ (l04Prim_ok s) ?_; simp +contextual -dsimp (maxSteps := 2000000) only [↓SD, SU, SB, simprocAttr, *, map_len]; (repeat' (first | intro _ | refine And.intro ?_ ?_))) | skip
      all_goals first | omega | skip
      all_goals first | (refine aCallK_of _ CA ?_; simp +contextual -dsimp (maxSteps := 2000000) only [↓SD, SU, SB, simprocAttr, *, map_len]; (repeat' (first | intro _ | refine And.intro ?_ ?_))) | skip
      all_goals first | omega | (simp [nodeSB, nodeB, patsB, nameN, onlyKind, firstKind, *]; done) | (have kne : kids ≠ [] := (fun h => by subst h; simp at *); simp [nodeSB, nodeB, hA, kne]; done) | (simp [nodeSB, nodeB, patsB, nameN, onlyKind, firstKind, *]; omega) | trace_state)
   case inr.inr.inl =>
    obtain rfl : nn = 0 := p2 (by decide)
    clear p2 p3' p4'
    have hA : arityK 3 = 0 := rfl
    rw [hA] at CA
    clear hkk
    simp +contextual -dsimp (maxSteps := 2000000) only [↓SD, SU, SB, simprocAttr, ir_spec_l04Node, av_Node, av_Program, map_len, p1']
    refine aLoop_of (X := Nat) (fun j => ⟨[(2, .obj [.sl (p.types.map av), .sl (p.nodes.map av)]), (3, .obj [.int .i64 3, .int .i64 pos, .int .i64 0, .str s, .sl (kids.map av), .sl (pats.map av)]), (44, .sl (kids.map av)), (45, .int .i64 kids.length), (46, .int .i64 j)], []⟩) (fun j => j ≤ kids.length ∧ (kids.take j).all (inB p.nodes.length) = true) (fun j => kids.length - j) 0 ⟨Nat.zero_le _, rfl⟩ (by simp +contextual -dsimp only [↓SD, SU, SB, simprocAttr]) trivial ?_
    rintro j ⟨hj, hp⟩
    by_cases hjl : j < kids.length
    ·have e := getD_map av kids j .top hjl
     have hno : inB p.nodes.length kids[j] = false → nodeSB p.nodes ⟨3, pos, 0, s, kids, pats⟩ = false := fun h => by simp [nodeSB, all_false' _ hjl h]
     have hyes : inB p.nodes.length kids[j] = true → (kids.take (j + 1)).all (inB p.nodes.length) = true := fun h => by rw [all_take' _ hjl hp]; exact h
     generalize kids[j] = x at *
     simp +contextual -dsimp (maxSteps := 2000000) only [↓SD, SU, SB, simprocAttr, map_len, hjl, e, av_int]
     (repeat' (first | intro _ | refine And.intro ?_ ?_))
     all_goals first
      | omega
      | (rw [hno (by simp [inB]; omega)]; done)
      | exact Goes.le ⟨j + 1, ⟨⟨hjl, hyes (by simp [inB]; omega)⟩, (by first | omega | (simp only; omega))⟩, rfl⟩ (by simp +contextual -dsimp only [↓SD, SU, SB, simprocAttr, Int.natCast_add]) trivial
    ·obtain rfl : j = kids.length := by omega
     rw [List.take_length] at hp
     rcases pats with _ | ⟨q0, qs⟩ <;>
     ((try simp only [List.length_cons] at hq)
      simp +contextual -dsimp (maxSteps := 2000000) only [↓SD, SU, SB, simprocAttr, map_len, Nat.lt_irrefl, List.length_map]
      (repeat' (first | intro _ | refine And.intro ?_ ?_))
      all_goals first | omega | skip
      all_goals first | (refine aCallK_of _ (specNameOk_ok s (by omega)) ?_; simp +contextual -dsimp (maxSteps := 2000000) only [↓SD, SU, SB, simprocAttr, *, map_len]; (repeat' (first | intro _ | refine And.intro ?_ ?_))) | (refine aCallK_of _ (l04Prim_ok s) ?_; simp +contextual -dsimp (maxSteps := 2000000) only [↓SD, SU, SB, simprocAttr, *, map_len]; (repeat' (first | intro _ | refine And.intro ?_ ?_))) | skip
      all_goals first | omega | skip
      all_goals first | (refine aCallK_of _ CA ?_; simp +contextual -dsimp (maxSteps := 2000000) only [↓SD, SU, SB, simprocAttr, *, map_len]; (repeat' (first | intro _ | refine And.intro ?_ ?_))) | skip
      all_goals first | omega | (simp [nodeSB, nodeB, patsB, nameN, onlyKind, firstKind, *]; done) | (have kne : kids ≠ [] := (fun h => by subst h; simp at *); simp [nodeSB, nodeB, hA, kne]; done) | (simp [nodeSB, nodeB, patsB, nameN, onlyKind, firstKind, *]; omega) | trace_state)
   case inr.inr.inr.inl =>
    obtain rfl : nn = 0 := p2 (by decide)
    clear p2 p3' p4'
    have hA : arityK 4 = -1 := rfl
    rw [hA] at CA
    clear hkk
    simp +contextual -dsimp (maxSteps := 2000000) only [↓SD, SU, SB, simprocAttr, ir_spec_l04Node, av_Node, av_Program, map_len, p1']
    refine aLoop_of (X := Nat) (fun j => ⟨[(2, .obj [.sl (p.types.map av), .sl (p.nodes.map av)]), (3, .obj [.int .i64 4, .int .i64 pos, .int .i64 0, .str s, .sl (kids.map av), .sl (pats.map av)]), (44, .sl (kids.map av)), (45, .int .i64 kids.length), (46, .int .i64 j)], []⟩) (fun j => j ≤ kids.length ∧ (kids.take j).all (inB p.nodes.length) = true) (fun j => kids.length - j) 0 ⟨Nat.zero_le _, rfl⟩ (by simp +contextual -dsimp only [↓SD, SU, SB, simprocAttr]) trivial ?_
    rintro j ⟨hj, hp⟩
    by_cases hjl : j < kids.length
    ·have e := getD_map av kids j .top hjl
     have hno : inB p.nodes.length kids[j] = false → nodeSB p.nodes ⟨4, pos, 0, s, kids, pats⟩ = false := fun h => by simp [nodeSB, all_false' _ hjl h]
     have hyes : inB p.nodes.length kids[j] = true → (kids.take (j + 1)).all (inB p.nodes.length) = true := fun h => by rw [all_take' _ hjl hp]; exact h
     generalize kids[j] = x at *
     simp +contextual -dsimp (maxSteps := 2000000) only [↓SD, SU, SB, simprocAttr, map_len, hjl, e, av_int]
     (repeat' (first | intro _ | refine And.intro ?_ ?_))
     all_goals first
      | omega
      | (rw [hno (by simp [inB]; omega)]; done)
      | exact Goes.le ⟨j + 1, ⟨⟨hjl, hyes (by simp [inB]; omega)⟩, (by first | omega | (simp only; omega))⟩, rfl⟩ (by simp +contextual -dsimp only [↓SD, SU, SB, simprocAttr, Int.natCast_add]) trivial
    ·obtain rfl : j = kids.length := by omega
     rw [List.take_length] at hp
     have hin : ∀ k ∈ kids, 0 ≤ k ∧ k < p.nodes.length := fun k hk' => by
      have := List.all_eq_true.1 hp k hk'
      simpa [inB] using this
     clear hjl hj
     rcases kids with _ | ⟨k0, _ | ⟨k1, ks⟩⟩
     case cons.nil =>
      obtain ⟨g0, g1⟩ := hin k0 (by simp)
      have g2 : k0.toNat < p.nodes.length := by omega
      have e := av_getD p.nodes default g2
      rw [av_Node] at e
      rcases pats with _ | ⟨q0, qs⟩ <;>
      (simp +contextual -dsimp (maxSteps := 2000000) only [↓SD, SU, SB, simprocAttr, map_len, Nat.lt_irrefl, av_int, g0, g1, g2, e]
       (repeat' (first | intro _ | refine And.intro ?_ ?_))
       all_goals first | omega | skip
       all_goals first | (refine aCallK_of _ (l04ConOk_ok _ _ _ (by omega)) ?_; simp +contextual -dsimp (maxSteps := 2000000) only [↓SD, SU, SB, simprocAttr, *, map_len]; (repeat' (first | intro _ | refine And.intro ?_ ?_))) | skip
       all_goals first | omega | (simp [nodeSB, nodeB, patsB, nameN, onlyKind, firstKind, *]; done) | (simp [nodeSB, nodeB, patsB, nameN, onlyKind, firstKind, *]; omega) | trace_state)
     all_goals
      rcases pats with _ | ⟨q0, qs⟩ <;>
      (simp +contextual -dsimp (maxSteps := 2000000) only [↓SD, SU, SB, simprocAttr, map_len, Nat.lt_irrefl, av_int]
       (repeat' (first | intro _ | refine And.intro ?_ ?_))
       all_goals first | omega | skip
       all_goals first | (refine aCallK_of _ (l04ConOk_ok _ _ _ (by omega)) ?_; simp +contextual -dsimp (maxSteps := 2000000) only [↓SD, SU, SB, simprocAttr, *, map_len]; (repeat' (first | intro _ | refine And.intro ?_ ?_))) | skip
       all_goals first | omega | (simp [nodeSB, nodeB, patsB, nameN, onlyKind, firstKind, *]; done) | (simp [nodeSB, nodeB, patsB, nameN, onlyKind, firstKind, *]; omega) | trace_state)
   case inr.inr.inr.inr.inl =>
    obtain rfl : nn = 0 := p2 (by decide)
    clear p2 p3' p4'
    have hA : arityK 5 = 1 := rfl
    rw [hA] at CA
    clear hkk
    simp +contextual -dsimp (maxSteps := 2000000) only [↓SD, SU, SB, simprocAttr, ir_spec_l04Node, av_Node, av_Program, map_len, p1']
    refine aLoop_of (X := Nat) (fun j => ⟨[(2, .obj [.sl (p.types.map av), .sl (p.nodes.map av)]), (3, .obj [.int .i64 5, .int .i64 pos, .int .i64 0, .str s, .sl (kids.map av), .sl (pats.map av)]), (44, .sl (kids.map av)), (45, .int .i64 kids.length), (46, .int .i64 j)], []⟩) (fun j => j ≤ kids.length ∧ (kids.take j).all (inB p.nodes.length) = true) (fun j => kids.length - j) 0 ⟨Nat.zero_le _, rfl⟩ (by simp +contextual -dsimp only [↓SD, SU, SB, simprocAttr]) trivial ?_
    rintro j ⟨hj, hp⟩
    by_cases hjl : j < kids.length
    ·have e := getD_map av kids j .top hjl
     have hno : inB p.nodes.length kids[j] = false → nodeSB p.nodes ⟨5, pos, 0, s, kids, pats⟩ = false := fun h => by simp [nodeSB, all_false' _ hjl h]
     have hyes : inB p.nodes.length kids[j] = true → (kids.take (j + 1)).all (inB p.nodes.length) = true := fun h => by rw [all_take' _ hjl hp]; exact h
     generalize kids[j] = x at *
     simp +contextual -dsimp (maxSteps := 2000000) only [↓SD, SU, SB, simprocAttr, map_len, hjl, e, av_int]
     (repeat' (first | intro _ | refine And.intro ?_ ?_))
     all_goals first
      | omega
      | (rw [hno (by simp [inB]; omega)]; done)
      | exact Goes.le ⟨j + 1, ⟨⟨hjl, hyes (by simp [inB]; omega)⟩, (by first | omega | (simp only; omega))⟩, rfl⟩ (by simp +contextual -dsimp only [↓SD, SU, SB, simprocAttr, Int.natCast_add]) trivial
    ·obtain rfl : j = kids.length := by omega
     rw [List.take_length] at hp
     rcases pats with _ | ⟨q0, qs⟩ <;>
     ((try simp only [List.length_cons] at hq)
      simp +contextual -dsimp (maxSteps := 2000000) only [↓SD, SU, SB, simprocAttr, map_len, Nat.lt_irrefl, List.length_map]
      (repeat' (first | intro _ | refine And.intro ?_ ?_))
      all_goals first | omega | skip
      all_goals first | (refine aCallK_of _ (specNameOk_ok s (by omega)) ?_; simp +contextual -dsimp (maxSteps := 2000000) only [↓SD, SU, SB, simprocAttr, *, map_len]; (repeat' (first | intro _ | refine And.intro ?_ ?_))) | (refine aCallK_of _ (l04Prim_ok s) ?_; simp +contextual -dsimp (maxSteps := 2000000) only [↓SD, SU, SB, simprocAttr, *, map_len]; (repeat' (first | intro _ | refine And.intro ?_ ?_))) | skip
      all_goals first | omega | skip
      all_goals first | (refine aCallK_of _ CA ?_; simp +contextual -dsimp (maxSteps := 2000000) only [↓SD, SU, SB, simprocAttr, *, map_len]; (repeat' (first | intro _ | refine And.intro ?_ ?_))) | skip
      all_goals first | omega | (simp [nodeSB, nodeB, patsB, nameN, onlyKind, firstKind, *]; done) | (have kne : kids ≠ [] := (fun h => by subst h; simp at *); simp [nodeSB, nodeB, hA, kne]; done) | (simp [nodeSB, nodeB, patsB, nameN, onlyKind, firstKind, *]; omega) | trace_state)
   case inr.inr.inr.inr.inr.inl =>
    obtain rfl : nn = 0 := p2 (by decide)
    clear p2 p3' p4'
    have hA : arityK 6 = 2 := rfl
    rw [hA] at CA
    clear hkk
    simp +contextual -dsimp (maxSteps := 2000000) only [↓SD, SU, SB, simprocAttr, ir_spec_l04Node, av_Node, av_Program, map_len, p1']
    refine aLoop_of (X := Nat) (fun j => ⟨[(2, .obj [.sl (p.types.map av), .sl (p.nodes.map av)]), (3, .obj [.int .i64 6, .int .i64 pos, .int .i64 0, .str s, .sl (kids.map av), .sl (pats.map av)]), (44, .sl (kids.map av)), (45, .int .i64 kids.length), (46, .int .i64 j)], []⟩) (fun j => j ≤ kids.length ∧ (kids.take j).all (inB p.nodes.length) = true) (fun j => kids.length - j) 0 ⟨Nat.zero_le _, rfl⟩ (by simp +contextual -dsimp only [↓SD, SU, SB, simprocAttr]) trivial ?_
    rintro j ⟨hj, hp⟩
    by_cases hjl : j < kids.length
    ·have e := getD_map av kids j .top hjl
     have hno : inB p.nodes.length kids[j] = false → nodeSB p.nodes ⟨6, pos, 0, s, kids, pats⟩ = false := fun h => by simp [nodeSB, all_false' _ hjl h]
     have hyes : inB p.nodes.length kids[j] = true → (kids.take (j + 1)).all (inB p.nodes.length) = true := fun h => by rw [all_take' _ hjl hp]; exact h
     generalize kids[j] = x at *
     simp +contextual -dsimp (maxSteps := 2000000) only [↓SD, SU, SB, simprocAttr, map_len, hjl, e, av_int]
     (repeat' (first | intro _ | refine And.intro ?_ ?_))
     all_goals first
      | omega
      | (rw [hno (by simp [inB]; omega)]; done)
      | exact Goes.le ⟨j + 1, ⟨⟨hjl, hyes (by simp [inB]; omega)⟩, (by first | omega | (simp only; omega))⟩, rfl⟩ (by simp +contextual -dsimp only [↓SD, SU, SB, simprocAttr, Int.natCast_add]) trivial
    ·obtain rfl : j = kids.length := by omega
     rw [List.take_length] at hp
     rcases pats with _ | ⟨q0, qs⟩ <;>
     ((try simp only [List.length_cons] at hq)
      simp +contextual -dsimp (maxSteps := 2000000) only [↓SD, SU, SB, simprocAttr, map_len, Nat.lt_irrefl, List.length_map]
      (repeat' (first | intro _ | refine And.intro ?_ ?_))
      all_goals first | omega | skip
      all_goals first | (refine aCallK_of _ (specNameOk_ok s (by omega)) ?_; simp +contextual -dsimp (maxSteps := 2000000) only [↓SD, SU, SB, simprocAttr, *, map_len]; (repeat' (first | intro _ | refine And.intro ?_ ?_))) | (refine aCallK_of _ (l04Prim_ok s) ?_; simp +contextual -dsimp (maxSteps := 2000000) only [↓SD, SU, SB, simprocAttr, *, map_len]; (repeat' (first | intro _ | refine And.intro ?_ ?_))) | skip
      all_goals first | omega | skip
      all_goals first | (refine aCallK_of _ CA ?_; simp +contextual -dsimp (maxSteps := 2000000) only [↓SD, SU, SB, simprocAttr, *, map_len]; (repeat' (first | intro _ | refine And.intro ?_ ?_))) | skip
      all_goals first | omega | (simp [nodeSB, nodeB, patsB, nameN, onlyKind, firstKind, *]; done) | (have kne : kids ≠ [] := (fun h => by subst h; simp at *); simp [nodeSB, nodeB, hA, kne]; done) | (simp [nodeSB, nodeB, patsB, nameN, onlyKind, firstKind, *]; omega) | trace_state)
   case inr.inr.inr.inr.inr.inr.inl =>
    obtain rfl : nn = 0 := p2 (by decide)
    clear p2 p3' p4'
    have hA : arityK 7 = 2 := rfl
    rw [hA] at CA
    clear hkk
    simp +contextual -dsimp (maxSteps := 2000000) only [↓SD, SU, SB, simprocAttr, ir_spec_l04Node, av_Node, av_Program, map_len, p1']
    refine aLoop_of (X := Nat) (fun j => ⟨[(2, .obj [.sl (p.types.map av), .sl (p.nodes.map av)]), (3, .obj [.int .i64 7, .int .i64 pos, .int .i64 0, .str s, .sl (kids.map av), .sl (pats.map av)]), (44, .sl (kids.map av)), (45, .int .i64 kids.length), (46, .int .i64 j)], []⟩) (fun j => j ≤ kids.length ∧ (kids.take j).all (inB p.nodes.length) = true) (fun j => kids.length - j) 0 ⟨Nat.zero_le _, rfl⟩ (by simp +contextual -dsimp only [↓SD, SU, SB, simprocAttr]) trivial ?_
    rintro j ⟨hj, hp⟩
    by_cases hjl : j < kids.length
    ·have e := getD_map av kids j .top hjl
     have hno : inB p.nodes.length kids[j] = false → nodeSB p.nodes ⟨7, pos, 0, s, kids, pats⟩ = false := fun h => by simp [nodeSB, all_false' _ hjl h]
     have hyes : inB p.nodes.length kids[j] = true → (kids.take (j + 1)).all (inB p.nodes.length) = true := fun h => by rw [all_take' _ hjl hp]; exact h
     generalize kids[j] = x at *
     simp +contextual -dsimp (maxSteps := 2000000) only [↓SD, SU, SB, simprocAttr, map_len, hjl, e, av_int]
     (repeat' (first | intro _ | refine And.intro ?_ ?_))
     all_goals first
      | omega
      | (rw [hno (by simp [inB]; omega)]; done)
      | exact Goes.le ⟨j + 1, ⟨⟨hjl, hyes (by simp [inB]; omega)⟩, (by first | omega | (simp only; omega))⟩, rfl⟩ (by simp +contextual -dsimp only [↓SD, SU, SB, simprocAttr, Int.natCast_add]) trivial
    ·obtain rfl : j = kids.length := by omega
     rw [List.take_length] at hp
     rcases pats with _ | ⟨q0, qs⟩ <;>
     ((try simp only [List.length_cons] at hq)
      simp +contextual -dsimp (maxSteps := 2000000) only [↓SD, SU, SB, simprocAttr, map_len, Nat.lt_irrefl, List.length_map]
      (repeat' (first | intro _ | refine And.intro ?_ ?_))
      all_goals first | omega | skip
      all_goals first | (refine aCallK_of _ (specNameOk_ok s (by omega)) ?_; simp +contextual -dsimp (maxSteps := 2000000) only [↓SD, SU, SB, simprocAttr, *, map_len]; (repeat' (first | intro _ | refine And.intro ?_ ?_))) | (refine aCallK_of _ (l04Prim_ok s) ?_; simp +contextual -dsimp (maxSteps := 2000000) only [↓SD, SU, SB, simprocAttr, *, map_len]; (repeat' (first | intro _ | refine And.intro ?_ ?_))) | skip
      all_goals first | omega | skip
      all_goals first | (refine aCallK_of _ CA ?_; simp +contextual -dsimp (maxSteps := 2000000) only [↓SD, SU, SB, simprocAttr, *, map_len]; (repeat' (first | intro _ | refine And.intro ?_ ?_))) | skip
      all_goals first | omega | (simp [nodeSB, nodeB, patsB, nameN, onlyKind, firstKind, *]; done) | (have kne : kids ≠ [] := (fun h => by subst h; simp at *); simp [nodeSB, nodeB, hA, kne]; done) | (simp [nodeSB, nodeB, patsB, nameN, onlyKind, firstKind, *]; omega) | trace_state)
   case inr.inr.inr.inr.inr.inr.inr.inl =>
    obtain rfl : nn = 0 := p2 (by decide)
    clear p2 p3' p4'
    have hA : arityK 8 = 2 := rfl
    rw [hA] at CA
    clear hkk
    simp +contextual -dsimp (maxSteps := 2000000) only [↓SD, SU, SB, simprocAttr, ir_spec_l04Node, av_Node, av_Program, map_len, p1']
    refine aLoop_of (X := Nat) (fun j => ⟨[(2, .obj [.sl (p.types.map av), .sl (p.nodes.map av)]), (3, .obj [.int .i64 8, .int .i64 pos, .int .i64 0, .str s, .sl (kids.map av), .sl (pats.map av)]), (44, .sl (kids.map av)), (45, .int .i64 kids.length), (46, .int .i64 j)], []⟩) (fun j => j ≤ kids.length ∧ (kids.take j).all (inB p.nodes.length) = true) (fun j => kids.length - j) 0 ⟨Nat.zero_le _, rfl⟩ (by simp +contextual -dsimp only [↓SD, SU, SB, simprocAttr]) trivial ?_
    rintro j ⟨hj, hp⟩
    by_cases hjl : j < kids.length
    ·have e := getD_map av kids j .top hjl
     have hno : inB p.nodes.length kids[j] = false → nodeSB p.nodes ⟨8, pos, 0, s, kids, pats⟩ = false := fun h => by simp [nodeSB, all_false' _ hjl h]
     have hyes : inB p.nodes.length kids[j] = true → (kids.take (j + 1)).all (inB p.nodes.length) = true := fun h => by rw [all_take' _ hjl hp]; exact h
     generalize kids[j] = x at *
     simp +contextual -dsimp (maxSteps := 2000000) only [↓SD, SU, SB, simprocAttr, map_len, hjl, e, av_int]
     (repeat' (first | intro _ | refine And.intro ?_ ?_))
     all_goals first
      | omega
      | (rw [hno (by simp [inB]; omega)]; done)
      | exact Goes.le ⟨j + 1, ⟨⟨hjl, hyes (by simp [inB]; omega)⟩, (by first | omega | (simp only; omega))⟩, rfl⟩ (by simp +contextual -dsimp only [↓SD, SU, SB, simprocAttr, Int.natCast_add]) trivial
    ·obtain rfl : j = kids.length := by omega
     rw [List.take_length] at hp
     have hin : ∀ k ∈ kids, 0 ≤ k ∧ k < p.nodes.length := fun k hk' => by
      have := List.all_eq_true.1 hp k hk'
      simpa [inB] using this
     clear hjl hj
     have CN := specNameOk_ok s (by omega)
     cases hb : nameB s <;> rw [hb] at CN <;>
     rcases kids with _ | ⟨k0, _ | ⟨k1, _ | ⟨k2, ks⟩⟩⟩
     case false.cons.cons.nil | true.cons.cons.nil =>
      obtain ⟨g0, g1⟩ := hin k0 (by simp)
      have g2 : k0.toNat < p.nodes.length := by omega
      have e := av_getD p.nodes default g2
      rw [av_Node] at e
      have hf : firstKind p.nodes [k0, k1] 5 = decide ((p.nodes.getD k0.toNat default).kind = 5) := by
       simp [firstKind, g0, g1]
      generalize p.nodes.getD k0.toNat default = Z at *
      rcases pats with _ | ⟨q0, qs⟩ <;>
      (simp +contextual -dsimp (maxSteps := 2000000) only [↓SD, SU, SB, simprocAttr, map_len, Nat.lt_irrefl, av_int, g0, g1, g2, e]
       refine aCallK_of _ CN ?_
       simp +contextual -dsimp (maxSteps := 2000000) only [↓SD, SU, SB, simprocAttr, map_len, Nat.lt_irrefl, av_int, g0, g1, g2, e]
       (repeat' (first | intro _ | refine And.intro ?_ ?_))
       all_goals first | omega | skip
       all_goals first | (refine aCallK_of _ CA ?_; simp +contextual -dsimp (maxSteps := 2000000) only [↓SD, SU, SB, simprocAttr, *, map_len]; (repeat' (first | intro _ | refine And.intro ?_ ?_))) | skip
       all_goals first | omega | (simp [nodeSB, nodeB, patsB, nameN, *]; done) | (simp [nodeSB, nodeB, patsB, nameN, onlyKind, firstKind, *]; omega) | trace_state)
     case false.cons.cons.cons | true.cons.cons.cons =>
      have q2 : ¬ ((ks.length + 1 + 1 + 1 : Nat) : Int) = 2 := by omega
      rcases pats with _ | ⟨q0, qs⟩ <;>
      (simp +contextual -dsimp (maxSteps := 2000000) only [↓SD, SU, SB, simprocAttr, map_len, Nat.lt_irrefl, av_int, q2]
       refine aCallK_of _ CN ?_
       simp +contextual -dsimp (maxSteps := 2000000) only [↓SD, SU, SB, simprocAttr, map_len, Nat.lt_irrefl, av_int, q2]
       (repeat' (first | intro _ | refine And.intro ?_ ?_))
       all_goals first | omega | skip
       all_goals first | (refine aCallK_of _ CA ?_; simp +contextual -dsimp (maxSteps := 2000000) only [↓SD, SU, SB, simprocAttr, *, map_len]; (repeat' (first | intro _ | refine And.intro ?_ ?_))) | skip
       all_goals first | omega | (simp [nodeSB, nodeB, patsB, nameN, onlyKind, firstKind, *]; done) | (simp [nodeSB, nodeB, patsB, nameN, onlyKind, firstKind, *]; omega) | trace_state)
     all_goals
      rcases pats with _ | ⟨q0, qs⟩ <;>
      (simp +contextual -dsimp (maxSteps := 2000000) only [↓SD, SU, SB, simprocAttr, map_len, Nat.lt_irrefl, av_int]
       refine aCallK_of _ CN ?_
       simp +contextual -dsimp (maxSteps := 2000000) only [↓SD, SU, SB, simprocAttr, map_len, Nat.lt_irrefl, av_int]
       (repeat' (first | intro _ | refine And.intro ?_ ?_))
       all_goals first | omega | skip
       all_goals first | (refine aCallK_of _ CA ?_; simp +contextual -dsimp (maxSteps := 2000000) only [↓SD, SU, SB, simprocAttr, *, map_len]; (repeat' (first | intro _ | refine And.intro ?_ ?_))) | skip
       all_goals first | omega | (simp [nodeSB, nodeB, patsB, nameN, onlyKind, firstKind, *]; done) | (simp [nodeSB, nodeB, patsB, nameN, onlyKind, firstKind, *]; omega) | trace_state)
   case inr.inr.inr.inr.inr.inr.inr.inr.inl =>
    obtain rfl : nn = 0 := p2 (by decide)
    clear p2 p3' p4'
    have hA : arityK 9 = 3 := rfl
    rw [hA] at CA
    clear hkk
    simp +contextual -dsimp (maxSteps := 2000000) only [↓SD, SU, SB, simprocAttr, ir_spec_l04Node, av_Node, av_Program, map_len, p1']
    refine aLoop_of (X := Nat) (fun j => ⟨[(2, .obj [.sl (p.types.map av), .sl (p.nodes.map av)]), (3, .obj [.int .i64 9, .int .i64 pos, .int .i64 0, .str s, .sl (kids.map av), .sl (pats.map av)]), (44, .sl (kids.map av)), (45, .int .i64 kids.length), (46, .int .i64 j)], []⟩) (fun j => j ≤ kids.length ∧ (kids.take j).all (inB p.nodes.length) = true) (fun j => kids.length - j) 0 ⟨Nat.zero_le _, rfl⟩ (by simp +contextual -dsimp only [↓SD, SU, SB, simprocAttr]) trivial ?_
    rintro j ⟨hj, hp⟩
    by_cases hjl : j < kids.length
    ·have e := getD_map av kids j .top hjl
     have hno : inB p.nodes.length kids[j] = false → nodeSB p.nodes ⟨9, pos, 0, s, kids, pats⟩ = false := fun h => by simp [nodeSB, all_false' _ hjl h]
     have hyes : inB p.nodes.length kids[j] = true → (kids.take (j + 1)).all (inB p.nodes.length) = true := fun h => by rw [all_take' _ hjl hp]; exact h
     generalize kids[j] = x at *
     simp +contextual -dsimp (maxSteps := 2000000) only [↓SD, SU, SB, simprocAttr, map_len, hjl, e, av_int]
     (repeat' (first | intro _ | refine And.intro ?_ ?_))
     all_goals first
      | omega
      | (rw [hno (by simp [inB]; omega)]; done)
      | exact Goes.le ⟨j + 1, ⟨⟨hjl, hyes (by simp [inB]; omega)⟩, (by first | omega | (simp only; omega))⟩, rfl⟩ (by simp +contextual -dsimp only [↓SD, SU, SB, simprocAttr, Int.natCast_add]) trivial
    ·obtain rfl : j = kids.length := by omega
     rw [List.take_length] at hp
     rcases pats with _ | ⟨q0, qs⟩ <;>
     ((try simp only [List.length_cons] at hq)
      simp +contextual -dsimp (maxSteps := 2000000) only [↓SD, SU, SB, simprocAttr, map_len, Nat.lt_irrefl, List.length_map]
      (repeat' (first | intro _ | refine And.intro ?_ ?_))
      all_goals first | omega | skip
      all_goals first | (refine aCallK_of _ (specNameOk_ok s (by omega)) ?_; simp +contextual -dsimp (maxSteps := 2000000) only [↓SD, SU, SB, simprocAttr, *, map_len]; (repeat' (first | intro _ | refine And.intro ?_ ?_))) | (refine aCallK_of _ (l04Prim_ok s) ?_; simp +contextual -dsimp (maxSteps := 2000000) only [↓SD, SU, SB, simprocAttr, *, map_len]; (repeat' (first | intro _ | refine And.intro ?_ ?_))) | skip
      all_goals first | omega | skip
      all_goals first | (refine aCallK_of _ CA ?_; simp +contextual -dsimp (maxSteps := 2000000) only [↓SD, SU, SB, simprocAttr, *, map_len]; (repeat' (first | intro _ | refine And.intro ?_ ?_))) | skip
      all_goals first | omega | (simp [nodeSB, nodeB, patsB, nameN, onlyKind, firstKind, *]; done) | (have kne : kids ≠ [] := (fun h => by subst h; simp at *); simp [nodeSB, nodeB, hA, kne]; done) | (simp [nodeSB, nodeB, patsB, nameN, onlyKind, firstKind, *]; omega) | trace_state)
   case inr.inr.inr.inr.inr.inr.inr.inr.inr.inl =>
    obtain rfl : nn = 0 := p2 (by decide)
    clear p2 p3' p4'
    have hA : arityK 10 = 2 := rfl
    rw [hA] at CA
    clear hkk
    simp +contextual -dsimp (maxSteps := 2000000) only [↓SD, SU, SB, simprocAttr, ir_spec_l04Node, av_Node, av_Program, map_len, p1']
    refine aLoop_of (X := Nat) (fun j => ⟨[(2, .obj [.sl (p.types.map av), .sl (p.nodes.map av)]), (3, .obj [.int .i64 10, .int .i64 pos, .int .i64 0, .str s, .sl (kids.map av), .sl (pats.map av)]), (44, .sl (kids.map av)), (45, .int .i64 kids.length), (46, .int .i64 j)], []⟩) (fun j => j ≤ kids.length ∧ (kids.take j).all (inB p.nodes.length) = true) (fun j => kids.length - j) 0 ⟨Nat.zero_le _, rfl⟩ (by simp +contextual -dsimp only [↓SD, SU, SB, simprocAttr]) trivial ?_
    rintro j ⟨hj, hp⟩
    by_cases hjl : j < kids.length
    ·have e := getD_map av kids j .top hjl
     have hno : inB p.nodes.length kids[j] = false → nodeSB p.nodes ⟨10, pos, 0, s, kids, pats⟩ = false := fun h => by simp [nodeSB, all_false' _ hjl h]
     have hyes : inB p.nodes.length kids[j] = true → (kids.take (j + 1)).all (inB p.nodes.length) = true := fun h => by rw [all_take' _ hjl hp]; exact h
     generalize kids[j] = x at *
     simp +contextual -dsimp (maxSteps := 2000000) only [↓SD, SU, SB, simprocAttr, map_len, hjl, e, av_int]
     (repeat' (first | intro _ | refine And.intro ?_ ?_))
     all_goals first
      | omega
      | (rw [hno (by simp [inB]; omega)]; done)
      | exact Goes.le ⟨j + 1, ⟨⟨hjl, hyes (by simp [inB]; omega)⟩, (by first | omega | (simp only; omega))⟩, rfl⟩ (by simp +contextual -dsimp only [↓SD, SU, SB, simprocAttr, Int.natCast_add]) trivial
    ·obtain rfl : j = kids.length := by omega
     rw [List.take_length] at hp
     rcases pats with _ | ⟨q0, qs⟩ <;>
     ((try simp only [List.length_cons] at hq)
      simp +contextual -dsimp (maxSteps := 2000000) only [↓SD, SU, SB, simprocAttr, map_len, Nat.lt_irrefl, List.length_map]
      (repeat' (first | intro _ | refine And.intro ?_ ?_))
      all_goals first | omega | skip
      all_goals first | (refine aCallK_of _ (specNameOk_ok s (by omega)) ?_; simp +contextual -dsimp (maxSteps := 2000000) only [↓SD, SU, SB, simprocAttr, *, map_len]; (repeat' (first | intro _ | refine And.intro ?_ ?_))) | (refine aCallK_of _ (l04Prim_ok s) ?_; simp +contextual -dsimp (maxSteps := 2000000) only [↓SD, SU, SB, simprocAttr, *, map_len]; (repeat' (first | intro _ | refine And.intro ?_ ?_))) | skip
      all_goals first | omega | skip
      all_goals first | (refine aCallK_of _ CA ?_; simp +contextual -dsimp (maxSteps := 2000000) only [↓SD, SU, SB, simprocAttr, *, map_len]; (repeat' (first | intro _ | refine And.intro ?_ ?_))) | skip
      all_goals first | omega | (simp [nodeSB, nodeB, patsB, nameN, onlyKind, firstKind, *]; done) | (have kne : kids ≠ [] := (fun h => by subst h; simp at *); simp [nodeSB, nodeB, hA, kne]; done) | (simp [nodeSB, nodeB, patsB, nameN, onlyKind, firstKind, *]; omega) | trace_state)
   case inr.inr.inr.inr.inr.inr.inr.inr.inr.inr.inl =>
    obtain rfl : nn = 0 := p2 (by decide)
    clear p2 p3' p4'
    have hA : arityK 11 = 2 := rfl
    rw [hA] at CA
    clear hkk
    simp +contextual -dsimp (maxSteps := 2000000) only [↓SD, SU, SB, simprocAttr, ir_spec_l04Node, av_Node, av_Program, map_len, p1']
    refine aLoop_of (X := Nat) (fun j => ⟨[(2, .obj [.sl (p.types.map av), .sl (p.nodes.map av)]), (3, .obj [.int .i64 11, .int .i64 pos, .int .i64 0, .str s, .sl (kids.map av), .sl (pats.map av)]), (44, .sl (kids.map av)), (45, .int .i64 kids.length), (46, .int .i64 j)], []⟩) (fun j => j ≤ kids.length ∧ (kids.take j).all (inB p.nodes.length) = true) (fun j => kids.length - j) 0 ⟨Nat.zero_le _, rfl⟩ (by simp +contextual -dsimp only [↓SD, SU, SB, simprocAttr]) trivial ?_
    rintro j ⟨hj, hp⟩
    by_cases hjl : j < kids.length
    ·have e := getD_map av kids j .top hjl
     have hno : inB p.nodes.length kids[j] = false → nodeSB p.nodes ⟨11, pos, 0, s, kids, pats⟩ = false := fun h => by simp [nodeSB, all_false' _ hjl h]
     have hyes : inB p.nodes.length kids[j] = true → (kids.take (j + 1)).all (inB p.nodes.length) = true := fun h => by rw [all_take' _ hjl hp]; exact h
     generalize kids[j] = x at *
     simp +contextual -dsimp (maxSteps := 2000000) only [↓SD, SU, SB, simprocAttr, map_len, hjl, e, av_int]
     (repeat' (first | intro _ | refine And.intro ?_ ?_))
     all_goals first
      | omega
      | (rw [hno (by simp [inB]; omega)]; done)
      | exact Goes.le ⟨j + 1, ⟨⟨hjl, hyes (by simp [inB]; omega)⟩, (by first | omega | (simp only; omega))⟩, rfl⟩ (by simp +contextual -dsimp only [↓SD, SU, SB, simprocAttr, Int.natCast_add]) trivial
    ·obtain rfl : j = kids.length := by omega
     rw [List.take_length] at hp
     rcases pats with _ | ⟨q0, qs⟩ <;>
     ((try simp only [List.length_cons] at hq)
      simp +contextual -dsimp (maxSteps := 2000000) only [↓SD, SU, SB, simprocAttr, map_len, Nat.lt_irrefl, List.length_map]
      (repeat' (first | intro _ | refine And.intro ?_ ?_))
      all_goals first | omega | skip
      all_goals first | (refine aCallK_of _ (specNameOk_ok s (by omega)) ?_; simp +contextual -dsimp (maxSteps := 2000000) only [↓SD, SU, SB, simprocAttr, *, map_len]; (repeat' (first | intro _ | refine And.intro ?_ ?_))) | (refine aCallK_of _ (l04Prim_ok s) ?_; simp +contextual -dsimp (maxSteps := 2000000) only [↓SD, SU, SB, simprocAttr, *, map_len]; (repeat' (first | intro _ | refine And.intro ?_ ?_))) | skip
      all_goals first | omega | skip
      all_goals first | (refine aCallK_of _ CA ?_; simp +contextual -dsimp (maxSteps := 2000000) only [↓SD, SU, SB, simprocAttr, *, map_len]; (repeat' (first | intro _ | refine And.intro ?_ ?_))) | skip
      all_goals first | omega | (simp [nodeSB, nodeB, patsB, nameN, onlyKind, firstKind, *]; done) | (have kne : kids ≠ [] := (fun h => by subst h; simp at *); simp [nodeSB, nodeB, hA, kne]; done) | (simp [nodeSB, nodeB, patsB, nameN, onlyKind, firstKind, *]; omega) | trace_state)
   case inr.inr.inr.inr.inr.inr.inr.inr.inr.inr.inr.inl =>
    obtain rfl : nn = 0 := p2 (by decide)
    clear p2 p3' p4'
    have hA : arityK 12 = 0 := rfl
    rw [hA] at CA
    clear hkk
    simp +contextual -dsimp (maxSteps := 2000000) only [↓SD, SU, SB, simprocAttr, ir_spec_l04Node, av_Node, av_Program, map_len, p1']
    refine aLoop_of (X := Nat) (fun j => ⟨[(2, .obj [.sl (p.types.map av), .sl (p.nodes.map av)]), (3, .obj [.int .i64 12, .int .i64 pos, .int .i64 0, .str s, .sl (kids.map av), .sl (pats.map av)]), (44, .sl (kids.map av)), (45, .int .i64 kids.length), (46, .int .i64 j)], []⟩) (fun j => j ≤ kids.length ∧ (kids.take j).all (inB p.nodes.length) = true) (fun j => kids.length - j) 0 ⟨Nat.zero_le _, rfl⟩ (by simp +contextual -dsimp only [↓SD, SU, SB, simprocAttr]) trivial ?_
    rintro j ⟨hj, hp⟩
    by_cases hjl : j < kids.length
    ·have e := getD_map av kids j .top hjl
     have hno : inB p.nodes.length kids[j] = false → nodeSB p.nodes ⟨12, pos, 0, s, kids, pats⟩ = false := fun h => by simp [nodeSB, all_false' _ hjl h]
     have hyes : inB p.nodes.length kids[j] = true → (kids.take (j + 1)).all (inB p.nodes.length) = true := fun h => by rw [all_take' _ hjl hp]; exact h
     generalize kids[j] = x at *
     simp +contextual -dsimp (maxSteps := 2000000) only [↓SD, SU, SB, simprocAttr, map_len, hjl, e, av_int]
     (repeat' (first | intro _ | refine And.intro ?_ ?_))
     all_goals first
      | omega
      | (rw [hno (by simp [inB]; omega)]; done)
      | exact Goes.le ⟨j + 1, ⟨⟨hjl, hyes (by simp [inB]; omega)⟩, (by first | omega | (simp only; omega))⟩, rfl⟩ (by simp +contextual -dsimp only [↓SD, SU, SB, simprocAttr, Int.natCast_add]) trivial
    ·obtain rfl : j = kids.length := by omega
     rw [List.take_length] at hp
     rcases pats with _ | ⟨q0, qs⟩ <;>
     ((try simp only [List.length_cons] at hq)
      simp +contextual -dsimp (maxSteps := 2000000) only [↓SD, SU, SB, simprocAttr, map_len, Nat.lt_irrefl, List.length_map]
      (repeat' (first | intro _ | refine And.intro ?_ ?_))
      all_goals first | omega | skip
      all_goals first | (refine aCallK_of _ (specNameOk_ok s (by omega)) ?_; simp +contextual -dsimp (maxSteps := 2000000) only [↓SD, SU, SB, simprocAttr, *, map_len]; (repeat' (first | intro _ | refine And.intro ?_ ?_))) | (refine aCallK_of _ (l04Prim_ok s) ?_; simp +contextual -dsimp (maxSteps := 2000000) only [↓SD, SU, SB, simprocAttr, *, map_len]; (repeat' (first | intro _ | refine And.intro ?_ ?_))) | skip
      all_goals first | omega | skip
      all_goals first | (refine aCallK_of _ CA ?_; simp +contextual -dsimp (maxSteps := 2000000) only [↓SD, SU, SB, simprocAttr, *, map_len]; (repeat' (first | intro _ | refine And.intro ?_ ?_))) | skip
      all_goals first | omega | (simp [nodeSB, nodeB, patsB, nameN, onlyKind, firstKind, *]; done) | (have kne : kids ≠ [] := (fun h => by subst h; simp at *); simp [nodeSB, nodeB, hA, kne]; done) | (simp [nodeSB, nodeB, patsB, nameN, onlyKind, firstKind, *]; omega) | trace_state)
   case inr.inr.inr.inr.inr.inr.inr.inr.inr.inr.inr.inr.inl =>
    obtain rfl : nn = 0 := p2 (by decide)
    clear p2 p3' p4'
    have hA : arityK 13 = -1 := rfl
    rw [hA] at CA
    clear hkk
    simp +contextual -dsimp (maxSteps := 2000000) only [↓SD, SU, SB, simprocAttr, ir_spec_l04Node, av_Node, av_Program, map_len, p1']
    refine aLoop_of (X := Nat) (fun j => ⟨[(2, .obj [.sl (p.types.map av), .sl (p.nodes.map av)]), (3, .obj [.int .i64 13, .int .i64 pos, .int .i64 0, .str s, .sl (kids.map av), .sl (pats.map av)]), (44, .sl (kids.map av)), (45, .int .i64 kids.length), (46, .int .i64 j)], []⟩) (fun j => j ≤ kids.length ∧ (kids.take j).all (inB p.nodes.length) = true) (fun j => kids.length - j) 0 ⟨Nat.zero_le _, rfl⟩ (by simp +contextual -dsimp only [↓SD, SU, SB, simprocAttr]) trivial ?_
    rintro j ⟨hj, hp⟩
    by_cases hjl : j < kids.length
    ·have e := getD_map av kids j .top hjl
     have hno : inB p.nodes.length kids[j] = false → nodeSB p.nodes ⟨13, pos, 0, s, kids, pats⟩ = false := fun h => by simp [nodeSB, all_false' _ hjl h]
     have hyes : inB p.nodes.length kids[j] = true → (kids.take (j + 1)).all (inB p.nodes.length) = true := fun h => by rw [all_take' _ hjl hp]; exact h
     generalize kids[j] = x at *
     simp +contextual -dsimp (maxSteps := 2000000) only [↓SD, SU, SB, simprocAttr, map_len, hjl, e, av_int]
     (repeat' (first | intro _ | refine And.intro ?_ ?_))
     all_goals first
      | omega
      | (rw [hno (by simp [inB]; omega)]; done)
      | exact Goes.le ⟨j + 1, ⟨⟨hjl, hyes (by simp [inB]; omega)⟩, (by first | omega | (simp only; omega))⟩, rfl⟩ (by simp +contextual -dsimp only [↓SD, SU, SB, simprocAttr, Int.natCast_add]) trivial
    ·obtain rfl : j = kids.length := by omega
     rw [List.take_length] at hp
     by_cases hse : s = bs []
     ·subst hse
      simp +contextual -dsimp (maxSteps := 2000000) only [↓SD, SU, SB, simprocAttr, map_len, Nat.lt_irrefl]
      refine aLoop_of (X := Nat) (fun j => ⟨[(3, .obj [.int .i64 13, .int .i64 pos, .int .i64 0, .str (bs []), .sl (kids.map av), .sl (pats.map av)]), (158, .sl (pats.map av)), (159, .int .i64 pats.length), (160, .int .i64 j)], []⟩) (fun j => j ≤ pats.length ∧ (pats.take j).all (fun q => patB q.nodes) = true) (fun j => pats.length - j) 0 ⟨Nat.zero_le _, rfl⟩ (by simp +contextual -dsimp only [↓SD, SU, SB, simprocAttr]) trivial ?_
      rintro i ⟨hi, hq2⟩
      by_cases hil : i < pats.length
      ·have e := getD_map av pats i .top hil
       have CP := specPatOk_ok pats[i].nodes (pat_small hqb (List.getElem_mem hil))
       have hno : patB pats[i].nodes = false → nodeSB p.nodes ⟨13, pos, 0, bs [], kids, pats⟩ = false := fun h => by
        have : patsB ⟨13, pos, 0, bs [], kids, pats⟩ = false := all_false' (fun q : Pat => patB q.nodes) hil h
        simp [nodeSB, this]
       have hyes : patB pats[i].nodes = true → (pats.take (i + 1)).all (fun q => patB q.nodes) = true := fun h => by rw [all_take' _ hil hq2]; exact h
       generalize pats[i] = q at *
       simp +contextual -dsimp (maxSteps := 2000000) only [↓SD, SU, SB, simprocAttr, map_len, hil, e, av_Pat]
       intro v
       refine aCallK_of _ CP ?_
       simp +contextual -dsimp (maxSteps := 2000000) only [↓SD, SU, SB, simprocAttr]
       refine ⟨fun h => by rw [hno h], fun h => ⟨by omega, Goes.le ⟨i + 1, ⟨⟨hil, hyes h⟩, (by first | omega | (simp only; omega))⟩, rfl⟩ (by simp +contextual -dsimp only [↓SD, SU, SB, simprocAttr, Int.natCast_add]) trivial⟩⟩
      ·obtain rfl : i = pats.length := by omega
       rw [List.take_length] at hq2
       have hpb : patsB ⟨13, pos, 0, bs [], kids, pats⟩ = true := hq2
       have hres : nodeSB p.nodes ⟨13, pos, 0, bs [], kids, pats⟩ = (decide (1 ≤ (pats.length : Int)) && decide ((kids.length : Int) = pats.length + 1)) := by
        unfold nodeSB
        rw [hp, hpb]
        simp [nodeB, hA, p1]
       rw [hres]
       simp +contextual -dsimp (maxSteps := 2000000) only [↓SD, SU, SB, simprocAttr, map_len, Nat.lt_irrefl]
       (repeat' (first | intro _ | refine And.intro ?_ ?_))
       all_goals first | omega | skip
       ·congr 1
        rw [Bool.eq_iff_iff]
        simp only [Bool.and_eq_true, decide_eq_true_eq]
        omega
       ·congr 1
        symm
        rw [Bool.and_eq_false_iff, decide_eq_false_iff_not, decide_eq_false_iff_not]
        omega
     ·simp +contextual -dsimp (maxSteps := 2000000) only [↓SD, SU, SB, simprocAttr, map_len, Nat.lt_irrefl, hse]
      simp [nodeSB, nodeB, hA, hse]
   case inr.inr.inr.inr.inr.inr.inr.inr.inr.inr.inr.inr.inr.inl =>
    obtain rfl : nn = 0 := p2 (by decide)
    clear p2 p3' p4'
    have hA : arityK 14 = 1 := rfl
    rw [hA] at CA
    clear hkk
    simp +contextual -dsimp (maxSteps := 2000000) only [↓SD, SU, SB, simprocAttr, ir_spec_l04Node, av_Node, av_Program, map_len, p1']
    refine aLoop_of (X := Nat) (fun j => ⟨[(2, .obj [.sl (p.types.map av), .sl (p.nodes.map av)]), (3, .obj [.int .i64 14, .int .i64 pos, .int .i64 0, .str s, .sl (kids.map av), .sl (pats.map av)]), (44, .sl (kids.map av)), (45, .int .i64 kids.length), (46, .int .i64 j)], []⟩) (fun j => j ≤ kids.length ∧ (kids.take j).all (inB p.nodes.length) = true) (fun j => kids.length - j) 0 ⟨Nat.zero_le _, rfl⟩ (by simp +contextual -dsimp only [↓SD, SU, SB, simprocAttr]) trivial ?_
    rintro j ⟨hj, hp⟩
    by_cases hjl : j < kids.length
    ·have e := getD_map av kids j .top hjl
     have hno : inB p.nodes.length kids[j] = false → nodeSB p.nodes ⟨14, pos, 0, s, kids, pats⟩ = false := fun h => by simp [nodeSB, all_false' _ hjl h]
     have hyes : inB p.nodes.length kids[j] = true → (kids.take (j + 1)).all (inB p.nodes.length) = true := fun h => by rw [all_take' _ hjl hp]; exact h
     generalize kids[j] = x at *
     simp +contextual -dsimp (maxSteps := 2000000) only [↓SD, SU, SB, simprocAttr, map_len, hjl, e, av_int]
     (repeat' (first | intro _ | refine And.intro ?_ ?_))
     all_goals first
      | omega
      | (rw [hno (by simp [inB]; omega)]; done)
      | exact Goes.le ⟨j + 1, ⟨⟨hjl, hyes (by simp [inB]; omega)⟩, (by first | omega | (simp only; omega))⟩, rfl⟩ (by simp +contextual -dsimp only [↓SD, SU, SB, simprocAttr, Int.natCast_add]) trivial
    ·obtain rfl : j = kids.length := by omega
     rw [List.take_length] at hp
     rcases pats with _ | ⟨q0, qs⟩ <;>
     ((try simp only [List.length_cons] at hq)
      simp +contextual -dsimp (maxSteps := 2000000) only [↓SD, SU, SB, simprocAttr, map_len, Nat.lt_irrefl, List.length_map]
      (repeat' (first | intro _ | refine And.intro ?_ ?_))
      all_goals first | omega | skip
      all_goals first | (refine aCallK_of _ (specNameOk_ok s (by omega)) ?_; simp +contextual -dsimp (maxSteps := 2000000) only [↓SD, SU, SB, simprocAttr, *, map_len]; (repeat' (first | intro _ | refine And.intro ?_ ?_))) | (refine aCallK_of _ (l04Prim_ok s) ?_; simp +contextual -dsimp (maxSteps := 2000000) only [↓SD, SU, SB, simprocAttr, *, map_len]; (repeat' (first | intro _ | refine And.intro ?_ ?_))) | skip
      all_goals first | omega | skip
      all_goals first | (refine aCallK_of _ CA ?_; simp +contextual -dsimp (maxSteps := 2000000) only [↓SD, SU, SB, simprocAttr, *, map_len]; (repeat' (first | intro _ | refine And.intro ?_ ?_))) | skip
      all_goals first | omega | (simp [nodeSB, nodeB, patsB, nameN, onlyKind, firstKind, *]; done) | (have kne : kids ≠ [] := (fun h => by subst h; simp at *); simp [nodeSB, nodeB, hA, kne]; done) | (simp [nodeSB, nodeB, patsB, nameN, onlyKind, firstKind, *]; omega) | trace_state)
   case inr.inr.inr.inr.inr.inr.inr.inr.inr.inr.inr.inr.inr.inr.inl =>
    obtain rfl : nn = 0 := p2 (by decide)
    clear p2 p3' p4'
    have hA : arityK 15 = 2 := rfl
    rw [hA] at CA
    clear hkk
    simp +contextual -dsimp (maxSteps := 2000000) only [↓SD, SU, SB, simprocAttr, ir_spec_l04Node, av_Node, av_Program, map_len, p1']
    refine aLoop_of (X := Nat) (fun j => ⟨[(2, .obj [.sl (p.types.map av), .sl (p.nodes.map av)]), (3, .obj [.int .i64 15, .int .i64 pos, .int .i64 0, .str s, .sl (kids.map av), .sl (pats.map av)]), (44, .sl (kids.map av)), (45, .int .i64 kids.length), (46, .int .i64 j)], []⟩) (fun j => j ≤ kids.length ∧ (kids.take j).all (inB p.nodes.length) = true) (fun j => kids.length - j) 0 ⟨Nat.zero_le _, rfl⟩ (by simp +contextual -dsimp only [↓SD, SU, SB, simprocAttr]) trivial ?_
    rintro j ⟨hj, hp⟩
    by_cases hjl : j < kids.length
    ·have e := getD_map av kids j .top hjl
     have hno : inB p.nodes.length kids[j] = false → nodeSB p.nodes ⟨15, pos, 0, s, kids, pats⟩ = false := fun h => by simp [nodeSB, all_false' _ hjl h]
     have hyes : inB p.nodes.length kids[j] = true → (kids.take (j + 1)).all (inB p.nodes.length) = true := fun h => by rw [all_take' _ hjl hp]; exact h
     generalize kids[j] = x at *
     simp +contextual -dsimp (maxSteps := 2000000) only [↓SD, SU, SB, simprocAttr, map_len, hjl, e, av_int]
     (repeat' (first | intro _ | refine And.intro ?_ ?_))
     all_goals first
      | omega
      | (rw [hno (by simp [inB]; omega)]; done)
      | exact Goes.le ⟨j + 1, ⟨⟨hjl, hyes (by simp [inB]; omega)⟩, (by first | omega | (simp only; omega))⟩, rfl⟩ (by simp +contextual -dsimp only [↓SD, SU, SB, simprocAttr, Int.natCast_add]) trivial
    ·obtain rfl : j = kids.length := by omega
     rw [List.take_length] at hp
     rcases pats with _ | ⟨q0, qs⟩ <;>
     ((try simp only [List.length_cons] at hq)
      simp +contextual -dsimp (maxSteps := 2000000) only [↓SD, SU, SB, simprocAttr, map_len, Nat.lt_irrefl, List.length_map]
      (repeat' (first | intro _ | refine And.intro ?_ ?_))
      all_goals first | omega | skip
      all_goals first | (refine aCallK_of _ (specNameOk_ok s (by omega)) ?_; simp +contextual -dsimp (maxSteps := 2000000) only [↓SD, SU, SB, simprocAttr, *, map_len]; (repeat' (first | intro _ | refine And.intro ?_ ?_))) | (refine aCallK_of _ (l04Prim_ok s) ?_; simp +contextual -dsimp (maxSteps := 2000000) only [↓SD, SU, SB, simprocAttr, *, map_len]; (repeat' (first | intro _ | refine And.intro ?_ ?_))) | skip
      all_goals first | omega | skip
      all_goals first | (refine aCallK_of _ CA ?_; simp +contextual -dsimp (maxSteps := 2000000) only [↓SD, SU, SB, simprocAttr, *, map_len]; (repeat' (first | intro _ | refine And.intro ?_ ?_))) | skip
      all_goals first | omega | (simp [nodeSB, nodeB, patsB, nameN, onlyKind, firstKind, *]; done) | (have kne : kids ≠ [] := (fun h => by subst h; simp at *); simp [nodeSB, nodeB, hA, kne]; done) | (simp [nodeSB, nodeB, patsB, nameN, onlyKind, firstKind, *]; omega) | trace_state)
   case inr.inr.inr.inr.inr.inr.inr.inr.inr.inr.inr.inr.inr.inr.inr.inl =>
    obtain rfl : nn = 0 := p2 (by decide)
    clear p2 p3' p4'
    have hA : arityK 16 = 1 := rfl
    rw [hA] at CA
    clear hkk
    simp +contextual -dsimp (maxSteps := 2000000) only [↓SD, SU, SB, simprocAttr, ir_spec_l04Node, av_Node, av_Program, map_len, p1']
    refine aLoop_of (X := Nat) (fun j => ⟨[(2, .obj [.sl (p.types.map av), .sl (p.nodes.map av)]), (3, .obj [.int .i64 16, .int .i64 pos, .int .i64 0, .str s, .sl (kids.map av), .sl (pats.map av)]), (44, .sl (kids.map av)), (45, .int .i64 kids.length), (46, .int .i64 j)], []⟩) (fun j => j ≤ kids.length ∧ (kids.take j).all (inB p.nodes.length) = true) (fun j => kids.length - j) 0 ⟨Nat.zero_le _, rfl⟩ (by simp +contextual -dsimp only [↓SD, SU, SB, simprocAttr]) trivial ?_
    rintro j ⟨hj, hp⟩
    by_cases hjl : j < kids.length
    ·have e := getD_map av kids j .top hjl
     have hno : inB p.nodes.length kids[j] = false → nodeSB p.nodes ⟨16, pos, 0, s, kids, pats⟩ = false := fun h => by simp [nodeSB, all_false' _ hjl h]
     have hyes : inB p.nodes.length kids[j] = true → (kids.take (j + 1)).all (inB p.nodes.length) = true := fun h => by rw [all_take' _ hjl hp]; exact h
     generalize kids[j] = x at *
     simp +contextual -dsimp (maxSteps := 2000000) only [↓SD, SU, SB, simprocAttr, map_len, hjl, e, av_int]
     (repeat' (first | intro _ | refine And.intro ?_ ?_))
     all_goals first
      | omega
      | (rw [hno (by simp [inB]; omega)]; done)
      | exact Goes.le ⟨j + 1, ⟨⟨hjl, hyes (by simp [inB]; omega)⟩, (by first | omega | (simp only; omega))⟩, rfl⟩ (by simp +contextual -dsimp only [↓SD, SU, SB, simprocAttr, Int.natCast_add]) trivial
    ·obtain rfl : j = kids.length := by omega
     rw [List.take_length] at hp
     rcases pats with _ | ⟨q0, qs⟩ <;>
     ((try simp only [List.length_cons] at hq)
      simp +contextual -dsimp (maxSteps := 2000000) only [↓SD, SU, SB, simprocAttr, map_len, Nat.lt_irrefl, List.length_map]
      (repeat' (first | intro _ | refine And.intro ?_ ?_))
      all_goals first | omega | skip
      all_goals first | (refine aCallK_of _ (specNameOk_ok s (by omega)) ?_; simp +contextual -dsimp (maxSteps := 2000000) only [↓SD, SU, SB, simprocAttr, *, map_len]; (repeat' (first | intro _ | refine And.intro ?_ ?_))) | (refine aCallK_of _ (l04Prim_ok s) ?_; simp +contextual -dsimp (maxSteps := 2000000) only [↓SD, SU, SB, simprocAttr, *, map_len]; (repeat' (first | intro _ | refine And.intro ?_ ?_))) | skip
      all_goals first | omega | skip
      all_goals first | (refine aCallK_of _ CA ?_; simp +contextual -dsimp (maxSteps := 2000000) only [↓SD, SU, SB, simprocAttr, *, map_len]; (repeat' (first | intro _ | refine And.intro ?_ ?_))) | skip
      all_goals first | omega | (simp [nodeSB, nodeB, patsB, nameN, onlyKind, firstKind, *]; done) | (have kne : kids ≠ [] := (fun h => by subst h; simp at *); simp [nodeSB, nodeB, hA, kne]; done) | (simp [nodeSB, nodeB, patsB, nameN, onlyKind, firstKind, *]; omega) | trace_state)
   case inr.inr.inr.inr.inr.inr.inr.inr.inr.inr.inr.inr.inr.inr.inr.inr.inl =>
    obtain rfl : nn = 0 := p2 (by decide)
    clear p2 p3' p4'
    have hA : arityK 17 = 1 := rfl
    rw [hA] at CA
    clear hkk
    simp +contextual -dsimp (maxSteps := 2000000) only [↓SD, SU, SB, simprocAttr, ir_spec_l04Node, av_Node, av_Program, map_len, p1']
    refine aLoop_of (X := Nat) (fun j => ⟨[(2, .obj [.sl (p.types.map av), .sl (p.nodes.map av)]), (3, .obj [.int .i64 17, .int .i64 pos, .int .i64 0, .str s, .sl (kids.map av), .sl (pats.map av)]), (44, .sl (kids.map av)), (45, .int .i64 kids.length), (46, .int .i64 j)], []⟩) (fun j => j ≤ kids.length ∧ (kids.take j).all (inB p.nodes.length) = true) (fun j => kids.length - j) 0 ⟨Nat.zero_le _, rfl⟩ (by simp +contextual -dsimp only [↓SD, SU, SB, simprocAttr]) trivial ?_
    rintro j ⟨hj, hp⟩
    by_cases hjl : j < kids.length
    ·have e := getD_map av kids j .top hjl
     have hno : inB p.nodes.length kids[j] = false → nodeSB p.nodes ⟨17, pos, 0, s, kids, pats⟩ = false := fun h => by simp [nodeSB, all_false' _ hjl h]
     have hyes : inB p.nodes.length kids[j] = true → (kids.take (j + 1)).all (inB p.nodes.length) = true := fun h => by rw [all_take' _ hjl hp]; exact h
     generalize kids[j] = x at *
     simp +contextual -dsimp (maxSteps := 2000000) only [↓SD, SU, SB, simprocAttr, map_len, hjl, e, av_int]
     (repeat' (first | intro _ | refine And.intro ?_ ?_))
     all_goals first
      | omega
      | (rw [hno (by simp [inB]; omega)]; done)
      | exact Goes.le ⟨j + 1, ⟨⟨hjl, hyes (by simp [inB]; omega)⟩, (by first | omega | (simp only; omega))⟩, rfl⟩ (by simp +contextual -dsimp only [↓SD, SU, SB, simprocAttr, Int.natCast_add]) trivial
    ·obtain rfl : j = kids.length := by omega
     rw [List.take_length] at hp
     rcases pats with _ | ⟨q0, qs⟩ <;>
     ((try simp only [List.length_cons] at hq)
      simp +contextual -dsimp (maxSteps := 2000000) only [↓SD, SU, SB, simprocAttr, map_len, Nat.lt_irrefl, List.length_map]
      (repeat' (first | intro _ | refine And.intro ?_ ?_))
      all_goals first | omega | skip
      all_goals first | (refine aCallK_of _ (specNameOk_ok s (by omega)) ?_; simp +contextual -dsimp (maxSteps := 2000000) only [↓SD, SU, SB, simprocAttr, *, map_len]; (repeat' (first | intro _ | refine And.intro ?_ ?_))) | (refine aCallK_of _ (l04Prim_ok s) ?_; simp +contextual -dsimp (maxSteps := 2000000) only [↓SD, SU, SB, simprocAttr, *, map_len]; (repeat' (first | intro _ | refine And.intro ?_ ?_))) | skip
      all_goals first | omega | skip
      all_goals first | (refine aCallK_of _ CA ?_; simp +contextual -dsimp (maxSteps := 2000000) only [↓SD, SU, SB, simprocAttr, *, map_len]; (repeat' (first | intro _ | refine And.intro ?_ ?_))) | skip
      all_goals first | omega | (simp [nodeSB, nodeB, patsB, nameN, onlyKind, firstKind, *]; done) | (have kne : kids ≠ [] := (fun h => by subst h; simp at *); simp [nodeSB, nodeB, hA, kne]; done) | (simp [nodeSB, nodeB, patsB, nameN, onlyKind, firstKind, *]; omega) | trace_state)
   case inr.inr.inr.inr.inr.inr.inr.inr.inr.inr.inr.inr.inr.inr.inr.inr.inr.inl =>
    obtain rfl : nn = 0 := p2 (by decide)
    clear p2 p3' p4'
    have hA : arityK 18 = 2 := rfl
    rw [hA] at CA
    clear hkk
    simp +contextual -dsimp (maxSteps := 2000000) only [↓SD, SU, SB, simprocAttr, ir_spec_l04Node, av_Node, av_Program, map_len, p1']
    refine aLoop_of (X := Nat) (fun j => ⟨[(2, .obj [.sl (p.types.map av), .sl (p.nodes.map av)]), (3, .obj [.int .i64 18, .int .i64 pos, .int .i64 0, .str s, .sl (kids.map av), .sl (pats.map av)]), (44, .sl (kids.map av)), (45, .int .i64 kids.length), (46, .int .i64 j)], []⟩) (fun j => j ≤ kids.length ∧ (kids.take j).all (inB p.nodes.length) = true) (fun j => kids.length - j) 0 ⟨Nat.zero_le _, rfl⟩ (by simp +contextual -dsimp only [↓SD, SU, SB, simprocAttr]) trivial ?_
    rintro j ⟨hj, hp⟩
    by_cases hjl : j < kids.length
    ·have e := getD_map av kids j .top hjl
     have hno : inB p.nodes.length kids[j] = false → nodeSB p.nodes ⟨18, pos, 0, s, kids, pats⟩ = false := fun h => by simp [nodeSB, all_false' _ hjl h]
     have hyes : inB p.nodes.length kids[j] = true → (kids.take (j + 1)).all (inB p.nodes.length) = true := fun h => by rw [all_take' _ hjl hp]; exact h
     generalize kids[j] = x at *
     simp +contextual -dsimp (maxSteps := 2000000) only [↓SD, SU, SB, simprocAttr, map_len, hjl, e, av_int]
     (repeat' (first | intro _ | refine And.intro ?_ ?_))
     all_goals first
      | omega
      | (rw [hno (by simp [inB]; omega)]; done)
      | exact Goes.le ⟨j + 1, ⟨⟨hjl, hyes (by simp [inB]; omega)⟩, (by first | omega | (simp only; omega))⟩, rfl⟩ (by simp +contextual -dsimp only [↓SD, SU, SB, simprocAttr, Int.natCast_add]) trivial
    ·obtain rfl : j = kids.length := by omega
     rw [List.take_length] at hp
     rcases pats with _ | ⟨q0, qs⟩ <;>
     ((try simp only [List.length_cons] at hq)
      simp +contextual -dsimp (maxSteps := 2000000) only [↓SD, SU, SB, simprocAttr, map_len, Nat.lt_irrefl, List.length_map]
      (repeat' (first | intro _ | refine And.intro ?_ ?_))
      all_goals first | omega | skip
      all_goals first | (refine aCallK_of _ (specNameOk_ok s (by omega)) ?_; simp +contextual -dsimp (maxSteps := 2000000) only [↓SD, SU, SB, simprocAttr, *, map_len]; (repeat' (first | intro _ | refine And.intro ?_ ?_))) | (refine aCallK_of _ (l04Prim_ok s) ?_; simp +contextual -dsimp (maxSteps := 2000000) only [↓SD, SU, SB, simprocAttr, *, map_len]; (repeat' (first | intro _ | refine And.intro ?_ ?_))) | skip
      all_goals first | omega | skip
      all_goals first | (refine aCallK_of _ CA ?_; simp +contextual -dsimp (maxSteps := 2000000) only [↓SD, SU, SB, simprocAttr, *, map_len]; (repeat' (first | intro _ | refine And.intro ?_ ?_))) | skip
      all_goals first | omega | (simp [nodeSB, nodeB, patsB, nameN, onlyKind, firstKind, *]; done) | (have kne : kids ≠ [] := (fun h => by subst h; simp at *); simp [nodeSB, nodeB, hA, kne]; done) | (simp [nodeSB, nodeB, patsB, nameN, onlyKind, firstKind, *]; omega) | trace_state)
   case inr.inr.inr.inr.inr.inr.inr.inr.inr.inr.inr.inr.inr.inr.inr.inr.inr.inr =>
    obtain rfl : nn = 0 := p2 (by decide)
    clear p2 p3' p4'
    have hA : arityK 19 = 2 := rfl
    rw [hA] at CA
    clear hkk
    simp +contextual -dsimp (maxSteps := 2000000) only [↓SD, SU, SB, simprocAttr, ir_spec_l04Node, av_Node, av_Program, map_len, p1']
    refine aLoop_of (X := Nat) (fun j => ⟨[(2, .obj [.sl (p.types.map av), .sl (p.nodes.map av)]), (3, .obj [.int .i64 19, .int .i64 pos, .int .i64 0, .str s, .sl (kids.map av), .sl (pats.map av)]), (44, .sl (kids.map av)), (45, .int .i64 kids.length), (46, .int .i64 j)], []⟩) (fun j => j ≤ kids.length ∧ (kids.take j).all (inB p.nodes.length) = true) (fun j => kids.length - j) 0 ⟨Nat.zero_le _, rfl⟩ (by simp +contextual -dsimp only [↓SD, SU, SB, simprocAttr]) trivial ?_
    rintro j ⟨hj, hp⟩
    by_cases hjl : j < kids.length
    ·have e := getD_map av kids j .top hjl
     have hno : inB p.nodes.length kids[j] = false → nodeSB p.nodes ⟨19, pos, 0, s, kids, pats⟩ = false := fun h => by simp [nodeSB, all_false' _ hjl h]
     have hyes : inB p.nodes.length kids[j] = true → (kids.take (j + 1)).all (inB p.nodes.length) = true := fun h => by rw [all_take' _ hjl hp]; exact h
     generalize kids[j] = x at *
     simp +contextual -dsimp (maxSteps := 2000000) only [↓SD, SU, SB, simprocAttr, map_len, hjl, e, av_int]
     (repeat' (first | intro _ | refine And.intro ?_ ?_))
     all_goals first
      | omega
      | (rw [hno (by simp [inB]; omega)]; done)
      | exact Goes.le ⟨j + 1, ⟨⟨hjl, hyes (by simp [inB]; omega)⟩, (by first | omega | (simp only; omega))⟩, rfl⟩ (by simp +contextual -dsimp only [↓SD, SU, SB, simprocAttr, Int.natCast_add]) trivial
    ·obtain rfl : j = kids.length := by omega
     rw [List.take_length] at hp
     rcases pats with _ | ⟨q0, qs⟩ <;>
     ((try simp only [List.length_cons] at hq)
      simp +contextual -dsimp (maxSteps := 2000000) only [↓SD, SU, SB, simprocAttr, map_len, Nat.lt_irrefl, List.length_map]
      (repeat' (first | intro _ | refine And.intro ?_ ?_))
      all_goals first | omega | skip
      all_goals first | (refine aCallK_of _ (specNameOk_ok s (by omega)) ?_; simp +contextual -dsimp (maxSteps := 2000000) only [↓SD, SU, SB, simprocAttr, *, map_len]; (repeat' (first | intro _ | refine And.intro ?_ ?_))) | (refine aCallK_of _ (l04Prim_ok s) ?_; simp +contextual -dsimp (maxSteps := 2000000) only [↓SD, SU, SB, simprocAttr, *, map_len]; (repeat' (first | intro _ | refine And.intro ?_ ?_))) | skip
      all_goals first | omega | skip
      all_goals first | (refine aCallK_of _ CA ?_; simp +contextual -dsimp (maxSteps := 2000000) only [↓SD, SU, SB, simprocAttr, *, map_len]; (repeat' (first | intro _ | refine And.intro ?_ ?_))) | skip
      all_goals first | omega | (simp [nodeSB, nodeB, patsB, nameN, onlyKind, firstKind, *]; done) | (have kne : kids ≠ [] := (fun h => by subst h; simp at *); simp [nodeSB, nodeB, hA, kne]; done) | (simp [nodeSB, nodeB, patsB, nameN, onlyKind, firstKind, *]; omega) | trace_state)
  ·have hbad : nodeSB p.nodes ⟨kind, pos, nn, s, kids, pats⟩ = false := by
    cases hn : nodeB nameN p.nodes ⟨kind, pos, nn, s, kids, pats⟩ with
    | false => simp [nodeSB, hn]
    | true =>
     exfalso
     apply hpre
     unfold nodeB at hn
     split at hn
     ·cases hn
     ·rename_i h
      simp only [not_or, ne_eq, not_and, Decidable.not_not] at h
      obtain ⟨h1, h2, h3, h4⟩ := h
      split at hn
      ·rename_i hk1
       simp only [Bool.and_eq_true, decide_eq_true_eq] at hn
       refine ⟨by omega, fun h => absurd hk1 h, hn.1.1, hn.1.2⟩
      ·rename_i hk1
       try simp only at hk1 h4 h1
       by_cases hk3 : kind = 3
       ·rw [if_neg (by simp only; omega), if_pos (by simp only; omega)] at hn
        simp only [nameN, Bool.and_eq_true, decide_eq_true_eq] at hn
        refine ⟨by omega, fun _ => hn.2, by omega, by omega⟩
       ·have := h4 hk1 hk3
        refine ⟨by omega, fun _ => this, by omega, by omega⟩
   rw [hbad]
   simp +contextual -dsimp (maxSteps := 2000000) only [↓SD, SU, SB, simprocAttr, ir_spec_l04Node, av_Node, av_Program, map_len]
   (repeat' (first | intro _ | refine And.intro ?_ ?_))
   all_goals first | rfl | (exfalso; omega) | trace_state
 ·obtain ⟨kind, pos, nn, s, kids, pats⟩ := n
  simp only at hkk
  have hbad : nodeSB p.nodes ⟨kind, pos, nn, s, kids, pats⟩ = false := by
   have c1 : ¬ kind = 1 := by omega
   have c2 : ¬ kind = 2 := by omega
   have c3 : ¬ kind = 3 := by omega
   have c4 : ¬ kind = 4 := by omega
   have c5 : ¬ kind = 5 := by omega
   have c6 : ¬ kind = 6 := by omega
   have c7 : ¬ kind = 7 := by omega
   have c8 : ¬ kind = 8 := by omega
   have c9 : ¬ kind = 9 := by omega
   have c10 : ¬ kind = 10 := by omega
   have c11 : ¬ kind = 11 := by omega
   have c12 : ¬ kind = 12 := by omega
   have c13 : ¬ kind = 13 := by omega
   have c14 : ¬ kind = 14 := by omega
   have c15 : ¬ kind = 15 := by omega
   have c16 : ¬ kind = 16 := by omega
   have c17 : ¬ kind = 17 := by omega
   have c18 : ¬ kind = 18 := by omega
   have c19 : ¬ kind = 19 := by omega
   have hn : nodeB nameN p.nodes ⟨kind, pos, nn, s, kids, pats⟩ = false := by simp [nodeB, c1, c2, c3, c4, c5, c6, c7, c8, c9, c10, c11, c12, c13, c14, c15, c16, c17, c18, c19]
   simp [nodeSB, hn]
  rw [hbad]
  by_cases h1 : kind < 1
  ·simp +contextual -dsimp (maxSteps := 2000000) only [↓SD, SU, SB, simprocAttr, ir_spec_l04Node, av_Node, av_Program, map_len, h1]
  ·have h2 : (19 : Int) < kind := by omega
   simp +contextual -dsimp (maxSteps := 2000000) only [↓SD, SU, SB, simprocAttr, ir_spec_l04Node, av_Node, av_Program, map_len, h1, h2]
end Go.Proofs.YtjifpdcflankpaaGreat

namespace Go.Proofs.YtjifpdcflankpaaGreat
open Go.RowKit Go.Proofs.YtjifpdcflankpaaGreat.Av Go.Proofs.YtjifpdcflankpaaGreat.Ml
open Go.Proofs.YtjifpdcflankpaaGreat.Av.AVal (av)

theorem l04NEnd_ok (p : Program) (hx : Bulk.bulk p ≤ 4294967296) : ∀ (f i : Nat), p.nodes.length - i < f → i ≤ 4294967296 → CallsF Tryz.prog 49 [av p, .int .i64 i] (.int .i64 (endI (endF (nkids p.nodes) p.nodes.length f i))) := by
 obtain ⟨q1, q2, q3, hl⟩ := prog_small hx
 intro f
 induction f with
 | zero => intro i h; omega
 | succ f ih =>
  intro i hf hi0
  refine ir_spec_l04NEnd.F rfl (by simp; exact ⟨AVal.clean p, pint _⟩) (pint _) ?_
  by_cases hi : i < p.nodes.length
  ·have e := getD_map av p.nodes i .top hi
   have hs := (node_small q2 (List.getElem_mem hi)).1
   have hK : nkids p.nodes i = p.nodes[i].kids := by rw [nkids, getD_at hi]
   have hE : endF (nkids p.nodes) p.nodes.length (f + 1) i = kidsF (endF (nkids p.nodes) p.nodes.length f) p.nodes[i].kids (i + 1) := by rw [endF, if_pos hi, hK]
   rw [hE]
   generalize p.nodes[i] = a at *
   simp +contextual -dsimp (maxSteps := 2000000) only [↓SD, SU, SB, simprocAttr, ir_spec_l04NEnd, map_len, hi, e, av_Node, av_Program, Nat.not_le]
   refine ⟨by omega, by omega, ?_⟩
   refine aLoop_of (X := Nat × Nat) (fun x => ⟨[(2, .obj [.sl (p.types.map av), .sl (p.nodes.map av)]), (5, .int .i64 x.2), (20, .sl (a.kids.map av)), (21, .int .i64 a.kids.length), (22, .int .i64 x.1)], []⟩) (fun x => x.1 ≤ a.kids.length ∧ i < x.2 ∧ x.2 ≤ p.nodes.length ∧ kidsF (endF (nkids p.nodes) p.nodes.length f) a.kids (i + 1) = kidsF (endF (nkids p.nodes) p.nodes.length f) (a.kids.drop x.1) x.2) (fun x => a.kids.length - x.1) (0, i + 1) ⟨Nat.zero_le _, by simp, by simp only; omega, rfl⟩ (by simp +contextual -dsimp only [↓SD, SU, SB, simprocAttr, Int.natCast_add]) trivial ?_
   rintro ⟨j, m⟩ ⟨hj, hm1, hm2, he⟩
   simp only at hj hm1 hm2 he
   by_cases hlt : j < a.kids.length
   ·have e2 := getD_map av a.kids j .top hlt
    rw [List.drop_eq_getElem_cons hlt, kidsF] at he
    have C := ih m (by omega) (by omega)
    rw [av_Program] at C
    by_cases hkm : a.kids[j] = (m : Int)
    ·rw [if_pos hkm] at he
     simp +contextual -dsimp (maxSteps := 2000000) only [↓SD, SU, SB, simprocAttr, map_len, hlt, e2, av_int, hkm]
     refine aCallK_of _ C ?_
     cases hm' : endF (nkids p.nodes) p.nodes.length f m with
     | none =>
      rw [hm'] at he
      simp +contextual -dsimp (maxSteps := 2000000) only [↓SD, SU, SB, simprocAttr, endI]
      rw [he]
     | some m' =>
      rw [hm'] at he
      have := end_le (nkids p.nodes) p.nodes.length f m m' hm'
      have hneg : ¬ ((m' : Int) < 0) := by omega
      simp +contextual -dsimp (maxSteps := 2000000) only [↓SD, SU, SB, simprocAttr, endI, hneg]
      refine ⟨by omega, Goes.le ⟨(j + 1, m'), ⟨⟨hlt, by simp only; omega, this.2, he⟩, (by first | omega | (simp only; omega))⟩, rfl⟩ (by simp +contextual -dsimp only [↓SD, SU, SB, simprocAttr, Int.natCast_add]) trivial⟩
    ·rw [if_neg hkm] at he
     simp +contextual -dsimp (maxSteps := 2000000) only [↓SD, SU, SB, simprocAttr, map_len, hlt, e2, av_int, hkm]
     rw [he]; rfl
   ·obtain rfl : j = a.kids.length := by omega
    rw [List.drop_length, kidsF] at he
    simp +contextual -dsimp (maxSteps := 2000000) only [↓SD, SU, SB, simprocAttr, map_len, Nat.lt_irrefl]
    rw [he]; rfl
  ·have hE : endF (nkids p.nodes) p.nodes.length (f + 1) i = none := by rw [endF, if_neg hi]
   have hi' : p.nodes.length ≤ i := by omega
   simp +contextual -dsimp (maxSteps := 2000000) only [↓SD, SU, SB, simprocAttr, ir_spec_l04NEnd, av_Program, map_len, hi', hE]
   rfl

theorem l04Con_ok (c : Con) (m : Int) (hs : c.name.size ≤ 4294967296) (hb : Bulk.bulk c.arg.items ≤ 4294967296) : CallsF Tryz.prog 47 [av c, .int .i64 m] (.bool (conOkB c m)) := by
 refine ir_spec_l04Con.F rfl (by simp; exact ⟨AVal.clean c, pint _⟩) (AvPure.bool _) ?_
 obtain ⟨cn, ch, ⟨items⟩⟩ := c
 simp only at hs hb
 have hil := bulk_length items
 rw [conOkB_as]
 simp only
 have D1 := specConOk_ok cn (by omega)
 have D2 := specTyOk_ok items hb
 generalize conB cn = b1 at *
 cases b1
 case false =>
  simp +contextual -dsimp (maxSteps := 2000000) only [↓SD, SU, SB, simprocAttr, ir_spec_l04Con, av_Con]
  refine aCallK_of _ D1 ?_
  simp +contextual -dsimp (maxSteps := 2000000) only [↓SD, SU, SB, simprocAttr, Bool.false_and]
 cases ch
 case false =>
  simp +contextual -dsimp (maxSteps := 2000000) only [↓SD, SU, SB, simprocAttr, ir_spec_l04Con, av_Con]
  refine aCallK_of _ D1 ?_
  simp +contextual -dsimp (maxSteps := 2000000) only [↓SD, SU, SB, simprocAttr, map_len]
  congr 1
  by_cases hi : items = []
  ·subst hi; rfl
  ·have : items.length ≠ 0 := fun h => hi (List.eq_nil_of_length_eq_zero h)
   rw [decide_eq_false (p := items = []) hi, decide_eq_false (by omega)]; rfl
 simp +contextual -dsimp (maxSteps := 2000000) only [↓SD, SU, SB, simprocAttr, ir_spec_l04Con, av_Con]
 refine aCallK_of _ D1 ?_
 simp +contextual -dsimp (maxSteps := 2000000) only [↓SD, SU, SB, simprocAttr, map_len]
 refine aLoop_of (X := Nat) (fun j => ⟨[(1, .int .i64 m), (2, .obj [.str cn, .bool true, .sl (items.map av)]), (21, .sl (items.map av)), (22, .int .i64 items.length), (23, .int .i64 j)], []⟩) (fun j => j ≤ items.length ∧ (items.take j).all (varB m) = true) (fun j => items.length - j) 0 ⟨Nat.zero_le _, rfl⟩ (by simp +contextual -dsimp only [↓SD, SU, SB, simprocAttr]) trivial ?_
 rintro j ⟨hj, hq⟩
 by_cases hjl : j < items.length
 ·have e2 := getD_map av items j .top hjl
  have hno2 : varB m items[j] = false → items.all (varB m) = false := fun h => all_false' _ hjl h
  have hyes2 : varB m items[j] = true → (items.take (j + 1)).all (varB m) = true := fun h => by rw [all_take' _ hjl hq]; exact h
  generalize items[j] = x at *
  obtain ⟨vr, nm, ar⟩ := x
  simp +contextual -dsimp (maxSteps := 2000000) only [↓SD, SU, SB, simprocAttr, map_len, hjl, e2, av_TyItem]
  intro w
  (repeat' (first | intro _ | refine And.intro ?_ ?_))
  all_goals first
   | omega
   | exact Goes.le ⟨j + 1, ⟨⟨hjl, hyes2 (by simp [varB, *])⟩, (by first | omega | (simp only; omega))⟩, rfl⟩ (by simp +contextual -dsimp only [↓SD, SU, SB, simprocAttr, Int.natCast_add]) trivial
   | (rw [hno2 (by simp [varB, *])]; simp; done)
   | exact Goes.le ⟨j + 1, ⟨⟨hjl, hyes2 (by simp [varB, *]; omega)⟩, (by first | omega | (simp only; omega))⟩, rfl⟩ (by simp +contextual -dsimp only [↓SD, SU, SB, simprocAttr, Int.natCast_add]) trivial
 ·obtain rfl : j = items.length := by omega
  rw [List.take_length] at hq
  simp +contextual -dsimp (maxSteps := 2000000) only [↓SD, SU, SB, simprocAttr, map_len, Nat.lt_irrefl]
  refine aCallK_of _ D2 ?_
  simp +contextual -dsimp (maxSteps := 2000000) only [↓SD, SU, SB, simprocAttr]
  congr 1
  rw [hq]; simp

theorem typeHB_no {t : TypeD} (h : typeHB t = false) : typeB t = false := by rw [typeB_as, h]; rfl
theorem progB_types {p : Program} (h : p.types.all typeB = false) : progB p = false := by rw [progB_as, shapeP_as, h]; simp
theorem progB_head {p : Program} (h : headP p = false) : progB p = false := by rw [progB_as, shapeP_as, h]; simp
theorem progB_tree {p : Program} (h : treeB (nkids p.nodes) p.nodes.length = false) : progB p = false := by rw [progB_as, shapeP_as, h]; simp
theorem progB_node {p : Program} {n : Node} (hn : n ∈ p.nodes) (h : nodeSB p.nodes n = false) : progB p = false := by
 cases ht : treeB (nkids p.nodes) p.nodes.length with
 | false => exact progB_tree ht
 | true =>
  obtain ⟨k, hk, rfl⟩ := List.mem_iff_getElem.1 hn
  have hin : p.nodes[k].kids.all (inB p.nodes.length) = true := by
   rw [List.all_eq_true]
   intro x hx
   have := tree_in ht hk (k := x) (by rw [nkids, getD_at hk]; exact hx)
   simp [inB]; omega
  unfold nodeSB at h
  rw [hin, Bool.true_and, Bool.and_eq_false_iff] at h
  rw [progB_as, shapeP_as]
  rcases h with h | h
  ·rw [all_false' (nodeB nameN p.nodes) hk h]; simp
  ·rw [all_false' patsB hk h]; simp
theorem progB_of {p : Program} (h1 : headP p = true) (h2 : p.types.all typeB = true) (h3 : p.nodes.all (nodeSB p.nodes) = true) : progB p = treeB (nkids p.nodes) p.nodes.length := by
 have h4 : p.nodes.all (nodeB nameN p.nodes) = true := by
  rw [List.all_eq_true] at h3 ⊢
  intro n hn
  have := h3 n hn
  simp only [nodeSB, Bool.and_eq_true] at this
  exact this.1.2
 have h5 : p.nodes.all patsB = true := by
  rw [List.all_eq_true] at h3 ⊢
  intro n hn
  have := h3 n hn
  simp only [nodeSB, Bool.and_eq_true] at this
  exact this.2
 rw [progB_as, shapeP_as, h1, h2, h4, h5]; simp

set_option maxHeartbeats 4000000 in
theorem specProgramOk_ok (p : Program) (hx : Bulk.bulk p ≤ 4294967296) : CallsF Tryz.prog 22 [av p] (.bool (progB p)) := by
 obtain ⟨q1, q2, q3, q4⟩ := prog_small hx
 refine ir_spec_ProgramOk.F rfl (by simp; exact AVal.clean p) (AvPure.bool _) ?_
 by_cases hh : headP p = true
 case neg =>
  rw [progB_head (by simpa using hh)]
  have hh2 : ¬ (1 ≤ (p.nodes.length : Int) ∧ (p.nodes.length : Int) ≤ 600 ∧ (p.types.length : Int) ≤ 8) := fun h => hh (by unfold headP; rw [decide_eq_true h.1, decide_eq_true h.2.1, decide_eq_true h.2.2]; rfl)
  simp +contextual -dsimp (maxSteps := 2000000) only [↓SD, SU, SB, simprocAttr, ir_spec_ProgramOk, av_Program, map_len]
  (repeat' (first | intro _ | refine And.intro ?_ ?_))
  all_goals first | rfl | (exfalso; omega) | trace_state
 have hh' := hh
 unfold headP at hh'
 simp only [Bool.and_eq_true, decide_eq_true_eq] at hh'
 obtain ⟨⟨h1, h2⟩, h3⟩ := hh'
 have h1' : ¬ (p.nodes.length : Int) < 1 := by omega
 have h2' : ¬ (600 : Int) < p.nodes.length := by omega
 have h3' : ¬ (8 : Int) < p.types.length := by omega
 have h1'' : ¬ p.nodes.length < 1 := by omega
 have h2'' : ¬ 600 < p.nodes.length := by omega
 have h3'' : ¬ 8 < p.types.length := by omega
 simp +contextual -dsimp (maxSteps := 2000000) only [↓SD, SU, SB, simprocAttr, ir_spec_ProgramOk, av_Program, map_len, h1', h2', h3', h1'', h2'', h3'']
 refine aLoop_of (X := Nat) (fun k => ⟨[(1, .obj [.sl (p.types.map av), .sl (p.nodes.map av)]), (26, .sl (p.types.map av)), (27, .int .i64 p.types.length), (28, .int .i64 k)], []⟩) (fun k => k ≤ p.types.length ∧ (p.types.take k).all typeB = true) (fun k => p.types.length - k) 0 ⟨Nat.zero_le _, rfl⟩ (by simp +contextual -dsimp only [↓SD, SU, SB, simprocAttr]) trivial ?_
 rintro k ⟨hk, hp⟩
 by_cases hlt : k < p.types.length
 ·have e := getD_map av p.types k .top hlt
  have htb : Bulk.bulk p.types[k] ≤ 4294967296 := by have := bulk_mem (List.getElem_mem hlt); omega
  obtain ⟨hs, hcb⟩ := type_small htb
  have hno : typeB p.types[k] = false → progB p = false := fun h => progB_types (all_false' _ hlt h)
  have hyes : typeB p.types[k] = true → (p.types.take (k + 1)).all typeB = true := fun h => by rw [all_take' _ hlt hp]; exact h
  generalize p.types[k] = t at *
  obtain ⟨name, params, cons⟩ := t
  simp only at hs hcb
  have hcl := bulk_length cons
  have CN := specNameOk_ok name (by omega)
  cases hnm : nameB name with
  | false =>
   rw [hnm] at CN
   simp +contextual -dsimp (maxSteps := 2000000) only [↓SD, SU, SB, simprocAttr, map_len, hlt, e, av_TypeD]
   intro v
   refine aCallK_of _ CN ?_
   simp +contextual -dsimp (maxSteps := 2000000) only [↓SD, SU, SB, simprocAttr]
   rw [hno (typeHB_no (by simp [typeHB, hnm]))]
  | true =>
   rw [hnm] at CN
   by_cases hr : (0 ≤ params ∧ params ≤ 2) ∧ 1 ≤ (cons.length : Int) ∧ (cons.length : Int) ≤ 8
   ·obtain ⟨⟨r1, r2⟩, r3, r4⟩ := hr
    have r1' : ¬ params < 0 := by omega
    have r2' : ¬ (2 : Int) < params := by omega
    have r3' : ¬ (cons.length : Int) < 1 := by omega
    have r4' : ¬ (8 : Int) < cons.length := by omega
    have hH : typeB ⟨name, params, cons⟩ = cons.all fun c => conOkB c params := by
     rw [typeB_as]
     unfold typeHB
     rw [hnm, decide_eq_true r1, decide_eq_true r2, decide_eq_true r3, decide_eq_true r4]; simp
    rw [hH] at hno hyes
    simp +contextual -dsimp (maxSteps := 2000000) only [↓SD, SU, SB, simprocAttr, map_len, hlt, e, av_TypeD]
    intro v
    refine aCallK_of _ CN ?_
    simp +contextual -dsimp (maxSteps := 2000000) only [↓SD, SU, SB, simprocAttr, map_len, r1', r2', r3', r4']
    refine aLoop_of (X := Nat) (fun j => ⟨[(1, .obj [.sl (p.types.map av), .sl (p.nodes.map av)]), (4, .ptr 4 v 0 0), (26, .sl (p.types.map av)), (27, .int .i64 p.types.length), (28, .int .i64 k), (59, .sl (cons.map av)), (60, .int .i64 cons.length), (61, .int .i64 j)], [(4, ⟨v, false, 74, 3, [.agg [.str name, .int .i64 params, .sl (cons.map av)]]⟩)]⟩) (fun j => j ≤ cons.length ∧ (cons.take j).all (fun c => conOkB c params) = true) (fun j => cons.length - j) 0 ⟨Nat.zero_le _, rfl⟩ (by simp +contextual -dsimp only [↓SD, SU, SB, simprocAttr]) (by simp +contextual -dsimp only [↓SD, SU, SB, simprocAttr]) ?_
    rintro j ⟨hj, hq⟩
    by_cases hjl : j < cons.length
    ·have e2 := getD_map av cons j .top hjl
     obtain ⟨s1, s2⟩ := con_small hcb (List.getElem_mem hjl)
     have CC := l04Con_ok cons[j] params s1 s2
     have hno2 : conOkB cons[j] params = false → progB p = false := fun h => hno (all_false' (fun c => conOkB c params) hjl h)
     have hyes2 : conOkB cons[j] params = true → (cons.take (j + 1)).all (fun c => conOkB c params) = true := fun h => by rw [all_take' _ hjl hq]; exact h
     generalize cons[j] = c at *
     rw [av_Con] at CC
     simp +contextual -dsimp (maxSteps := 2000000) only [↓SD, SU, SB, simprocAttr, map_len, hjl, e2, av_Con]
     intro w
     refine aCallK_of _ CC ?_
     simp +contextual -dsimp (maxSteps := 2000000) only [↓SD, SU, SB, simprocAttr]
     refine ⟨fun h => by rw [hno2 h], fun h => ⟨by omega, Goes.le ⟨j + 1, ⟨⟨hjl, hyes2 h⟩, (by first | omega | (simp only; omega))⟩, rfl⟩ (by simp +contextual -dsimp only [↓SD, SU, SB, simprocAttr, Int.natCast_add]) (by simp +contextual -dsimp only [↓SD, SU, SB, simprocAttr])⟩⟩
    ·obtain rfl : j = cons.length := by omega
     rw [List.take_length] at hq
     simp +contextual -dsimp (maxSteps := 2000000) only [↓SD, SU, SB, simprocAttr, map_len, Nat.lt_irrefl]
     exact ⟨by omega, Goes.le ⟨k + 1, ⟨⟨hlt, hyes hq⟩, (by first | omega | (simp only; omega))⟩, rfl⟩ (by simp +contextual -dsimp only [↓SD, SU, SB, simprocAttr, Int.natCast_add]) trivial⟩
   ·have hbad : typeHB ⟨name, params, cons⟩ = false := by
     rw [← Bool.not_eq_true]
     unfold typeHB
     simp only [Bool.and_eq_true, decide_eq_true_eq]
     exact fun h => hr ⟨h.1.2, h.2⟩
    have hF := hno (typeHB_no hbad)
    simp +contextual -dsimp (maxSteps := 2000000) only [↓SD, SU, SB, simprocAttr, map_len, hlt, e, av_TypeD]
    intro v
    refine aCallK_of _ CN ?_
    simp +contextual -dsimp (maxSteps := 2000000) only [↓SD, SU, SB, simprocAttr, map_len, hF]
    (repeat' (first | intro _ | refine And.intro ?_ ?_))
    all_goals first | rfl | (exfalso; omega) | trace_state
 ·obtain rfl : k = p.types.length := by omega
  rw [List.take_length] at hp
  simp +contextual -dsimp (maxSteps := 2000000) only [↓SD, SU, SB, simprocAttr, map_len, Nat.lt_irrefl]
  refine aLoop_of (X := Nat) (fun k => ⟨[(1, .obj [.sl (p.types.map av), .sl (p.nodes.map av)]), (73, .sl (p.nodes.map av)), (74, .int .i64 p.nodes.length), (75, .int .i64 k)], []⟩) (fun k => k ≤ p.nodes.length ∧ (p.nodes.take k).all (nodeSB p.nodes) = true) (fun k => p.nodes.length - k) 0 ⟨Nat.zero_le _, rfl⟩ (by simp +contextual -dsimp only [↓SD, SU, SB, simprocAttr]) trivial ?_
  rintro i ⟨hi, hq⟩
  by_cases hil : i < p.nodes.length
  ·have e := getD_map av p.nodes i .top hil
   have hm := List.getElem_mem hil
   obtain ⟨b1, b2, b3, b4⟩ := node_small q2 hm
   have CC := l04Node_ok p p.nodes[i] q4 b1 b2 b4 b3
   have hno2 : nodeSB p.nodes p.nodes[i] = false → progB p = false := fun h => progB_node hm h
   have hyes2 : nodeSB p.nodes p.nodes[i] = true → (p.nodes.take (i + 1)).all (nodeSB p.nodes) = true := fun h => by rw [all_take' _ hil hq]; exact h
   generalize p.nodes[i] = n at *
   rw [av_Node, av_Program] at CC
   simp +contextual -dsimp (maxSteps := 2000000) only [↓SD, SU, SB, simprocAttr, map_len, hil, e, av_Node]
   intro w
   refine aCallK_of _ CC ?_
   simp +contextual -dsimp (maxSteps := 2000000) only [↓SD, SU, SB, simprocAttr]
   refine ⟨fun h => by rw [hno2 h], fun h => ⟨by omega, Goes.le ⟨i + 1, ⟨⟨hil, hyes2 h⟩, (by first | omega | (simp only; omega))⟩, rfl⟩ (by simp +contextual -dsimp only [↓SD, SU, SB, simprocAttr, Int.natCast_add]) trivial⟩⟩
  ·obtain rfl : i = p.nodes.length := by omega
   rw [List.take_length] at hq
   have CE := l04NEnd_ok p hx (p.nodes.length + 1) 0 (by omega) (by omega)
   rw [av_Program] at CE
   simp +contextual -dsimp (maxSteps := 2000000) only [↓SD, SU, SB, simprocAttr, map_len, Nat.lt_irrefl]
   refine aCallK_of _ CE ?_
   simp +contextual -dsimp (maxSteps := 2000000) only [↓SD, SU, SB, simprocAttr, map_len]
   congr 1
   rw [progB_of hh hp hq]
   unfold treeB
   cases ho : endF (nkids p.nodes) p.nodes.length (p.nodes.length + 1) 0 with
   | none =>
    rw [decide_eq_false (p := (none : Option Nat) = some p.nodes.length) (by simp)]
    exact decide_eq_false (by simp only [endI]; omega)
   | some m =>
    by_cases hm : m = p.nodes.length
    ·rw [decide_eq_true (p := some m = some p.nodes.length) (by rw [hm])]
     exact decide_eq_true (by simp only [endI]; omega)
    ·rw [decide_eq_false (p := some m = some p.nodes.length) (by simpa using hm)]
     exact decide_eq_false (by simp only [endI]; omega)
end Go.Proofs.YtjifpdcflankpaaGreat
