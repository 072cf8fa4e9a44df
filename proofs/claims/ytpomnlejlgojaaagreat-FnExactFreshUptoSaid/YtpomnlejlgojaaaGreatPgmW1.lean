/-
  NODES OF RIGHT PROGRAMS: what the program's nodeOk tells, by abstract texts. Conditions: none.
-/
import Derived.Test.YtpomnlejlgojaaaGreatPgmP
import Derived.Test.YtpomnlejlgojaaaGreatTyW
import Derived.Test.YtpomnlejlgojaaaGreatPatSpec
import Derived.Test.YtpomnlejlgojaaaGreatIrProg
set_option linter.unusedVariables false
set_option linter.unusedSimpArgs false
set_option maxRecDepth 100000
namespace Go.Proofs.YtpomnlejlgojaaaGreat
open Go.RowKit Go.Proofs.YtpomnlejlgojaaaGreat.Av Go.Proofs.YtpomnlejlgojaaaGreat.Ml
open Go.Proofs.YtpomnlejlgojaaaGreat.Av.AVal (av)

theorem arity_ok (k : Int) : CallsF Tryz.prog 206 [.int .i64 k] (.int .i64 (arityK k)) := by
  refine fun_impl_arity rfl (by simp; exact pint _) (pint _) ?_
  simp +contextual -dsimp (maxSteps := 2000000) only [↓SD, SU, SB, Nat.reduceAdd, Nat.reduceBEq, Nat.reduceEqDiff, Nat.reduceLeDiff, Nat.reduceLT, Nat.reduceSub, ↓reduceIte, forall_const, implies_true, ne_eq, reduceCtorEq, Int.reduceToNat, forall_eq, Int.reduceEq, Int.reduceLT, Int.reduceLE, Int.reduceNeg, Int.reduceAdd, Int.reduceSub, ir_impl_arity, rs_impl_arity]
  (repeat' (first | intro _ | refine And.intro ?_ ?_))
  all_goals first | (simp [arityK, *]; done) | (subst_vars; rfl)
theorem l04Kids_ok (k : Int) : CallsF Tryz.prog 171 [.int .i64 k] (.int .i64 (arityK k)) := by
  refine fun_spec_l04Kids rfl (by simp; exact pint _) (pint _) ?_
  simp +contextual -dsimp (maxSteps := 2000000) only [↓SD, SU, SB, Nat.reduceAdd, Nat.reduceBEq, Nat.reduceEqDiff, Nat.reduceLeDiff, Nat.reduceLT, Nat.reduceSub, ↓reduceIte, forall_const, implies_true, ne_eq, reduceCtorEq, Int.reduceToNat, forall_eq, Int.reduceEq, Int.reduceLT, Int.reduceLE, Int.reduceNeg, Int.reduceAdd, Int.reduceSub, ir_spec_l04Kids, rs_spec_l04Kids]
  (repeat' (first | intro _ | refine And.intro ?_ ?_))
  all_goals first | (simp [arityK, *]; done) | (subst_vars; rfl)
theorem opsL_as : opsL.map av = [.str (bs [43]), .str (bs [45]), .str (bs [42]), .str (bs [47]), .str (bs [37]), .str (bs [94]), .str (bs [61]), .str (bs [60, 62]), .str (bs [60]), .str (bs [60, 61])] := rfl
theorem primOps_ok : CallsF Tryz.prog 207 [] (.sl (opsL.map av)) := by
  refine fun_impl_primOps rfl (by simp) (lav_clean opsL) ?_
  simp +contextual -dsimp (maxSteps := 2000000) only [↓SD, SU, SB, Nat.reduceAdd, Nat.reduceBEq, Nat.reduceEqDiff, Nat.reduceLeDiff, Nat.reduceLT, Nat.reduceSub, ↓reduceIte, forall_const, implies_true, ne_eq, reduceCtorEq, Int.reduceToNat, forall_eq, ir_impl_primOps, rs_impl_primOps, opsL_as]
theorem l04Prim_ok (s : ByteArray) : CallsF Tryz.prog 168 [.str s] (.bool (opsL.any (fun x => decide (s = x)))) := by
  refine fun_spec_l04Prim rfl (by simp; exact AvPure.str _) (AvPure.bool _) ?_
  simp +contextual -dsimp (maxSteps := 2000000) only [↓SD, SU, SB, Nat.reduceAdd, Nat.reduceBEq, Nat.reduceEqDiff, Nat.reduceLeDiff, Nat.reduceLT, Nat.reduceSub, ↓reduceIte, forall_const, implies_true, ne_eq, reduceCtorEq, Int.reduceToNat, forall_eq, ir_spec_l04Prim, rs_spec_l04Prim]
  refine aLoop_of (X := Nat) (fun k => ⟨[(0, .str s), (5, .sl (opsL.map av)), (6, .int .i64 opsL.length), (7, .int .i64 k)], []⟩) (fun k => k ≤ opsL.length ∧ (opsL.take k).all (fun x => !decide (s = x)) = true) (fun k => opsL.length - k) 0 ⟨Nat.zero_le _, rfl⟩ (by simp +contextual -dsimp (maxSteps := 2000000) only [↓SD, SU, SB, Nat.reduceAdd, Nat.reduceBEq, Nat.reduceEqDiff, Nat.reduceLeDiff, Nat.reduceLT, Nat.reduceSub, ↓reduceIte, forall_const, implies_true, ne_eq, reduceCtorEq, Int.reduceToNat, forall_eq, opsL_as]; rfl) trivial ?_
  intro k ⟨hk, hpk⟩
  have hk10 : opsL.length = 10 := rfl
  by_cases hlt : k < opsL.length
  · have e := getD_map (av (α := ByteArray)) opsL k .top hlt
    simp +contextual -dsimp (maxSteps := 2000000) only [↓SD, SU, SB, Nat.reduceAdd, Nat.reduceBEq, Nat.reduceEqDiff, Nat.reduceLeDiff, Nat.reduceLT, Nat.reduceSub, ↓reduceIte, forall_const, implies_true, ne_eq, reduceCtorEq, Int.reduceToNat, forall_eq, map_len, e, av_str, hlt]
    refine ⟨fun h1 => ?_, fun h1 => ⟨by omega, ?_⟩⟩
    · rw [List.any_eq_true.2 ⟨opsL[k], List.getElem_mem hlt, by simp [h1]⟩]
    · exact Goes.le ⟨k + 1, ⟨⟨hlt, by rw [all_take' _ hlt hpk]; simp [h1]⟩, (by first | omega | (simp only; omega))⟩, rfl⟩ (by simp +contextual -dsimp (maxSteps := 2000000) only [↓SD, SU, SB, Nat.reduceAdd, Nat.reduceBEq, Nat.reduceEqDiff, Nat.reduceLeDiff, Nat.reduceLT, Nat.reduceSub, ↓reduceIte, forall_const, implies_true, ne_eq, reduceCtorEq, Int.reduceToNat, forall_eq, Int.natCast_add]) trivial
  · obtain rfl : k = opsL.length := by omega
    rw [List.take_length] at hpk
    have : opsL.any (fun x => decide (s = x)) = false := by
      rw [List.any_eq_false]; intro x hx; simpa using List.all_eq_true.1 hpk x hx
    simp +contextual -dsimp (maxSteps := 2000000) only [↓SD, SU, SB, Nat.reduceAdd, Nat.reduceBEq, Nat.reduceEqDiff, Nat.reduceLeDiff, Nat.reduceLT, Nat.reduceSub, ↓reduceIte, forall_const, implies_true, ne_eq, reduceCtorEq, Int.reduceToNat, forall_eq, map_len, Nat.lt_irrefl, this]

theorem kinds {k : Int} (h : 1 ≤ k ∧ k ≤ 19) : k = 1 ∨ k = 2 ∨ k = 3 ∨ k = 4 ∨ k = 5 ∨ k = 6 ∨ k = 7 ∨ k = 8 ∨ k = 9 ∨ k = 10 ∨ k = 11 ∨ k = 12 ∨ k = 13 ∨ k = 14 ∨ k = 15 ∨ k = 16 ∨ k = 17 ∨ k = 18 ∨ k = 19 := by omega

set_option maxHeartbeats 8000000 in
theorem nodeOk_ok (nm : Node → Bool) (p : Program) (n : Node) (g : FuncId) (caps : List AV) (hpc : ∀ x ∈ caps, AvPure x) (hc : ∀ hp, caps.map (AV.pur1 hp) = caps) (hg : CallsF Tryz.prog g (av n :: caps) (.bool (nm n)))
    (hl : p.nodes.length ≤ 1048576) (hk : n.kids.length ≤ 1048576) (hs : n.s.size ≤ 1048576) (hq : n.pats.length ≤ 1048576) (hin : ∀ k ∈ n.kids, 0 ≤ k ∧ k < p.nodes.length) :
    CallsF Tryz.prog 150 [av p, av n, .fn g caps] (.bool (nodeB nm p.nodes n)) := by
  refine fun_impl_nodeOk rfl (by simp; exact ⟨AVal.clean p, AVal.clean n, AvPure.fn hpc⟩) (AvPure.bool _) ?_
  have CA := arity_ok n.kind
  rw [av_Node] at hg
  by_cases hkk : 1 ≤ n.kind ∧ n.kind ≤ 19
  · obtain ⟨kind, pos, nn, s, kids, pats⟩ := n
    simp only at hk hs hq hin hkk CA hg
    rcases kinds hkk with rfl | rfl | rfl | rfl | rfl | rfl | rfl | rfl | rfl | rfl | rfl | rfl | rfl | rfl | rfl | rfl | rfl | rfl | rfl
    all_goals first | (rw [show arityK 1 = 0 from rfl] at CA; have hA : arityK 1 = 0 := rfl; clear hkk) | (rw [show arityK 2 = 0 from rfl] at CA; have hA : arityK 2 = 0 := rfl; clear hkk) | (rw [show arityK 3 = 0 from rfl] at CA; have hA : arityK 3 = 0 := rfl; clear hkk) | (rw [show arityK 4 = -1 from rfl] at CA; have hA : arityK 4 = -1 := rfl; clear hkk) | (rw [show arityK 5 = 1 from rfl] at CA; have hA : arityK 5 = 1 := rfl; clear hkk) | (rw [show arityK 6 = 2 from rfl] at CA; have hA : arityK 6 = 2 := rfl; clear hkk) | (rw [show arityK 7 = 2 from rfl] at CA; have hA : arityK 7 = 2 := rfl; clear hkk) | (rw [show arityK 8 = 2 from rfl] at CA; have hA : arityK 8 = 2 := rfl; clear hkk) | (rw [show arityK 9 = 3 from rfl] at CA; have hA : arityK 9 = 3 := rfl; clear hkk) | (rw [show arityK 10 = 2 from rfl] at CA; have hA : arityK 10 = 2 := rfl; clear hkk) | (rw [show arityK 11 = 2 from rfl] at CA; have hA : arityK 11 = 2 := rfl; clear hkk) | (rw [show arityK 12 = 0 from rfl] at CA; have hA : arityK 12 = 0 := rfl; clear hkk) | (rw [show arityK 13 = -1 from rfl] at CA; have hA : arityK 13 = -1 := rfl; clear hkk) | (rw [show arityK 14 = 1 from rfl] at CA; have hA : arityK 14 = 1 := rfl; clear hkk) | (rw [show arityK 15 = 2 from rfl] at CA; have hA : arityK 15 = 2 := rfl; clear hkk) | (rw [show arityK 16 = 1 from rfl] at CA; have hA : arityK 16 = 1 := rfl; clear hkk) | (rw [show arityK 17 = 1 from rfl] at CA; have hA : arityK 17 = 1 := rfl; clear hkk) | (rw [show arityK 18 = 2 from rfl] at CA; have hA : arityK 18 = 2 := rfl; clear hkk) | (rw [show arityK 19 = 2 from rfl] at CA; have hA : arityK 19 = 2 := rfl; clear hkk)
    case inr.inr.inr.inl =>
      rcases kids with _ | ⟨k0, _ | ⟨k1, ks⟩⟩
      case cons.nil =>
        obtain ⟨g0, g1⟩ := hin k0 (by simp)
        have g2 : k0.toNat < p.nodes.length := by omega
        have e := av_getD p.nodes default g2
        rw [av_Node] at e
        rcases pats with _ | ⟨q0, qs⟩ <;>
        ( simp +contextual -dsimp (maxSteps := 2000000) only [↓SD, SU, SB, Nat.reduceAdd, Nat.reduceBEq, Nat.reduceEqDiff, Nat.reduceLeDiff, Nat.reduceLT, Nat.reduceSub, ↓reduceIte, forall_const, implies_true, ne_eq, reduceCtorEq, Int.reduceToNat, forall_eq, Int.reduceEq, Int.reduceLT, Int.reduceLE, Int.reduceNeg, Int.reduceAdd, Int.reduceSub, ir_impl_nodeOk, rs_impl_nodeOk, av_Node, av_Program, av_int, map_len, hc]
          refine aCallK_of _ CA ?_
          simp +contextual -dsimp (maxSteps := 2000000) only [↓SD, SU, SB, Nat.reduceAdd, Nat.reduceBEq, Nat.reduceEqDiff, Nat.reduceLeDiff, Nat.reduceLT, Nat.reduceSub, ↓reduceIte, forall_const, implies_true, ne_eq, reduceCtorEq, Int.reduceToNat, forall_eq, Int.reduceEq, Int.reduceLT, Int.reduceLE, Int.reduceNeg, Int.reduceAdd, Int.reduceSub, map_len, g0, g1, g2, e]
          (repeat' (first | intro _ | refine And.intro ?_ ?_))
          all_goals first | omega | skip
          all_goals first | (refine aCallK_of _ (conShape_ok _ _ _ (by omega)) ?_; simp +contextual -dsimp (maxSteps := 2000000) only [↓SD, SU, SB, Nat.reduceAdd, Nat.reduceBEq, Nat.reduceEqDiff, Nat.reduceLeDiff, Nat.reduceLT, Nat.reduceSub, ↓reduceIte, forall_const, implies_true, ne_eq, reduceCtorEq, Int.reduceToNat, forall_eq, Int.reduceEq, Int.reduceLT, Int.reduceLE, Int.reduceNeg, Int.reduceAdd, Int.reduceSub, *]; (repeat' (first | intro _ | refine And.intro ?_ ?_))) | skip
          all_goals first | omega | (simp [nodeB, onlyKind, firstKind, *]; done))
      all_goals
        rcases pats with _ | ⟨q0, qs⟩ <;>
        ( simp +contextual -dsimp (maxSteps := 2000000) only [↓SD, SU, SB, Nat.reduceAdd, Nat.reduceBEq, Nat.reduceEqDiff, Nat.reduceLeDiff, Nat.reduceLT, Nat.reduceSub, ↓reduceIte, forall_const, implies_true, ne_eq, reduceCtorEq, Int.reduceToNat, forall_eq, Int.reduceEq, Int.reduceLT, Int.reduceLE, Int.reduceNeg, Int.reduceAdd, Int.reduceSub, ir_impl_nodeOk, rs_impl_nodeOk, av_Node, av_Program, av_int, map_len, hc]
          refine aCallK_of _ CA ?_
          simp +contextual -dsimp (maxSteps := 2000000) only [↓SD, SU, SB, Nat.reduceAdd, Nat.reduceBEq, Nat.reduceEqDiff, Nat.reduceLeDiff, Nat.reduceLT, Nat.reduceSub, ↓reduceIte, forall_const, implies_true, ne_eq, reduceCtorEq, Int.reduceToNat, forall_eq, Int.reduceEq, Int.reduceLT, Int.reduceLE, Int.reduceNeg, Int.reduceAdd, Int.reduceSub, map_len]
          (repeat' (first | intro _ | refine And.intro ?_ ?_))
          all_goals first | omega | skip
          all_goals first | (refine aCallK_of _ (conShape_ok _ _ _ (by omega)) ?_; simp +contextual -dsimp (maxSteps := 2000000) only [↓SD, SU, SB, Nat.reduceAdd, Nat.reduceBEq, Nat.reduceEqDiff, Nat.reduceLeDiff, Nat.reduceLT, Nat.reduceSub, ↓reduceIte, forall_const, implies_true, ne_eq, reduceCtorEq, Int.reduceToNat, forall_eq, Int.reduceEq, Int.reduceLT, Int.reduceLE, Int.reduceNeg, Int.reduceAdd, Int.reduceSub, *, map_len]; (repeat' (first | intro _ | refine And.intro ?_ ?_))) | skip
          all_goals first | omega | (simp [nodeB, onlyKind, firstKind, *]; done))
    case inr.inr.inr.inr.inr.inr.inr.inl =>
      cases hb : nm ⟨8, pos, nn, s, kids, pats⟩ <;> rw [hb] at hg <;>
      rcases kids with _ | ⟨k0, ks⟩
      case false.cons | true.cons =>
        obtain ⟨g0, g1⟩ := hin k0 (by simp)
        have g2 : k0.toNat < p.nodes.length := by omega
        have e := av_getD p.nodes default g2
        rw [av_Node] at e
        rcases pats with _ | ⟨q0, qs⟩ <;>
        ( simp +contextual -dsimp (maxSteps := 2000000) only [↓SD, SU, SB, Nat.reduceAdd, Nat.reduceBEq, Nat.reduceEqDiff, Nat.reduceLeDiff, Nat.reduceLT, Nat.reduceSub, ↓reduceIte, forall_const, implies_true, ne_eq, reduceCtorEq, Int.reduceToNat, forall_eq, Int.reduceEq, Int.reduceLT, Int.reduceLE, Int.reduceNeg, Int.reduceAdd, Int.reduceSub, ir_impl_nodeOk, rs_impl_nodeOk, av_Node, av_Program, av_int, map_len, hc]
          refine aCallK_of _ CA ?_
          simp +contextual -dsimp (maxSteps := 2000000) only [↓SD, SU, SB, Nat.reduceAdd, Nat.reduceBEq, Nat.reduceEqDiff, Nat.reduceLeDiff, Nat.reduceLT, Nat.reduceSub, ↓reduceIte, forall_const, implies_true, ne_eq, reduceCtorEq, Int.reduceToNat, forall_eq, Int.reduceEq, Int.reduceLT, Int.reduceLE, Int.reduceNeg, Int.reduceAdd, Int.reduceSub, map_len, g0, g1, g2, e, hc]
          (repeat' (first | intro _ | refine And.intro ?_ ?_))
          all_goals first | omega | skip
          all_goals first | (subst_vars; refine aCallK_of _ hg ?_; simp +contextual -dsimp (maxSteps := 2000000) only [↓SD, SU, SB, Nat.reduceAdd, Nat.reduceBEq, Nat.reduceEqDiff, Nat.reduceLeDiff, Nat.reduceLT, Nat.reduceSub, ↓reduceIte, forall_const, implies_true, ne_eq, reduceCtorEq, Int.reduceToNat, forall_eq, Int.reduceEq, Int.reduceLT, Int.reduceLE, Int.reduceNeg, Int.reduceAdd, Int.reduceSub, *, map_len]; (repeat' (first | intro _ | refine And.intro ?_ ?_))) | skip
          all_goals first | omega | (simp [nodeB, onlyKind, firstKind, *]; done) | (simp [nodeB, onlyKind, firstKind, *]; omega) | trace_state)
      all_goals
        rcases pats with _ | ⟨q0, qs⟩ <;>
        ( simp +contextual -dsimp (maxSteps := 2000000) only [↓SD, SU, SB, Nat.reduceAdd, Nat.reduceBEq, Nat.reduceEqDiff, Nat.reduceLeDiff, Nat.reduceLT, Nat.reduceSub, ↓reduceIte, forall_const, implies_true, ne_eq, reduceCtorEq, Int.reduceToNat, forall_eq, Int.reduceEq, Int.reduceLT, Int.reduceLE, Int.reduceNeg, Int.reduceAdd, Int.reduceSub, ir_impl_nodeOk, rs_impl_nodeOk, av_Node, av_Program, av_int, map_len, hc]
          refine aCallK_of _ CA ?_
          simp +contextual -dsimp (maxSteps := 2000000) only [↓SD, SU, SB, Nat.reduceAdd, Nat.reduceBEq, Nat.reduceEqDiff, Nat.reduceLeDiff, Nat.reduceLT, Nat.reduceSub, ↓reduceIte, forall_const, implies_true, ne_eq, reduceCtorEq, Int.reduceToNat, forall_eq, Int.reduceEq, Int.reduceLT, Int.reduceLE, Int.reduceNeg, Int.reduceAdd, Int.reduceSub, map_len, hc]
          (repeat' (first | intro _ | refine And.intro ?_ ?_))
          all_goals first | omega | skip
          all_goals first | (subst_vars; refine aCallK_of _ hg ?_; simp +contextual -dsimp (maxSteps := 2000000) only [↓SD, SU, SB, Nat.reduceAdd, Nat.reduceBEq, Nat.reduceEqDiff, Nat.reduceLeDiff, Nat.reduceLT, Nat.reduceSub, ↓reduceIte, forall_const, implies_true, ne_eq, reduceCtorEq, Int.reduceToNat, forall_eq, Int.reduceEq, Int.reduceLT, Int.reduceLE, Int.reduceNeg, Int.reduceAdd, Int.reduceSub, *, map_len]; (repeat' (first | intro _ | refine And.intro ?_ ?_))) | skip
          all_goals first | omega | (simp [nodeB, onlyKind, firstKind, *]; done))
    all_goals
      rcases pats with _ | ⟨q0, qs⟩ <;>
      ( (try simp only [List.length_cons] at hq)
        simp +contextual -dsimp (maxSteps := 2000000) only [↓SD, SU, SB, Nat.reduceAdd, Nat.reduceBEq, Nat.reduceEqDiff, Nat.reduceLeDiff, Nat.reduceLT, Nat.reduceSub, ↓reduceIte, forall_const, implies_true, ne_eq, reduceCtorEq, Int.reduceToNat, forall_eq, Int.reduceEq, Int.reduceLT, Int.reduceLE, Int.reduceNeg, Int.reduceAdd, Int.reduceSub, ir_impl_nodeOk, rs_impl_nodeOk, av_Node, av_Program, map_len, hc]
        refine aCallK_of _ CA ?_
        simp +contextual -dsimp (maxSteps := 2000000) only [↓SD, SU, SB, Nat.reduceAdd, Nat.reduceBEq, Nat.reduceEqDiff, Nat.reduceLeDiff, Nat.reduceLT, Nat.reduceSub, ↓reduceIte, forall_const, implies_true, ne_eq, reduceCtorEq, Int.reduceToNat, forall_eq, Int.reduceEq, Int.reduceLT, Int.reduceLE, Int.reduceNeg, Int.reduceAdd, Int.reduceSub, map_len, hc]
        (repeat' (first | intro _ | refine And.intro ?_ ?_))
        all_goals first | omega | skip
        all_goals first | (subst_vars; refine aCallK_of _ hg ?_; simp +contextual -dsimp (maxSteps := 2000000) only [↓SD, SU, SB, Nat.reduceAdd, Nat.reduceBEq, Nat.reduceEqDiff, Nat.reduceLeDiff, Nat.reduceLT, Nat.reduceSub, ↓reduceIte, forall_const, implies_true, ne_eq, reduceCtorEq, Int.reduceToNat, forall_eq, Int.reduceEq, Int.reduceLT, Int.reduceLE, Int.reduceNeg, Int.reduceAdd, Int.reduceSub, *]; (repeat' (first | intro _ | refine And.intro ?_ ?_))) | (refine aCallK_of _ (within_ok _ _ _) ?_; simp +contextual -dsimp (maxSteps := 2000000) only [↓SD, SU, SB, Nat.reduceAdd, Nat.reduceBEq, Nat.reduceEqDiff, Nat.reduceLeDiff, Nat.reduceLT, Nat.reduceSub, ↓reduceIte, forall_const, implies_true, ne_eq, reduceCtorEq, Int.reduceToNat, forall_eq, Int.reduceEq, Int.reduceLT, Int.reduceLE, Int.reduceNeg, Int.reduceAdd, Int.reduceSub, *]; (repeat' (first | intro _ | refine And.intro ?_ ?_))) | (refine aCallK_of _ primOps_ok ?_; simp +contextual -dsimp (maxSteps := 2000000) only [↓SD, SU, SB, Nat.reduceAdd, Nat.reduceBEq, Nat.reduceEqDiff, Nat.reduceLeDiff, Nat.reduceLT, Nat.reduceSub, ↓reduceIte, forall_const, implies_true, ne_eq, reduceCtorEq, Int.reduceToNat, forall_eq, Int.reduceEq, Int.reduceLT, Int.reduceLE, Int.reduceNeg, Int.reduceAdd, Int.reduceSub, *]; refine aCallK_of _ (ContainsStr_ok opsL _ (by decide)) ?_; simp +contextual -dsimp (maxSteps := 2000000) only [↓SD, SU, SB, Nat.reduceAdd, Nat.reduceBEq, Nat.reduceEqDiff, Nat.reduceLeDiff, Nat.reduceLT, Nat.reduceSub, ↓reduceIte, forall_const, implies_true, ne_eq, reduceCtorEq, Int.reduceToNat, forall_eq, Int.reduceEq, Int.reduceLT, Int.reduceLE, Int.reduceNeg, Int.reduceAdd, Int.reduceSub, *]; (repeat' (first | intro _ | refine And.intro ?_ ?_))) | skip
        all_goals first | omega | (simp [nodeB, onlyKind, firstKind, *]; done) | (have kne : kids ≠ [] := (fun h => by subst h; simp at *); simp [nodeB, hA, kne]; done) | (simp [nodeB, hA, *]; omega) | trace_state)
  · obtain ⟨kind, pos, nn, s, kids, pats⟩ := n
    simp only at hk hs hq hin hkk CA hg
    have c1 : ¬ kind = 1 := by omega
    have c2 : ¬ kind = 2 := by omega
    have c3 : ¬ kind = 3 := by omega
    have c4 : ¬ kind = 4 := by omega
    have c5 : ¬ kind = 5 := by omega
    have c6 : ¬ kind = 6 := by omega
    have c7 : ¬ kind = 7 := by omega
    have c8 : ¬ kind = 8 := by omega
    have c9 : ¬ kind = 9 := by omega
    have c10 : ¬ kind = 10 := by omega
    have c11 : ¬ kind = 11 := by omega
    have c12 : ¬ kind = 12 := by omega
    have c13 : ¬ kind = 13 := by omega
    have c14 : ¬ kind = 14 := by omega
    have c15 : ¬ kind = 15 := by omega
    have c16 : ¬ kind = 16 := by omega
    have c17 : ¬ kind = 17 := by omega
    have c18 : ¬ kind = 18 := by omega
    have c19 : ¬ kind = 19 := by omega
    have hA : arityK kind = -1 := by simp [arityK, c1, c2, c3, c4, c5, c6, c7, c8, c9, c10, c11, c12, c13, c14, c15, c16, c17, c18, c19]
    rw [hA] at CA
    simp +contextual -dsimp (maxSteps := 2000000) only [↓SD, SU, SB, Nat.reduceAdd, Nat.reduceBEq, Nat.reduceEqDiff, Nat.reduceLeDiff, Nat.reduceLT, Nat.reduceSub, ↓reduceIte, forall_const, implies_true, ne_eq, reduceCtorEq, Int.reduceToNat, forall_eq, Int.reduceEq, Int.reduceLT, Int.reduceLE, Int.reduceNeg, Int.reduceAdd, Int.reduceSub, ir_impl_nodeOk, rs_impl_nodeOk, av_Node, av_Program, map_len, hc]
    refine aCallK_of _ CA ?_
    simp +contextual -dsimp (maxSteps := 2000000) only [↓SD, SU, SB, Nat.reduceAdd, Nat.reduceBEq, Nat.reduceEqDiff, Nat.reduceLeDiff, Nat.reduceLT, Nat.reduceSub, ↓reduceIte, forall_const, implies_true, ne_eq, reduceCtorEq, Int.reduceToNat, forall_eq, Int.reduceEq, Int.reduceLT, Int.reduceLE, Int.reduceNeg, Int.reduceAdd, Int.reduceSub, map_len, hc, c1, c2, c3, c4, c5, c6, c7, c8, c9, c10, c11, c12, c13, c14, c15, c16, c17, c18, c19]
    (repeat' (first | intro _ | refine And.intro ?_ ?_))
    all_goals first | omega | (simp [nodeB, hA, c1, c2, c3, c4, c5, c6, c7, c8, c9, c10, c11, c12, c13, c14, c15, c16, c17, c18, c19]; done) | trace_state
end Go.Proofs.YtpomnlejlgojaaaGreat
