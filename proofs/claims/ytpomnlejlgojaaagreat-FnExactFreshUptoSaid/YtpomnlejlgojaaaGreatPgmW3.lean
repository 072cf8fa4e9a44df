/-
  NODES OF RIGHT PROGRAMS: what the reference's l04Node tells, by abstract texts. Conditions: none.
-/
import Derived.Test.YtpomnlejlgojaaaGreatPgmW2
set_option linter.unusedVariables false
set_option linter.unusedSimpArgs false
set_option maxRecDepth 100000
namespace Go.Proofs.YtpomnlejlgojaaaGreat
open Go.RowKit Go.Proofs.YtpomnlejlgojaaaGreat.Av Go.Proofs.YtpomnlejlgojaaaGreat.Ml
open Go.Proofs.YtpomnlejlgojaaaGreat.Av.AVal (av)

def inB (m : Nat) (k : Int) : Bool := decide (0 ≤ k) && decide (k < m)
/-- whether the reference finds a node right by itself -/
def nodeSB (l : List Node) (n : Node) : Bool := n.kids.all (inB l.length) && nodeB nameN l n && patsB n

set_option maxHeartbeats 16000000 in
theorem l04Node_ok (p : Program) (n : Node) (hl : p.nodes.length ≤ 1048576) (hk : n.kids.length ≤ 1048576) (hs : n.s.size ≤ 1048576) (hq : n.pats.length ≤ 1048576) (hqb : Bulk.bulk n.pats ≤ 1048576) :
    CallsF Tryz.prog 97 [av p, av n] (.bool (nodeSB p.nodes n)) := by
  refine fun_spec_l04Node rfl (by simp; exact ⟨AVal.clean p, AVal.clean n⟩) (AvPure.bool _) ?_
  have CA := l04Kids_ok n.kind
  by_cases hkk : 1 ≤ n.kind ∧ n.kind ≤ 19
  · obtain ⟨kind, pos, nn, s, kids, pats⟩ := n
    simp only at hk hs hq hkk CA hqb
    by_cases hpre : 0 ≤ pos ∧ (kind ≠ 1 → nn = 0) ∧ 0 ≤ nn ∧ nn ≤ 4611686018427387903
    · obtain ⟨p1, p2, p3, p4⟩ := hpre
      have p1' : ¬ pos < 0 := by omega
      have p3' : ¬ nn < 0 := by omega
      have p4' : ¬ (4611686018427387903 : Int) < nn := by omega
      have hrun : True := trivial
      rcases kinds hkk with rfl | rfl | rfl | rfl | rfl | rfl | rfl | rfl | rfl | rfl | rfl | rfl | rfl | rfl | rfl | rfl | rfl | rfl | rfl
      case inl =>
        have hA : arityK 1 = 0 := rfl
        rw [hA] at CA
        clear hkk
        simp +contextual -dsimp (maxSteps := 2000000) only [↓SD, SU, SB, Nat.reduceAdd, Nat.reduceBEq, Nat.reduceEqDiff, Nat.reduceLeDiff, Nat.reduceLT, Nat.reduceSub, ↓reduceIte, forall_const, implies_true, ne_eq, reduceCtorEq, Int.reduceToNat, forall_eq, Int.reduceEq, Int.reduceLT, Int.reduceLE, Int.reduceNeg, Int.reduceAdd, Int.reduceSub, ir_spec_l04Node, rs_spec_l04Node, av_Node, av_Program, map_len, p1', p3', p4']
        refine aLoop_of (X := Nat) (fun j => ⟨[(2, .obj [.sl (p.types.map av), .sl (p.nodes.map av)]), (3, .obj [.int .i64 1, .int .i64 pos, .int .i64 nn, .str s, .sl (kids.map av), .sl (pats.map av)]), (44, .sl (kids.map av)), (45, .int .i64 kids.length), (46, .int .i64 j)], []⟩) (fun j => j ≤ kids.length ∧ (kids.take j).all (inB p.nodes.length) = true) (fun j => kids.length - j) 0 ⟨Nat.zero_le _, rfl⟩ (by simp +contextual -dsimp (maxSteps := 2000000) only [↓SD, SU, SB, Nat.reduceAdd, Nat.reduceBEq, Nat.reduceEqDiff, Nat.reduceLeDiff, Nat.reduceLT, Nat.reduceSub, ↓reduceIte, forall_const, implies_true, ne_eq, reduceCtorEq, Int.reduceToNat, forall_eq]) trivial ?_
        rintro j ⟨hj, hp⟩
        by_cases hjl : j < kids.length
        · have e := getD_map av kids j .top hjl
          have hno : inB p.nodes.length kids[j] = false → nodeSB p.nodes ⟨1, pos, nn, s, kids, pats⟩ = false := fun h => by simp [nodeSB, all_false' _ hjl h]
          have hyes : inB p.nodes.length kids[j] = true → (kids.take (j + 1)).all (inB p.nodes.length) = true := fun h => by rw [all_take' _ hjl hp]; exact h
          generalize kids[j] = x at *
          simp +contextual -dsimp (maxSteps := 2000000) only [↓SD, SU, SB, Nat.reduceAdd, Nat.reduceBEq, Nat.reduceEqDiff, Nat.reduceLeDiff, Nat.reduceLT, Nat.reduceSub, ↓reduceIte, forall_const, implies_true, ne_eq, reduceCtorEq, Int.reduceToNat, forall_eq, map_len, hjl, e, av_int]
          (repeat' (first | intro _ | refine And.intro ?_ ?_))
          all_goals first
            | omega
            | (rw [hno (by simp [inB]; omega)]; done)
            | exact Goes.le ⟨j + 1, ⟨⟨hjl, hyes (by simp [inB]; omega)⟩, (by first | omega | (simp only; omega))⟩, rfl⟩ (by simp +contextual -dsimp (maxSteps := 2000000) only [↓SD, SU, SB, Nat.reduceAdd, Nat.reduceBEq, Nat.reduceEqDiff, Nat.reduceLeDiff, Nat.reduceLT, Nat.reduceSub, ↓reduceIte, forall_const, implies_true, ne_eq, reduceCtorEq, Int.reduceToNat, forall_eq, Int.natCast_add]) trivial
        · obtain rfl : j = kids.length := by omega
          rw [List.take_length] at hp
          rcases pats with _ | ⟨q0, qs⟩ <;>
          ( (try simp only [List.length_cons] at hq)
            simp +contextual -dsimp (maxSteps := 2000000) only [↓SD, SU, SB, Nat.reduceAdd, Nat.reduceBEq, Nat.reduceEqDiff, Nat.reduceLeDiff, Nat.reduceLT, Nat.reduceSub, ↓reduceIte, forall_const, implies_true, ne_eq, reduceCtorEq, Int.reduceToNat, forall_eq, Int.reduceEq, Int.reduceLT, Int.reduceLE, Int.reduceNeg, Int.reduceAdd, Int.reduceSub, map_len, Nat.lt_irrefl, List.length_map]
            (repeat' (first | intro _ | refine And.intro ?_ ?_))
            all_goals first | omega | skip
            all_goals first | (refine aCallK_of _ (specNameOk_ok s (by omega)) ?_; simp +contextual -dsimp (maxSteps := 2000000) only [↓SD, SU, SB, Nat.reduceAdd, Nat.reduceBEq, Nat.reduceEqDiff, Nat.reduceLeDiff, Nat.reduceLT, Nat.reduceSub, ↓reduceIte, forall_const, implies_true, ne_eq, reduceCtorEq, Int.reduceToNat, forall_eq, Int.reduceEq, Int.reduceLT, Int.reduceLE, Int.reduceNeg, Int.reduceAdd, Int.reduceSub, *, map_len]; (repeat' (first | intro _ | refine And.intro ?_ ?_))) | (refine aCallK_of _ (l04Prim_ok s) ?_; simp +contextual -dsimp (maxSteps := 2000000) only [↓SD, SU, SB, Nat.reduceAdd, Nat.reduceBEq, Nat.reduceEqDiff, Nat.reduceLeDiff, Nat.reduceLT, Nat.reduceSub, ↓reduceIte, forall_const, implies_true, ne_eq, reduceCtorEq, Int.reduceToNat, forall_eq, Int.reduceEq, Int.reduceLT, Int.reduceLE, Int.reduceNeg, Int.reduceAdd, Int.reduceSub, *, map_len]; (repeat' (first | intro _ | refine And.intro ?_ ?_))) | skip
            all_goals first | omega | skip
            all_goals first | (refine aCallK_of _ CA ?_; simp +contextual -dsimp (maxSteps := 2000000) only [↓SD, SU, SB, Nat.reduceAdd, Nat.reduceBEq, Nat.reduceEqDiff, Nat.reduceLeDiff, Nat.reduceLT, Nat.reduceSub, ↓reduceIte, forall_const, implies_true, ne_eq, reduceCtorEq, Int.reduceToNat, forall_eq, Int.reduceEq, Int.reduceLT, Int.reduceLE, Int.reduceNeg, Int.reduceAdd, Int.reduceSub, *, map_len]; (repeat' (first | intro _ | refine And.intro ?_ ?_))) | skip
            all_goals first | omega | (simp [nodeSB, nodeB, patsB, nameN, onlyKind, firstKind, *]; done) | (have kne : kids ≠ [] := (fun h => by subst h; simp at *); simp [nodeSB, nodeB, hA, kne]; done) | (simp [nodeSB, nodeB, patsB, nameN, onlyKind, firstKind, *]; omega) | trace_state)
      case inr.inl =>
        obtain rfl : nn = 0 := p2 (by decide)
        clear p2 p3' p4'
        have hA : arityK 2 = 0 := rfl
        rw [hA] at CA
        clear hkk
        simp +contextual -dsimp (maxSteps := 2000000) only [↓SD, SU, SB, Nat.reduceAdd, Nat.reduceBEq, Nat.reduceEqDiff, Nat.reduceLeDiff, Nat.reduceLT, Nat.reduceSub, ↓reduceIte, forall_const, implies_true, ne_eq, reduceCtorEq, Int.reduceToNat, forall_eq, Int.reduceEq, Int.reduceLT, Int.reduceLE, Int.reduceNeg, Int.reduceAdd, Int.reduceSub, ir_spec_l04Node, rs_spec_l04Node, av_Node, av_Program, map_len, p1']
        refine aLoop_of (X := Nat) (fun j => ⟨[(2, .obj [.sl (p.types.map av), .sl (p.nodes.map av)]), (3, .obj [.int .i64 2, .int .i64 pos, .int .i64 0, .str s, .sl (kids.map av), .sl (pats.map av)]), (44, .sl (kids.map av)), (45, .int .i64 kids.length), (46, .int .i64 j)], []⟩) (fun j => j ≤ kids.length ∧ (kids.take j).all (inB p.nodes.length) = true) (fun j => kids.length - j) 0 ⟨Nat.zero_le _, rfl⟩ (by simp +contextual -dsimp (maxSteps := 2000000) only [↓SD, SU, SB, Nat.reduceAdd, Nat.reduceBEq, Nat.reduceEqDiff, Nat.reduceLeDiff, Nat.reduceLT, Nat.reduceSub, ↓reduceIte, forall_const, implies_true, ne_eq, reduceCtorEq, Int.reduceToNat, forall_eq]) trivial ?_
        rintro j ⟨hj, hp⟩
        by_cases hjl : j < kids.length
        · have e := getD_map av kids j .top hjl
          have hno : inB p.nodes.length kids[j] = false → nodeSB p.nodes ⟨2, pos, 0, s, kids, pats⟩ = false := fun h => by simp [nodeSB, all_false' _ hjl h]
          have hyes : inB p.nodes.length kids[j] = true → (kids.take (j + 1)).all (inB p.nodes.length) = true := fun h => by rw [all_take' _ hjl hp]; exact h
          generalize kids[j] = x at *
          simp +contextual -dsimp (maxSteps := 2000000) only [↓SD, SU, SB, Nat.reduceAdd, Nat.reduceBEq, Nat.reduceEqDiff, Nat.reduceLeDiff, Nat.reduceLT, Nat.reduceSub, ↓reduceIte, forall_const, implies_true, ne_eq, reduceCtorEq, Int.reduceToNat, forall_eq, map_len, hjl, e, av_int]
          (repeat' (first | intro _ | refine And.intro ?_ ?_))
          all_goals first
            | omega
            | (rw [hno (by simp [inB]; omega)]; done)
            | exact Goes.le ⟨j + 1, ⟨⟨hjl, hyes (by simp [inB]; omega)⟩, (by first | omega | (simp only; omega))⟩, rfl⟩ (by simp +contextual -dsimp (maxSteps := 2000000) only [↓SD, SU, SB, Nat.reduceAdd, Nat.reduceBEq, Nat.reduceEqDiff, Nat.reduceLeDiff, Nat.reduceLT, Nat.reduceSub, ↓reduceIte, forall_const, implies_true, ne_eq, reduceCtorEq, Int.reduceToNat, forall_eq, Int.natCast_add]) trivial
        · obtain rfl : j = kids.length := by omega
          rw [List.take_length] at hp
          rcases pats with _ | ⟨q0, qs⟩ <;>
          ( (try simp only [List.length_cons] at hq)
            simp +contextual -dsimp (maxSteps := 2000000) only [↓SD, SU, SB, Nat.reduceAdd, Nat.reduceBEq, Nat.reduceEqDiff, Nat.reduceLeDiff, Nat.reduceLT, Nat.reduceSub, ↓reduceIte, forall_const, implies_true, ne_eq, reduceCtorEq, Int.reduceToNat, forall_eq, Int.reduceEq, Int.reduceLT, Int.reduceLE, Int.reduceNeg, Int.reduceAdd, Int.reduceSub, map_len, Nat.lt_irrefl, List.length_map]
            (repeat' (first | intro _ | refine And.intro ?_ ?_))
            all_goals first | omega | skip
            all_goals first | (refine aCallK_of _ (specNameOk_ok s (by omega)) ?_; simp +contextual -dsimp (maxSteps := 2000000) only [↓SD, SU, SB, Nat.reduceAdd, Nat.reduceBEq, Nat.reduceEqDiff, Nat.reduceLeDiff, Nat.reduceLT, Nat.reduceSub, ↓reduceIte, forall_const, implies_true, ne_eq, reduceCtorEq, Int.reduceToNat, forall_eq, Int.reduceEq, Int.reduceLT, Int.reduceLE, Int.reduceNeg, Int.reduceAdd, Int.reduceSub, *, map_len]; (repeat' (first | intro _ | refine And.intro ?_ ?_))) | (refine aCallK_of _ (l04Prim_ok s) ?_; simp +contextual -dsimp (maxSteps := 2000000) only [↓SD, SU, SB, Nat.reduceAdd, Nat.reduceBEq, Nat.reduceEqDiff, Nat.reduceLeDiff, Nat.reduceLT, Nat.reduceSub, ↓reduceIte, forall_const, implies_true, ne_eq, reduceCtorEq, Int.reduceToNat, forall_eq, Int.reduceEq, Int.reduceLT, Int.reduceLE, Int.reduceNeg, Int.reduceAdd, Int.reduceSub, *, map_len]; (repeat' (first | intro _ | refine And.intro ?_ ?_))) | skip
            all_goals first | omega | skip
            all_goals first | (refine aCallK_of _ CA ?_; simp +contextual -dsimp (maxSteps := 2000000) only [↓SD, SU, SB, Nat.reduceAdd, Nat.reduceBEq, Nat.reduceEqDiff, Nat.reduceLeDiff, Nat.reduceLT, Nat.reduceSub, ↓reduceIte, forall_const, implies_true, ne_eq, reduceCtorEq, Int.reduceToNat, forall_eq, Int.reduceEq, Int.reduceLT, Int.reduceLE, Int.reduceNeg, Int.reduceAdd, Int.reduceSub, *, map_len]; (repeat' (first | intro _ | refine And.intro ?_ ?_))) | skip
            all_goals first | omega | (simp [nodeSB, nodeB, patsB, nameN, onlyKind, firstKind, *]; done) | (have kne : kids ≠ [] := (fun h => by subst h; simp at *); simp [nodeSB, nodeB, hA, kne]; done) | (simp [nodeSB, nodeB, patsB, nameN, onlyKind, firstKind, *]; omega) | trace_state)
      case inr.inr.inl =>
        obtain rfl : nn = 0 := p2 (by decide)
        clear p2 p3' p4'
        have hA : arityK 3 = 0 := rfl
        rw [hA] at CA
        clear hkk
        simp +contextual -dsimp (maxSteps := 2000000) only [↓SD, SU, SB, Nat.reduceAdd, Nat.reduceBEq, Nat.reduceEqDiff, Nat.reduceLeDiff, Nat.reduceLT, Nat.reduceSub, ↓reduceIte, forall_const, implies_true, ne_eq, reduceCtorEq, Int.reduceToNat, forall_eq, Int.reduceEq, Int.reduceLT, Int.reduceLE, Int.reduceNeg, Int.reduceAdd, Int.reduceSub, ir_spec_l04Node, rs_spec_l04Node, av_Node, av_Program, map_len, p1']
        refine aLoop_of (X := Nat) (fun j => ⟨[(2, .obj [.sl (p.types.map av), .sl (p.nodes.map av)]), (3, .obj [.int .i64 3, .int .i64 pos, .int .i64 0, .str s, .sl (kids.map av), .sl (pats.map av)]), (44, .sl (kids.map av)), (45, .int .i64 kids.length), (46, .int .i64 j)], []⟩) (fun j => j ≤ kids.length ∧ (kids.take j).all (inB p.nodes.length) = true) (fun j => kids.length - j) 0 ⟨Nat.zero_le _, rfl⟩ (by simp +contextual -dsimp (maxSteps := 2000000) only [↓SD, SU, SB, Nat.reduceAdd, Nat.reduceBEq, Nat.reduceEqDiff, Nat.reduceLeDiff, Nat.reduceLT, Nat.reduceSub, ↓reduceIte, forall_const, implies_true, ne_eq, reduceCtorEq, Int.reduceToNat, forall_eq]) trivial ?_
        rintro j ⟨hj, hp⟩
        by_cases hjl : j < kids.length
        · have e := getD_map av kids j .top hjl
          have hno : inB p.nodes.length kids[j] = false → nodeSB p.nodes ⟨3, pos, 0, s, kids, pats⟩ = false := fun h => by simp [nodeSB, all_false' _ hjl h]
          have hyes : inB p.nodes.length kids[j] = true → (kids.take (j + 1)).all (inB p.nodes.length) = true := fun h => by rw [all_take' _ hjl hp]; exact h
          generalize kids[j] = x at *
          simp +contextual -dsimp (maxSteps := 2000000) only [↓SD, SU, SB, Nat.reduceAdd, Nat.reduceBEq, Nat.reduceEqDiff, Nat.reduceLeDiff, Nat.reduceLT, Nat.reduceSub, ↓reduceIte, forall_const, implies_true, ne_eq, reduceCtorEq, Int.reduceToNat, forall_eq, map_len, hjl, e, av_int]
          (repeat' (first | intro _ | refine And.intro ?_ ?_))
          all_goals first
            | omega
            | (rw [hno (by simp [inB]; omega)]; done)
            | exact Goes.le ⟨j + 1, ⟨⟨hjl, hyes (by simp [inB]; omega)⟩, (by first | omega | (simp only; omega))⟩, rfl⟩ (by simp +contextual -dsimp (maxSteps := 2000000) only [↓SD, SU, SB, Nat.reduceAdd, Nat.reduceBEq, Nat.reduceEqDiff, Nat.reduceLeDiff, Nat.reduceLT, Nat.reduceSub, ↓reduceIte, forall_const, implies_true, ne_eq, reduceCtorEq, Int.reduceToNat, forall_eq, Int.natCast_add]) trivial
        · obtain rfl : j = kids.length := by omega
          rw [List.take_length] at hp
          rcases pats with _ | ⟨q0, qs⟩ <;>
          ( (try simp only [List.length_cons] at hq)
            simp +contextual -dsimp (maxSteps := 2000000) only [↓SD, SU, SB, Nat.reduceAdd, Nat.reduceBEq, Nat.reduceEqDiff, Nat.reduceLeDiff, Nat.reduceLT, Nat.reduceSub, ↓reduceIte, forall_const, implies_true, ne_eq, reduceCtorEq, Int.reduceToNat, forall_eq, Int.reduceEq, Int.reduceLT, Int.reduceLE, Int.reduceNeg, Int.reduceAdd, Int.reduceSub, map_len, Nat.lt_irrefl, List.length_map]
            (repeat' (first | intro _ | refine And.intro ?_ ?_))
            all_goals first | omega | skip
            all_goals first | (refine aCallK_of _ (specNameOk_ok s (by omega)) ?_; simp +contextual -dsimp (maxSteps := 2000000) only [↓SD, SU, SB, Nat.reduceAdd, Nat.reduceBEq, Nat.reduceEqDiff, Nat.reduceLeDiff, Nat.reduceLT, Nat.reduceSub, ↓reduceIte, forall_const, implies_true, ne_eq, reduceCtorEq, Int.reduceToNat, forall_eq, Int.reduceEq, Int.reduceLT, Int.reduceLE, Int.reduceNeg, Int.reduceAdd, Int.reduceSub, *, map_len]; (repeat' (first | intro _ | refine And.intro ?_ ?_))) | (refine aCallK_of _ (l04Prim_ok s) ?_; simp +contextual -dsimp (maxSteps := 2000000) only [↓SD, SU, SB, Nat.reduceAdd, Nat.reduceBEq, Nat.reduceEqDiff, Nat.reduceLeDiff, Nat.reduceLT, Nat.reduceSub, ↓reduceIte, forall_const, implies_true, ne_eq, reduceCtorEq, Int.reduceToNat, forall_eq, Int.reduceEq, Int.reduceLT, Int.reduceLE, Int.reduceNeg, Int.reduceAdd, Int.reduceSub, *, map_len]; (repeat' (first | intro _ | refine And.intro ?_ ?_))) | skip
            all_goals first | omega | skip
            all_goals first | (refine aCallK_of _ CA ?_; simp +contextual -dsimp (maxSteps := 2000000) only [↓SD, SU, SB, Nat.reduceAdd, Nat.reduceBEq, Nat.reduceEqDiff, Nat.reduceLeDiff, Nat.reduceLT, Nat.reduceSub, ↓reduceIte, forall_const, implies_true, ne_eq, reduceCtorEq, Int.reduceToNat, forall_eq, Int.reduceEq, Int.reduceLT, Int.reduceLE, Int.reduceNeg, Int.reduceAdd, Int.reduceSub, *, map_len]; (repeat' (first | intro _ | refine And.intro ?_ ?_))) | skip
            all_goals first | omega | (simp [nodeSB, nodeB, patsB, nameN, onlyKind, firstKind, *]; done) | (have kne : kids ≠ [] := (fun h => by subst h; simp at *); simp [nodeSB, nodeB, hA, kne]; done) | (simp [nodeSB, nodeB, patsB, nameN, onlyKind, firstKind, *]; omega) | trace_state)
      case inr.inr.inr.inl =>
        obtain rfl : nn = 0 := p2 (by decide)
        clear p2 p3' p4'
        have hA : arityK 4 = -1 := rfl
        rw [hA] at CA
        clear hkk
        simp +contextual -dsimp (maxSteps := 2000000) only [↓SD, SU, SB, Nat.reduceAdd, Nat.reduceBEq, Nat.reduceEqDiff, Nat.reduceLeDiff, Nat.reduceLT, Nat.reduceSub, ↓reduceIte, forall_const, implies_true, ne_eq, reduceCtorEq, Int.reduceToNat, forall_eq, Int.reduceEq, Int.reduceLT, Int.reduceLE, Int.reduceNeg, Int.reduceAdd, Int.reduceSub, ir_spec_l04Node, rs_spec_l04Node, av_Node, av_Program, map_len, p1']
        refine aLoop_of (X := Nat) (fun j => ⟨[(2, .obj [.sl (p.types.map av), .sl (p.nodes.map av)]), (3, .obj [.int .i64 4, .int .i64 pos, .int .i64 0, .str s, .sl (kids.map av), .sl (pats.map av)]), (44, .sl (kids.map av)), (45, .int .i64 kids.length), (46, .int .i64 j)], []⟩) (fun j => j ≤ kids.length ∧ (kids.take j).all (inB p.nodes.length) = true) (fun j => kids.length - j) 0 ⟨Nat.zero_le _, rfl⟩ (by simp +contextual -dsimp (maxSteps := 2000000) only [↓SD, SU, SB, Nat.reduceAdd, Nat.reduceBEq, Nat.reduceEqDiff, Nat.reduceLeDiff, Nat.reduceLT, Nat.reduceSub, ↓reduceIte, forall_const, implies_true, ne_eq, reduceCtorEq, Int.reduceToNat, forall_eq]) trivial ?_
        rintro j ⟨hj, hp⟩
        by_cases hjl : j < kids.length
        · have e := getD_map av kids j .top hjl
          have hno : inB p.nodes.length kids[j] = false → nodeSB p.nodes ⟨4, pos, 0, s, kids, pats⟩ = false := fun h => by simp [nodeSB, all_false' _ hjl h]
          have hyes : inB p.nodes.length kids[j] = true → (kids.take (j + 1)).all (inB p.nodes.length) = true := fun h => by rw [all_take' _ hjl hp]; exact h
          generalize kids[j] = x at *
          simp +contextual -dsimp (maxSteps := 2000000) only [↓SD, SU, SB, Nat.reduceAdd, Nat.reduceBEq, Nat.reduceEqDiff, Nat.reduceLeDiff, Nat.reduceLT, Nat.reduceSub, ↓reduceIte, forall_const, implies_true, ne_eq, reduceCtorEq, Int.reduceToNat, forall_eq, map_len, hjl, e, av_int]
          (repeat' (first | intro _ | refine And.intro ?_ ?_))
          all_goals first
            | omega
            | (rw [hno (by simp [inB]; omega)]; done)
            | exact Goes.le ⟨j + 1, ⟨⟨hjl, hyes (by simp [inB]; omega)⟩, (by first | omega | (simp only; omega))⟩, rfl⟩ (by simp +contextual -dsimp (maxSteps := 2000000) only [↓SD, SU, SB, Nat.reduceAdd, Nat.reduceBEq, Nat.reduceEqDiff, Nat.reduceLeDiff, Nat.reduceLT, Nat.reduceSub, ↓reduceIte, forall_const, implies_true, ne_eq, reduceCtorEq, Int.reduceToNat, forall_eq, Int.natCast_add]) trivial
        · obtain rfl : j = kids.length := by omega
          rw [List.take_length] at hp
          have hin : ∀ k ∈ kids, 0 ≤ k ∧ k < p.nodes.length := fun k hk' => by
            have := List.all_eq_true.1 hp k hk'
            simpa [inB] using this
          clear hjl hj
          rcases kids with _ | ⟨k0, _ | ⟨k1, ks⟩⟩
          case cons.nil =>
            obtain ⟨g0, g1⟩ := hin k0 (by simp)
            have g2 : k0.toNat < p.nodes.length := by omega
            have e := av_getD p.nodes default g2
            rw [av_Node] at e
            rcases pats with _ | ⟨q0, qs⟩ <;>
            ( simp +contextual -dsimp (maxSteps := 2000000) only [↓SD, SU, SB, Nat.reduceAdd, Nat.reduceBEq, Nat.reduceEqDiff, Nat.reduceLeDiff, Nat.reduceLT, Nat.reduceSub, ↓reduceIte, forall_const, implies_true, ne_eq, reduceCtorEq, Int.reduceToNat, forall_eq, Int.reduceEq, Int.reduceLT, Int.reduceLE, Int.reduceNeg, Int.reduceAdd, Int.reduceSub, map_len, Nat.lt_irrefl, av_int, g0, g1, g2, e]
              (repeat' (first | intro _ | refine And.intro ?_ ?_))
              all_goals first | omega | skip
              all_goals first | (refine aCallK_of _ (l04ConOk_ok _ _ _ (by omega)) ?_; simp +contextual -dsimp (maxSteps := 2000000) only [↓SD, SU, SB, Nat.reduceAdd, Nat.reduceBEq, Nat.reduceEqDiff, Nat.reduceLeDiff, Nat.reduceLT, Nat.reduceSub, ↓reduceIte, forall_const, implies_true, ne_eq, reduceCtorEq, Int.reduceToNat, forall_eq, Int.reduceEq, Int.reduceLT, Int.reduceLE, Int.reduceNeg, Int.reduceAdd, Int.reduceSub, *, map_len]; (repeat' (first | intro _ | refine And.intro ?_ ?_))) | skip
              all_goals first | omega | (simp [nodeSB, nodeB, patsB, nameN, onlyKind, firstKind, *]; done) | (simp [nodeSB, nodeB, patsB, nameN, onlyKind, firstKind, *]; omega) | trace_state)
          all_goals
            rcases pats with _ | ⟨q0, qs⟩ <;>
            ( simp +contextual -dsimp (maxSteps := 2000000) only [↓SD, SU, SB, Nat.reduceAdd, Nat.reduceBEq, Nat.reduceEqDiff, Nat.reduceLeDiff, Nat.reduceLT, Nat.reduceSub, ↓reduceIte, forall_const, implies_true, ne_eq, reduceCtorEq, Int.reduceToNat, forall_eq, Int.reduceEq, Int.reduceLT, Int.reduceLE, Int.reduceNeg, Int.reduceAdd, Int.reduceSub, map_len, Nat.lt_irrefl, av_int]
              (repeat' (first | intro _ | refine And.intro ?_ ?_))
              all_goals first | omega | skip
              all_goals first | (refine aCallK_of _ (l04ConOk_ok _ _ _ (by omega)) ?_; simp +contextual -dsimp (maxSteps := 2000000) only [↓SD, SU, SB, Nat.reduceAdd, Nat.reduceBEq, Nat.reduceEqDiff, Nat.reduceLeDiff, Nat.reduceLT, Nat.reduceSub, ↓reduceIte, forall_const, implies_true, ne_eq, reduceCtorEq, Int.reduceToNat, forall_eq, Int.reduceEq, Int.reduceLT, Int.reduceLE, Int.reduceNeg, Int.reduceAdd, Int.reduceSub, *, map_len]; (repeat' (first | intro _ | refine And.intro ?_ ?_))) | skip
              all_goals first | omega | (simp [nodeSB, nodeB, patsB, nameN, onlyKind, firstKind, *]; done) | (simp [nodeSB, nodeB, patsB, nameN, onlyKind, firstKind, *]; omega) | trace_state)
      case inr.inr.inr.inr.inl =>
        obtain rfl : nn = 0 := p2 (by decide)
        clear p2 p3' p4'
        have hA : arityK 5 = 1 := rfl
        rw [hA] at CA
        clear hkk
        simp +contextual -dsimp (maxSteps := 2000000) only [↓SD, SU, SB, Nat.reduceAdd, Nat.reduceBEq, Nat.reduceEqDiff, Nat.reduceLeDiff, Nat.reduceLT, Nat.reduceSub, ↓reduceIte, forall_const, implies_true, ne_eq, reduceCtorEq, Int.reduceToNat, forall_eq, Int.reduceEq, Int.reduceLT, Int.reduceLE, Int.reduceNeg, Int.reduceAdd, Int.reduceSub, ir_spec_l04Node, rs_spec_l04Node, av_Node, av_Program, map_len, p1']
        refine aLoop_of (X := Nat) (fun j => ⟨[(2, .obj [.sl (p.types.map av), .sl (p.nodes.map av)]), (3, .obj [.int .i64 5, .int .i64 pos, .int .i64 0, .str s, .sl (kids.map av), .sl (pats.map av)]), (44, .sl (kids.map av)), (45, .int .i64 kids.length), (46, .int .i64 j)], []⟩) (fun j => j ≤ kids.length ∧ (kids.take j).all (inB p.nodes.length) = true) (fun j => kids.length - j) 0 ⟨Nat.zero_le _, rfl⟩ (by simp +contextual -dsimp (maxSteps := 2000000) only [↓SD, SU, SB, Nat.reduceAdd, Nat.reduceBEq, Nat.reduceEqDiff, Nat.reduceLeDiff, Nat.reduceLT, Nat.reduceSub, ↓reduceIte, forall_const, implies_true, ne_eq, reduceCtorEq, Int.reduceToNat, forall_eq]) trivial ?_
        rintro j ⟨hj, hp⟩
        by_cases hjl : j < kids.length
        · have e := getD_map av kids j .top hjl
          have hno : inB p.nodes.length kids[j] = false → nodeSB p.nodes ⟨5, pos, 0, s, kids, pats⟩ = false := fun h => by simp [nodeSB, all_false' _ hjl h]
          have hyes : inB p.nodes.length kids[j] = true → (kids.take (j + 1)).all (inB p.nodes.length) = true := fun h => by rw [all_take' _ hjl hp]; exact h
          generalize kids[j] = x at *
          simp +contextual -dsimp (maxSteps := 2000000) only [↓SD, SU, SB, Nat.reduceAdd, Nat.reduceBEq, Nat.reduceEqDiff, Nat.reduceLeDiff, Nat.reduceLT, Nat.reduceSub, ↓reduceIte, forall_const, implies_true, ne_eq, reduceCtorEq, Int.reduceToNat, forall_eq, map_len, hjl, e, av_int]
          (repeat' (first | intro _ | refine And.intro ?_ ?_))
          all_goals first
            | omega
            | (rw [hno (by simp [inB]; omega)]; done)
            | exact Goes.le ⟨j + 1, ⟨⟨hjl, hyes (by simp [inB]; omega)⟩, (by first | omega | (simp only; omega))⟩, rfl⟩ (by simp +contextual -dsimp (maxSteps := 2000000) only [↓SD, SU, SB, Nat.reduceAdd, Nat.reduceBEq, Nat.reduceEqDiff, Nat.reduceLeDiff, Nat.reduceLT, Nat.reduceSub, ↓reduceIte, forall_const, implies_true, ne_eq, reduceCtorEq, Int.reduceToNat, forall_eq, Int.natCast_add]) trivial
        · obtain rfl : j = kids.length := by omega
          rw [List.take_length] at hp
          rcases pats with _ | ⟨q0, qs⟩ <;>
          ( (try simp only [List.length_cons] at hq)
            simp +contextual -dsimp (maxSteps := 2000000) only [↓SD, SU, SB, Nat.reduceAdd, Nat.reduceBEq, Nat.reduceEqDiff, Nat.reduceLeDiff, Nat.reduceLT, Nat.reduceSub, ↓reduceIte, forall_const, implies_true, ne_eq, reduceCtorEq, Int.reduceToNat, forall_eq, Int.reduceEq, Int.reduceLT, Int.reduceLE, Int.reduceNeg, Int.reduceAdd, Int.reduceSub, map_len, Nat.lt_irrefl, List.length_map]
            (repeat' (first | intro _ | refine And.intro ?_ ?_))
            all_goals first | omega | skip
            all_goals first | (refine aCallK_of _ (specNameOk_ok s (by omega)) ?_; simp +contextual -dsimp (maxSteps := 2000000) only [↓SD, SU, SB, Nat.reduceAdd, Nat.reduceBEq, Nat.reduceEqDiff, Nat.reduceLeDiff, Nat.reduceLT, Nat.reduceSub, ↓reduceIte, forall_const, implies_true, ne_eq, reduceCtorEq, Int.reduceToNat, forall_eq, Int.reduceEq, Int.reduceLT, Int.reduceLE, Int.reduceNeg, Int.reduceAdd, Int.reduceSub, *, map_len]; (repeat' (first | intro _ | refine And.intro ?_ ?_))) | (refine aCallK_of _ (l04Prim_ok s) ?_; simp +contextual -dsimp (maxSteps := 2000000) only [↓SD, SU, SB, Nat.reduceAdd, Nat.reduceBEq, Nat.reduceEqDiff, Nat.reduceLeDiff, Nat.reduceLT, Nat.reduceSub, ↓reduceIte, forall_const, implies_true, ne_eq, reduceCtorEq, Int.reduceToNat, forall_eq, Int.reduceEq, Int.reduceLT, Int.reduceLE, Int.reduceNeg, Int.reduceAdd, Int.reduceSub, *, map_len]; (repeat' (first | intro _ | refine And.intro ?_ ?_))) | skip
            all_goals first | omega | skip
            all_goals first | (refine aCallK_of _ CA ?_; simp +contextual -dsimp (maxSteps := 2000000) only [↓SD, SU, SB, Nat.reduceAdd, Nat.reduceBEq, Nat.reduceEqDiff, Nat.reduceLeDiff, Nat.reduceLT, Nat.reduceSub, ↓reduceIte, forall_const, implies_true, ne_eq, reduceCtorEq, Int.reduceToNat, forall_eq, Int.reduceEq, Int.reduceLT, Int.reduceLE, Int.reduceNeg, Int.reduceAdd, Int.reduceSub, *, map_len]; (repeat' (first | intro _ | refine And.intro ?_ ?_))) | skip
            all_goals first | omega | (simp [nodeSB, nodeB, patsB, nameN, onlyKind, firstKind, *]; done) | (have kne : kids ≠ [] := (fun h => by subst h; simp at *); simp [nodeSB, nodeB, hA, kne]; done) | (simp [nodeSB, nodeB, patsB, nameN, onlyKind, firstKind, *]; omega) | trace_state)
      case inr.inr.inr.inr.inr.inl =>
        obtain rfl : nn = 0 := p2 (by decide)
        clear p2 p3' p4'
        have hA : arityK 6 = 2 := rfl
        rw [hA] at CA
        clear hkk
        simp +contextual -dsimp (maxSteps := 2000000) only [↓SD, SU, SB, Nat.reduceAdd, Nat.reduceBEq, Nat.reduceEqDiff, Nat.reduceLeDiff, Nat.reduceLT, Nat.reduceSub, ↓reduceIte, forall_const, implies_true, ne_eq, reduceCtorEq, Int.reduceToNat, forall_eq, Int.reduceEq, Int.reduceLT, Int.reduceLE, Int.reduceNeg, Int.reduceAdd, Int.reduceSub, ir_spec_l04Node, rs_spec_l04Node, av_Node, av_Program, map_len, p1']
        refine aLoop_of (X := Nat) (fun j => ⟨[(2, .obj [.sl (p.types.map av), .sl (p.nodes.map av)]), (3, .obj [.int .i64 6, .int .i64 pos, .int .i64 0, .str s, .sl (kids.map av), .sl (pats.map av)]), (44, .sl (kids.map av)), (45, .int .i64 kids.length), (46, .int .i64 j)], []⟩) (fun j => j ≤ kids.length ∧ (kids.take j).all (inB p.nodes.length) = true) (fun j => kids.length - j) 0 ⟨Nat.zero_le _, rfl⟩ (by simp +contextual -dsimp (maxSteps := 2000000) only [↓SD, SU, SB, Nat.reduceAdd, Nat.reduceBEq, Nat.reduceEqDiff, Nat.reduceLeDiff, Nat.reduceLT, Nat.reduceSub, ↓reduceIte, forall_const, implies_true, ne_eq, reduceCtorEq, Int.reduceToNat, forall_eq]) trivial ?_
        rintro j ⟨hj, hp⟩
        by_cases hjl : j < kids.length
        · have e := getD_map av kids j .top hjl
          have hno : inB p.nodes.length kids[j] = false → nodeSB p.nodes ⟨6, pos, 0, s, kids, pats⟩ = false := fun h => by simp [nodeSB, all_false' _ hjl h]
          have hyes : inB p.nodes.length kids[j] = true → (kids.take (j + 1)).all (inB p.nodes.length) = true := fun h => by rw [all_take' _ hjl hp]; exact h
          generalize kids[j] = x at *
          simp +contextual -dsimp (maxSteps := 2000000) only [↓SD, SU, SB, Nat.reduceAdd, Nat.reduceBEq, Nat.reduceEqDiff, Nat.reduceLeDiff, Nat.reduceLT, Nat.reduceSub, ↓reduceIte, forall_const, implies_true, ne_eq, reduceCtorEq, Int.reduceToNat, forall_eq, map_len, hjl, e, av_int]
          (repeat' (first | intro _ | refine And.intro ?_ ?_))
          all_goals first
            | omega
            | (rw [hno (by simp [inB]; omega)]; done)
            | exact Goes.le ⟨j + 1, ⟨⟨hjl, hyes (by simp [inB]; omega)⟩, (by first | omega | (simp only; omega))⟩, rfl⟩ (by simp +contextual -dsimp (maxSteps := 2000000) only [↓SD, SU, SB, Nat.reduceAdd, Nat.reduceBEq, Nat.reduceEqDiff, Nat.reduceLeDiff, Nat.reduceLT, Nat.reduceSub, ↓reduceIte, forall_const, implies_true, ne_eq, reduceCtorEq, Int.reduceToNat, forall_eq, Int.natCast_add]) trivial
        · obtain rfl : j = kids.length := by omega
          rw [List.take_length] at hp
          rcases pats with _ | ⟨q0, qs⟩ <;>
          ( (try simp only [List.length_cons] at hq)
            simp +contextual -dsimp (maxSteps := 2000000) only [↓SD, SU, SB, Nat.reduceAdd, Nat.reduceBEq, Nat.reduceEqDiff, Nat.reduceLeDiff, Nat.reduceLT, Nat.reduceSub, ↓reduceIte, forall_const, implies_true, ne_eq, reduceCtorEq, Int.reduceToNat, forall_eq, Int.reduceEq, Int.reduceLT, Int.reduceLE, Int.reduceNeg, Int.reduceAdd, Int.reduceSub, map_len, Nat.lt_irrefl, List.length_map]
            (repeat' (first | intro _ | refine And.intro ?_ ?_))
            all_goals first | omega | skip
            all_goals first | (refine aCallK_of _ (specNameOk_ok s (by omega)) ?_; simp +contextual -dsimp (maxSteps := 2000000) only [↓SD, SU, SB, Nat.reduceAdd, Nat.reduceBEq, Nat.reduceEqDiff, Nat.reduceLeDiff, Nat.reduceLT, Nat.reduceSub, ↓reduceIte, forall_const, implies_true, ne_eq, reduceCtorEq, Int.reduceToNat, forall_eq, Int.reduceEq, Int.reduceLT, Int.reduceLE, Int.reduceNeg, Int.reduceAdd, Int.reduceSub, *, map_len]; (repeat' (first | intro _ | refine And.intro ?_ ?_))) | (refine aCallK_of _ (l04Prim_ok s) ?_; simp +contextual -dsimp (maxSteps := 2000000) only [↓SD, SU, SB, Nat.reduceAdd, Nat.reduceBEq, Nat.reduceEqDiff, Nat.reduceLeDiff, Nat.reduceLT, Nat.reduceSub, ↓reduceIte, forall_const, implies_true, ne_eq, reduceCtorEq, Int.reduceToNat, forall_eq, Int.reduceEq, Int.reduceLT, Int.reduceLE, Int.reduceNeg, Int.reduceAdd, Int.reduceSub, *, map_len]; (repeat' (first | intro _ | refine And.intro ?_ ?_))) | skip
            all_goals first | omega | skip
            all_goals first | (refine aCallK_of _ CA ?_; simp +contextual -dsimp (maxSteps := 2000000) only [↓SD, SU, SB, Nat.reduceAdd, Nat.reduceBEq, Nat.reduceEqDiff, Nat.reduceLeDiff, Nat.reduceLT, Nat.reduceSub, ↓reduceIte, forall_const, implies_true, ne_eq, reduceCtorEq, Int.reduceToNat, forall_eq, Int.reduceEq, Int.reduceLT, Int.reduceLE, Int.reduceNeg, Int.reduceAdd, Int.reduceSub, *, map_len]; (repeat' (first | intro _ | refine And.intro ?_ ?_))) | skip
            all_goals first | omega | (simp [nodeSB, nodeB, patsB, nameN, onlyKind, firstKind, *]; done) | (have kne : kids ≠ [] := (fun h => by subst h; simp at *); simp [nodeSB, nodeB, hA, kne]; done) | (simp [nodeSB, nodeB, patsB, nameN, onlyKind, firstKind, *]; omega) | trace_state)
      case inr.inr.inr.inr.inr.inr.inl =>
        obtain rfl : nn = 0 := p2 (by decide)
        clear p2 p3' p4'
        have hA : arityK 7 = 2 := rfl
        rw [hA] at CA
        clear hkk
        simp +contextual -dsimp (maxSteps := 2000000) only [↓SD, SU, SB, Nat.reduceAdd, Nat.reduceBEq, Nat.reduceEqDiff, Nat.reduceLeDiff, Nat.reduceLT, Nat.reduceSub, ↓reduceIte, forall_const, implies_true, ne_eq, reduceCtorEq, Int.reduceToNat, forall_eq, Int.reduceEq, Int.reduceLT, Int.reduceLE, Int.reduceNeg, Int.reduceAdd, Int.reduceSub, ir_spec_l04Node, rs_spec_l04Node, av_Node, av_Program, map_len, p1']
        refine aLoop_of (X := Nat) (fun j => ⟨[(2, .obj [.sl (p.types.map av), .sl (p.nodes.map av)]), (3, .obj [.int .i64 7, .int .i64 pos, .int .i64 0, .str s, .sl (kids.map av), .sl (pats.map av)]), (44, .sl (kids.map av)), (45, .int .i64 kids.length), (46, .int .i64 j)], []⟩) (fun j => j ≤ kids.length ∧ (kids.take j).all (inB p.nodes.length) = true) (fun j => kids.length - j) 0 ⟨Nat.zero_le _, rfl⟩ (by simp +contextual -dsimp (maxSteps := 2000000) only [↓SD, SU, SB, Nat.reduceAdd, Nat.reduceBEq, Nat.reduceEqDiff, Nat.reduceLeDiff, Nat.reduceLT, Nat.reduceSub, ↓reduceIte, forall_const, implies_true, ne_eq, reduceCtorEq, Int.reduceToNat, forall_eq]) trivial ?_
        rintro j ⟨hj, hp⟩
        by_cases hjl : j < kids.length
        · have e := getD_map av kids j .top hjl
          have hno : inB p.nodes.length kids[j] = false → nodeSB p.nodes ⟨7, pos, 0, s, kids, pats⟩ = false := fun h => by simp [nodeSB, all_false' _ hjl h]
          have hyes : inB p.nodes.length kids[j] = true → (kids.take (j + 1)).all (inB p.nodes.length) = true := fun h => by rw [all_take' _ hjl hp]; exact h
          generalize kids[j] = x at *
          simp +contextual -dsimp (maxSteps := 2000000) only [↓SD, SU, SB, Nat.reduceAdd, Nat.reduceBEq, Nat.reduceEqDiff, Nat.reduceLeDiff, Nat.reduceLT, Nat.reduceSub, ↓reduceIte, forall_const, implies_true, ne_eq, reduceCtorEq, Int.reduceToNat, forall_eq, map_len, hjl, e, av_int]
          (repeat' (first | intro _ | refine And.intro ?_ ?_))
          all_goals first
            | omega
            | (rw [hno (by simp [inB]; omega)]; done)
            | exact Goes.le ⟨j + 1, ⟨⟨hjl, hyes (by simp [inB]; omega)⟩, (by first | omega | (simp only; omega))⟩, rfl⟩ (by simp +contextual -dsimp (maxSteps := 2000000) only [↓SD, SU, SB, Nat.reduceAdd, Nat.reduceBEq, Nat.reduceEqDiff, Nat.reduceLeDiff, Nat.reduceLT, Nat.reduceSub, ↓reduceIte, forall_const, implies_true, ne_eq, reduceCtorEq, Int.reduceToNat, forall_eq, Int.natCast_add]) trivial
        · obtain rfl : j = kids.length := by omega
          rw [List.take_length] at hp
          rcases pats with _ | ⟨q0, qs⟩ <;>
          ( (try simp only [List.length_cons] at hq)
            simp +contextual -dsimp (maxSteps := 2000000) only [↓SD, SU, SB, Nat.reduceAdd, Nat.reduceBEq, Nat.reduceEqDiff, Nat.reduceLeDiff, Nat.reduceLT, Nat.reduceSub, ↓reduceIte, forall_const, implies_true, ne_eq, reduceCtorEq, Int.reduceToNat, forall_eq, Int.reduceEq, Int.reduceLT, Int.reduceLE, Int.reduceNeg, Int.reduceAdd, Int.reduceSub, map_len, Nat.lt_irrefl, List.length_map]
            (repeat' (first | intro _ | refine And.intro ?_ ?_))
            all_goals first | omega | skip
            all_goals first | (refine aCallK_of _ (specNameOk_ok s (by omega)) ?_; simp +contextual -dsimp (maxSteps := 2000000) only [↓SD, SU, SB, Nat.reduceAdd, Nat.reduceBEq, Nat.reduceEqDiff, Nat.reduceLeDiff, Nat.reduceLT, Nat.reduceSub, ↓reduceIte, forall_const, implies_true, ne_eq, reduceCtorEq, Int.reduceToNat, forall_eq, Int.reduceEq, Int.reduceLT, Int.reduceLE, Int.reduceNeg, Int.reduceAdd, Int.reduceSub, *, map_len]; (repeat' (first | intro _ | refine And.intro ?_ ?_))) | (refine aCallK_of _ (l04Prim_ok s) ?_; simp +contextual -dsimp (maxSteps := 2000000) only [↓SD, SU, SB, Nat.reduceAdd, Nat.reduceBEq, Nat.reduceEqDiff, Nat.reduceLeDiff, Nat.reduceLT, Nat.reduceSub, ↓reduceIte, forall_const, implies_true, ne_eq, reduceCtorEq, Int.reduceToNat, forall_eq, Int.reduceEq, Int.reduceLT, Int.reduceLE, Int.reduceNeg, Int.reduceAdd, Int.reduceSub, *, map_len]; (repeat' (first | intro _ | refine And.intro ?_ ?_))) | skip
            all_goals first | omega | skip
            all_goals first | (refine aCallK_of _ CA ?_; simp +contextual -dsimp (maxSteps := 2000000) only [↓SD, SU, SB, Nat.reduceAdd, Nat.reduceBEq, Nat.reduceEqDiff, Nat.reduceLeDiff, Nat.reduceLT, Nat.reduceSub, ↓reduceIte, forall_const, implies_true, ne_eq, reduceCtorEq, Int.reduceToNat, forall_eq, Int.reduceEq, Int.reduceLT, Int.reduceLE, Int.reduceNeg, Int.reduceAdd, Int.reduceSub, *, map_len]; (repeat' (first | intro _ | refine And.intro ?_ ?_))) | skip
            all_goals first | omega | (simp [nodeSB, nodeB, patsB, nameN, onlyKind, firstKind, *]; done) | (have kne : kids ≠ [] := (fun h => by subst h; simp at *); simp [nodeSB, nodeB, hA, kne]; done) | (simp [nodeSB, nodeB, patsB, nameN, onlyKind, firstKind, *]; omega) | trace_state)
      case inr.inr.inr.inr.inr.inr.inr.inl =>
        obtain rfl : nn = 0 := p2 (by decide)
        clear p2 p3' p4'
        have hA : arityK 8 = 2 := rfl
        rw [hA] at CA
        clear hkk
        simp +contextual -dsimp (maxSteps := 2000000) only [↓SD, SU, SB, Nat.reduceAdd, Nat.reduceBEq, Nat.reduceEqDiff, Nat.reduceLeDiff, Nat.reduceLT, Nat.reduceSub, ↓reduceIte, forall_const, implies_true, ne_eq, reduceCtorEq, Int.reduceToNat, forall_eq, Int.reduceEq, Int.reduceLT, Int.reduceLE, Int.reduceNeg, Int.reduceAdd, Int.reduceSub, ir_spec_l04Node, rs_spec_l04Node, av_Node, av_Program, map_len, p1']
        refine aLoop_of (X := Nat) (fun j => ⟨[(2, .obj [.sl (p.types.map av), .sl (p.nodes.map av)]), (3, .obj [.int .i64 8, .int .i64 pos, .int .i64 0, .str s, .sl (kids.map av), .sl (pats.map av)]), (44, .sl (kids.map av)), (45, .int .i64 kids.length), (46, .int .i64 j)], []⟩) (fun j => j ≤ kids.length ∧ (kids.take j).all (inB p.nodes.length) = true) (fun j => kids.length - j) 0 ⟨Nat.zero_le _, rfl⟩ (by simp +contextual -dsimp (maxSteps := 2000000) only [↓SD, SU, SB, Nat.reduceAdd, Nat.reduceBEq, Nat.reduceEqDiff, Nat.reduceLeDiff, Nat.reduceLT, Nat.reduceSub, ↓reduceIte, forall_const, implies_true, ne_eq, reduceCtorEq, Int.reduceToNat, forall_eq]) trivial ?_
        rintro j ⟨hj, hp⟩
        by_cases hjl : j < kids.length
        · have e := getD_map av kids j .top hjl
          have hno : inB p.nodes.length kids[j] = false → nodeSB p.nodes ⟨8, pos, 0, s, kids, pats⟩ = false := fun h => by simp [nodeSB, all_false' _ hjl h]
          have hyes : inB p.nodes.length kids[j] = true → (kids.take (j + 1)).all (inB p.nodes.length) = true := fun h => by rw [all_take' _ hjl hp]; exact h
          generalize kids[j] = x at *
          simp +contextual -dsimp (maxSteps := 2000000) only [↓SD, SU, SB, Nat.reduceAdd, Nat.reduceBEq, Nat.reduceEqDiff, Nat.reduceLeDiff, Nat.reduceLT, Nat.reduceSub, ↓reduceIte, forall_const, implies_true, ne_eq, reduceCtorEq, Int.reduceToNat, forall_eq, map_len, hjl, e, av_int]
          (repeat' (first | intro _ | refine And.intro ?_ ?_))
          all_goals first
            | omega
            | (rw [hno (by simp [inB]; omega)]; done)
            | exact Goes.le ⟨j + 1, ⟨⟨hjl, hyes (by simp [inB]; omega)⟩, (by first | omega | (simp only; omega))⟩, rfl⟩ (by simp +contextual -dsimp (maxSteps := 2000000) only [↓SD, SU, SB, Nat.reduceAdd, Nat.reduceBEq, Nat.reduceEqDiff, Nat.reduceLeDiff, Nat.reduceLT, Nat.reduceSub, ↓reduceIte, forall_const, implies_true, ne_eq, reduceCtorEq, Int.reduceToNat, forall_eq, Int.natCast_add]) trivial
        · obtain rfl : j = kids.length := by omega
          rw [List.take_length] at hp
          have hin : ∀ k ∈ kids, 0 ≤ k ∧ k < p.nodes.length := fun k hk' => by
            have := List.all_eq_true.1 hp k hk'
            simpa [inB] using this
          clear hjl hj
          have CN := specNameOk_ok s (by omega)
          cases hb : nameB s <;> rw [hb] at CN <;>
          rcases kids with _ | ⟨k0, _ | ⟨k1, _ | ⟨k2, ks⟩⟩⟩
          case false.cons.cons.nil | true.cons.cons.nil =>
            obtain ⟨g0, g1⟩ := hin k0 (by simp)
            have g2 : k0.toNat < p.nodes.length := by omega
            have e := av_getD p.nodes default g2
            rw [av_Node] at e
            have hf : firstKind p.nodes [k0, k1] 5 = decide ((p.nodes.getD k0.toNat default).kind = 5) := by
              simp [firstKind, g0, g1]
            generalize p.nodes.getD k0.toNat default = Z at *
            rcases pats with _ | ⟨q0, qs⟩ <;>
            ( simp +contextual -dsimp (maxSteps := 2000000) only [↓SD, SU, SB, Nat.reduceAdd, Nat.reduceBEq, Nat.reduceEqDiff, Nat.reduceLeDiff, Nat.reduceLT, Nat.reduceSub, ↓reduceIte, forall_const, implies_true, ne_eq, reduceCtorEq, Int.reduceToNat, forall_eq, Int.reduceEq, Int.reduceLT, Int.reduceLE, Int.reduceNeg, Int.reduceAdd, Int.reduceSub, map_len, Nat.lt_irrefl, av_int, g0, g1, g2, e]
              refine aCallK_of _ CN ?_
              simp +contextual -dsimp (maxSteps := 2000000) only [↓SD, SU, SB, Nat.reduceAdd, Nat.reduceBEq, Nat.reduceEqDiff, Nat.reduceLeDiff, Nat.reduceLT, Nat.reduceSub, ↓reduceIte, forall_const, implies_true, ne_eq, reduceCtorEq, Int.reduceToNat, forall_eq, Int.reduceEq, Int.reduceLT, Int.reduceLE, Int.reduceNeg, Int.reduceAdd, Int.reduceSub, map_len, Nat.lt_irrefl, av_int, g0, g1, g2, e]
              (repeat' (first | intro _ | refine And.intro ?_ ?_))
              all_goals first | omega | skip
              all_goals first | (refine aCallK_of _ CA ?_; simp +contextual -dsimp (maxSteps := 2000000) only [↓SD, SU, SB, Nat.reduceAdd, Nat.reduceBEq, Nat.reduceEqDiff, Nat.reduceLeDiff, Nat.reduceLT, Nat.reduceSub, ↓reduceIte, forall_const, implies_true, ne_eq, reduceCtorEq, Int.reduceToNat, forall_eq, Int.reduceEq, Int.reduceLT, Int.reduceLE, Int.reduceNeg, Int.reduceAdd, Int.reduceSub, *, map_len]; (repeat' (first | intro _ | refine And.intro ?_ ?_))) | skip
              all_goals first | omega | (simp [nodeSB, nodeB, patsB, nameN, *]; done) | (simp [nodeSB, nodeB, patsB, nameN, onlyKind, firstKind, *]; omega) | trace_state)
          case false.cons.cons.cons | true.cons.cons.cons =>
            have q2 : ¬ ((ks.length + 1 + 1 + 1 : Nat) : Int) = 2 := by omega
            rcases pats with _ | ⟨q0, qs⟩ <;>
            ( simp +contextual -dsimp (maxSteps := 2000000) only [↓SD, SU, SB, Nat.reduceAdd, Nat.reduceBEq, Nat.reduceEqDiff, Nat.reduceLeDiff, Nat.reduceLT, Nat.reduceSub, ↓reduceIte, forall_const, implies_true, ne_eq, reduceCtorEq, Int.reduceToNat, forall_eq, Int.reduceEq, Int.reduceLT, Int.reduceLE, Int.reduceNeg, Int.reduceAdd, Int.reduceSub, map_len, Nat.lt_irrefl, av_int, q2]
              refine aCallK_of _ CN ?_
              simp +contextual -dsimp (maxSteps := 2000000) only [↓SD, SU, SB, Nat.reduceAdd, Nat.reduceBEq, Nat.reduceEqDiff, Nat.reduceLeDiff, Nat.reduceLT, Nat.reduceSub, ↓reduceIte, forall_const, implies_true, ne_eq, reduceCtorEq, Int.reduceToNat, forall_eq, Int.reduceEq, Int.reduceLT, Int.reduceLE, Int.reduceNeg, Int.reduceAdd, Int.reduceSub, map_len, Nat.lt_irrefl, av_int, q2]
              (repeat' (first | intro _ | refine And.intro ?_ ?_))
              all_goals first | omega | skip
              all_goals first | (refine aCallK_of _ CA ?_; simp +contextual -dsimp (maxSteps := 2000000) only [↓SD, SU, SB, Nat.reduceAdd, Nat.reduceBEq, Nat.reduceEqDiff, Nat.reduceLeDiff, Nat.reduceLT, Nat.reduceSub, ↓reduceIte, forall_const, implies_true, ne_eq, reduceCtorEq, Int.reduceToNat, forall_eq, Int.reduceEq, Int.reduceLT, Int.reduceLE, Int.reduceNeg, Int.reduceAdd, Int.reduceSub, *, map_len]; (repeat' (first | intro _ | refine And.intro ?_ ?_))) | skip
              all_goals first | omega | (simp [nodeSB, nodeB, patsB, nameN, onlyKind, firstKind, *]; done) | (simp [nodeSB, nodeB, patsB, nameN, onlyKind, firstKind, *]; omega) | trace_state)
          all_goals
            rcases pats with _ | ⟨q0, qs⟩ <;>
            ( simp +contextual -dsimp (maxSteps := 2000000) only [↓SD, SU, SB, Nat.reduceAdd, Nat.reduceBEq, Nat.reduceEqDiff, Nat.reduceLeDiff, Nat.reduceLT, Nat.reduceSub, ↓reduceIte, forall_const, implies_true, ne_eq, reduceCtorEq, Int.reduceToNat, forall_eq, Int.reduceEq, Int.reduceLT, Int.reduceLE, Int.reduceNeg, Int.reduceAdd, Int.reduceSub, map_len, Nat.lt_irrefl, av_int]
              refine aCallK_of _ CN ?_
              simp +contextual -dsimp (maxSteps := 2000000) only [↓SD, SU, SB, Nat.reduceAdd, Nat.reduceBEq, Nat.reduceEqDiff, Nat.reduceLeDiff, Nat.reduceLT, Nat.reduceSub, ↓reduceIte, forall_const, implies_true, ne_eq, reduceCtorEq, Int.reduceToNat, forall_eq, Int.reduceEq, Int.reduceLT, Int.reduceLE, Int.reduceNeg, Int.reduceAdd, Int.reduceSub, map_len, Nat.lt_irrefl, av_int]
              (repeat' (first | intro _ | refine And.intro ?_ ?_))
              all_goals first | omega | skip
              all_goals first | (refine aCallK_of _ CA ?_; simp +contextual -dsimp (maxSteps := 2000000) only [↓SD, SU, SB, Nat.reduceAdd, Nat.reduceBEq, Nat.reduceEqDiff, Nat.reduceLeDiff, Nat.reduceLT, Nat.reduceSub, ↓reduceIte, forall_const, implies_true, ne_eq, reduceCtorEq, Int.reduceToNat, forall_eq, Int.reduceEq, Int.reduceLT, Int.reduceLE, Int.reduceNeg, Int.reduceAdd, Int.reduceSub, *, map_len]; (repeat' (first | intro _ | refine And.intro ?_ ?_))) | skip
              all_goals first | omega | (simp [nodeSB, nodeB, patsB, nameN, onlyKind, firstKind, *]; done) | (simp [nodeSB, nodeB, patsB, nameN, onlyKind, firstKind, *]; omega) | trace_state)
      case inr.inr.inr.inr.inr.inr.inr.inr.inl =>
        obtain rfl : nn = 0 := p2 (by decide)
        clear p2 p3' p4'
        have hA : arityK 9 = 3 := rfl
        rw [hA] at CA
        clear hkk
        simp +contextual -dsimp (maxSteps := 2000000) only [↓SD, SU, SB, Nat.reduceAdd, Nat.reduceBEq, Nat.reduceEqDiff, Nat.reduceLeDiff, Nat.reduceLT, Nat.reduceSub, ↓reduceIte, forall_const, implies_true, ne_eq, reduceCtorEq, Int.reduceToNat, forall_eq, Int.reduceEq, Int.reduceLT, Int.reduceLE, Int.reduceNeg, Int.reduceAdd, Int.reduceSub, ir_spec_l04Node, rs_spec_l04Node, av_Node, av_Program, map_len, p1']
        refine aLoop_of (X := Nat) (fun j => ⟨[(2, .obj [.sl (p.types.map av), .sl (p.nodes.map av)]), (3, .obj [.int .i64 9, .int .i64 pos, .int .i64 0, .str s, .sl (kids.map av), .sl (pats.map av)]), (44, .sl (kids.map av)), (45, .int .i64 kids.length), (46, .int .i64 j)], []⟩) (fun j => j ≤ kids.length ∧ (kids.take j).all (inB p.nodes.length) = true) (fun j => kids.length - j) 0 ⟨Nat.zero_le _, rfl⟩ (by simp +contextual -dsimp (maxSteps := 2000000) only [↓SD, SU, SB, Nat.reduceAdd, Nat.reduceBEq, Nat.reduceEqDiff, Nat.reduceLeDiff, Nat.reduceLT, Nat.reduceSub, ↓reduceIte, forall_const, implies_true, ne_eq, reduceCtorEq, Int.reduceToNat, forall_eq]) trivial ?_
        rintro j ⟨hj, hp⟩
        by_cases hjl : j < kids.length
        · have e := getD_map av kids j .top hjl
          have hno : inB p.nodes.length kids[j] = false → nodeSB p.nodes ⟨9, pos, 0, s, kids, pats⟩ = false := fun h => by simp [nodeSB, all_false' _ hjl h]
          have hyes : inB p.nodes.length kids[j] = true → (kids.take (j + 1)).all (inB p.nodes.length) = true := fun h => by rw [all_take' _ hjl hp]; exact h
          generalize kids[j] = x at *
          simp +contextual -dsimp (maxSteps := 2000000) only [↓SD, SU, SB, Nat.reduceAdd, Nat.reduceBEq, Nat.reduceEqDiff, Nat.reduceLeDiff, Nat.reduceLT, Nat.reduceSub, ↓reduceIte, forall_const, implies_true, ne_eq, reduceCtorEq, Int.reduceToNat, forall_eq, map_len, hjl, e, av_int]
          (repeat' (first | intro _ | refine And.intro ?_ ?_))
          all_goals first
            | omega
            | (rw [hno (by simp [inB]; omega)]; done)
            | exact Goes.le ⟨j + 1, ⟨⟨hjl, hyes (by simp [inB]; omega)⟩, (by first | omega | (simp only; omega))⟩, rfl⟩ (by simp +contextual -dsimp (maxSteps := 2000000) only [↓SD, SU, SB, Nat.reduceAdd, Nat.reduceBEq, Nat.reduceEqDiff, Nat.reduceLeDiff, Nat.reduceLT, Nat.reduceSub, ↓reduceIte, forall_const, implies_true, ne_eq, reduceCtorEq, Int.reduceToNat, forall_eq, Int.natCast_add]) trivial
        · obtain rfl : j = kids.length := by omega
          rw [List.take_length] at hp
          rcases pats with _ | ⟨q0, qs⟩ <;>
          ( (try simp only [List.length_cons] at hq)
            simp +contextual -dsimp (maxSteps := 2000000) only [↓SD, SU, SB, Nat.reduceAdd, Nat.reduceBEq, Nat.reduceEqDiff, Nat.reduceLeDiff, Nat.reduceLT, Nat.reduceSub, ↓reduceIte, forall_const, implies_true, ne_eq, reduceCtorEq, Int.reduceToNat, forall_eq, Int.reduceEq, Int.reduceLT, Int.reduceLE, Int.reduceNeg, Int.reduceAdd, Int.reduceSub, map_len, Nat.lt_irrefl, List.length_map]
            (repeat' (first | intro _ | refine And.intro ?_ ?_))
            all_goals first | omega | skip
            all_goals first | (refine aCallK_of _ (specNameOk_ok s (by omega)) ?_; simp +contextual -dsimp (maxSteps := 2000000) only [↓SD, SU, SB, Nat.reduceAdd, Nat.reduceBEq, Nat.reduceEqDiff, Nat.reduceLeDiff, Nat.reduceLT, Nat.reduceSub, ↓reduceIte, forall_const, implies_true, ne_eq, reduceCtorEq, Int.reduceToNat, forall_eq, Int.reduceEq, Int.reduceLT, Int.reduceLE, Int.reduceNeg, Int.reduceAdd, Int.reduceSub, *, map_len]; (repeat' (first | intro _ | refine And.intro ?_ ?_))) | (refine aCallK_of _ (l04Prim_ok s) ?_; simp +contextual -dsimp (maxSteps := 2000000) only [↓SD, SU, SB, Nat.reduceAdd, Nat.reduceBEq, Nat.reduceEqDiff, Nat.reduceLeDiff, Nat.reduceLT, Nat.reduceSub, ↓reduceIte, forall_const, implies_true, ne_eq, reduceCtorEq, Int.reduceToNat, forall_eq, Int.reduceEq, Int.reduceLT, Int.reduceLE, Int.reduceNeg, Int.reduceAdd, Int.reduceSub, *, map_len]; (repeat' (first | intro _ | refine And.intro ?_ ?_))) | skip
            all_goals first | omega | skip
            all_goals first | (refine aCallK_of _ CA ?_; simp +contextual -dsimp (maxSteps := 2000000) only [↓SD, SU, SB, Nat.reduceAdd, Nat.reduceBEq, Nat.reduceEqDiff, Nat.reduceLeDiff, Nat.reduceLT, Nat.reduceSub, ↓reduceIte, forall_const, implies_true, ne_eq, reduceCtorEq, Int.reduceToNat, forall_eq, Int.reduceEq, Int.reduceLT, Int.reduceLE, Int.reduceNeg, Int.reduceAdd, Int.reduceSub, *, map_len]; (repeat' (first | intro _ | refine And.intro ?_ ?_))) | skip
            all_goals first | omega | (simp [nodeSB, nodeB, patsB, nameN, onlyKind, firstKind, *]; done) | (have kne : kids ≠ [] := (fun h => by subst h; simp at *); simp [nodeSB, nodeB, hA, kne]; done) | (simp [nodeSB, nodeB, patsB, nameN, onlyKind, firstKind, *]; omega) | trace_state)
      case inr.inr.inr.inr.inr.inr.inr.inr.inr.inl =>
        obtain rfl : nn = 0 := p2 (by decide)
        clear p2 p3' p4'
        have hA : arityK 10 = 2 := rfl
        rw [hA] at CA
        clear hkk
        simp +contextual -dsimp (maxSteps := 2000000) only [↓SD, SU, SB, Nat.reduceAdd, Nat.reduceBEq, Nat.reduceEqDiff, Nat.reduceLeDiff, Nat.reduceLT, Nat.reduceSub, ↓reduceIte, forall_const, implies_true, ne_eq, reduceCtorEq, Int.reduceToNat, forall_eq, Int.reduceEq, Int.reduceLT, Int.reduceLE, Int.reduceNeg, Int.reduceAdd, Int.reduceSub, ir_spec_l04Node, rs_spec_l04Node, av_Node, av_Program, map_len, p1']
        refine aLoop_of (X := Nat) (fun j => ⟨[(2, .obj [.sl (p.types.map av), .sl (p.nodes.map av)]), (3, .obj [.int .i64 10, .int .i64 pos, .int .i64 0, .str s, .sl (kids.map av), .sl (pats.map av)]), (44, .sl (kids.map av)), (45, .int .i64 kids.length), (46, .int .i64 j)], []⟩) (fun j => j ≤ kids.length ∧ (kids.take j).all (inB p.nodes.length) = true) (fun j => kids.length - j) 0 ⟨Nat.zero_le _, rfl⟩ (by simp +contextual -dsimp (maxSteps := 2000000) only [↓SD, SU, SB, Nat.reduceAdd, Nat.reduceBEq, Nat.reduceEqDiff, Nat.reduceLeDiff, Nat.reduceLT, Nat.reduceSub, ↓reduceIte, forall_const, implies_true, ne_eq, reduceCtorEq, Int.reduceToNat, forall_eq]) trivial ?_
        rintro j ⟨hj, hp⟩
        by_cases hjl : j < kids.length
        · have e := getD_map av kids j .top hjl
          have hno : inB p.nodes.length kids[j] = false → nodeSB p.nodes ⟨10, pos, 0, s, kids, pats⟩ = false := fun h => by simp [nodeSB, all_false' _ hjl h]
          have hyes : inB p.nodes.length kids[j] = true → (kids.take (j + 1)).all (inB p.nodes.length) = true := fun h => by rw [all_take' _ hjl hp]; exact h
          generalize kids[j] = x at *
          simp +contextual -dsimp (maxSteps := 2000000) only [↓SD, SU, SB, Nat.reduceAdd, Nat.reduceBEq, Nat.reduceEqDiff, Nat.reduceLeDiff, Nat.reduceLT, Nat.reduceSub, ↓reduceIte, forall_const, implies_true, ne_eq, reduceCtorEq, Int.reduceToNat, forall_eq, map_len, hjl, e, av_int]
          (repeat' (first | intro _ | refine And.intro ?_ ?_))
          all_goals first
            | omega
            | (rw [hno (by simp [inB]; omega)]; done)
            | exact Goes.le ⟨j + 1, ⟨⟨hjl, hyes (by simp [inB]; omega)⟩, (by first | omega | (simp only; omega))⟩, rfl⟩ (by simp +contextual -dsimp (maxSteps := 2000000) only [↓SD, SU, SB, Nat.reduceAdd, Nat.reduceBEq, Nat.reduceEqDiff, Nat.reduceLeDiff, Nat.reduceLT, Nat.reduceSub, ↓reduceIte, forall_const, implies_true, ne_eq, reduceCtorEq, Int.reduceToNat, forall_eq, Int.natCast_add]) trivial
        · obtain rfl : j = kids.length := by omega
          rw [List.take_length] at hp
          rcases pats with _ | ⟨q0, qs⟩ <;>
          ( (try simp only [List.length_cons] at hq)
            simp +contextual -dsimp (maxSteps := 2000000) only [↓SD, SU, SB, Nat.reduceAdd, Nat.reduceBEq, Nat.reduceEqDiff, Nat.reduceLeDiff, Nat.reduceLT, Nat.reduceSub, ↓reduceIte, forall_const, implies_true, ne_eq, reduceCtorEq, Int.reduceToNat, forall_eq, Int.reduceEq, Int.reduceLT, Int.reduceLE, Int.reduceNeg, Int.reduceAdd, Int.reduceSub, map_len, Nat.lt_irrefl, List.length_map]
            (repeat' (first | intro _ | refine And.intro ?_ ?_))
            all_goals first | omega | skip
            all_goals first | (refine aCallK_of _ (specNameOk_ok s (by omega)) ?_; simp +contextual -dsimp (maxSteps := 2000000) only [↓SD, SU, SB, Nat.reduceAdd, Nat.reduceBEq, Nat.reduceEqDiff, Nat.reduceLeDiff, Nat.reduceLT, Nat.reduceSub, ↓reduceIte, forall_const, implies_true, ne_eq, reduceCtorEq, Int.reduceToNat, forall_eq, Int.reduceEq, Int.reduceLT, Int.reduceLE, Int.reduceNeg, Int.reduceAdd, Int.reduceSub, *, map_len]; (repeat' (first | intro _ | refine And.intro ?_ ?_))) | (refine aCallK_of _ (l04Prim_ok s) ?_; simp +contextual -dsimp (maxSteps := 2000000) only [↓SD, SU, SB, Nat.reduceAdd, Nat.reduceBEq, Nat.reduceEqDiff, Nat.reduceLeDiff, Nat.reduceLT, Nat.reduceSub, ↓reduceIte, forall_const, implies_true, ne_eq, reduceCtorEq, Int.reduceToNat, forall_eq, Int.reduceEq, Int.reduceLT, Int.reduceLE, Int.reduceNeg, Int.reduceAdd, Int.reduceSub, *, map_len]; (repeat' (first | intro _ | refine And.intro ?_ ?_))) | skip
            all_goals first | omega | skip
            all_goals first | (refine aCallK_of _ CA ?_; simp +contextual -dsimp (maxSteps := 2000000) only [↓SD, SU, SB, Nat.reduceAdd, Nat.reduceBEq, Nat.reduceEqDiff, Nat.reduceLeDiff, Nat.reduceLT, Nat.reduceSub, ↓reduceIte, forall_const, implies_true, ne_eq, reduceCtorEq, Int.reduceToNat, forall_eq, Int.reduceEq, Int.reduceLT, Int.reduceLE, Int.reduceNeg, Int.reduceAdd, Int.reduceSub, *, map_len]; (repeat' (first | intro _ | refine And.intro ?_ ?_))) | skip
            all_goals first | omega | (simp [nodeSB, nodeB, patsB, nameN, onlyKind, firstKind, *]; done) | (have kne : kids ≠ [] := (fun h => by subst h; simp at *); simp [nodeSB, nodeB, hA, kne]; done) | (simp [nodeSB, nodeB, patsB, nameN, onlyKind, firstKind, *]; omega) | trace_state)
      case inr.inr.inr.inr.inr.inr.inr.inr.inr.inr.inl =>
        obtain rfl : nn = 0 := p2 (by decide)
        clear p2 p3' p4'
        have hA : arityK 11 = 2 := rfl
        rw [hA] at CA
        clear hkk
        simp +contextual -dsimp (maxSteps := 2000000) only [↓SD, SU, SB, Nat.reduceAdd, Nat.reduceBEq, Nat.reduceEqDiff, Nat.reduceLeDiff, Nat.reduceLT, Nat.reduceSub, ↓reduceIte, forall_const, implies_true, ne_eq, reduceCtorEq, Int.reduceToNat, forall_eq, Int.reduceEq, Int.reduceLT, Int.reduceLE, Int.reduceNeg, Int.reduceAdd, Int.reduceSub, ir_spec_l04Node, rs_spec_l04Node, av_Node, av_Program, map_len, p1']
        refine aLoop_of (X := Nat) (fun j => ⟨[(2, .obj [.sl (p.types.map av), .sl (p.nodes.map av)]), (3, .obj [.int .i64 11, .int .i64 pos, .int .i64 0, .str s, .sl (kids.map av), .sl (pats.map av)]), (44, .sl (kids.map av)), (45, .int .i64 kids.length), (46, .int .i64 j)], []⟩) (fun j => j ≤ kids.length ∧ (kids.take j).all (inB p.nodes.length) = true) (fun j => kids.length - j) 0 ⟨Nat.zero_le _, rfl⟩ (by simp +contextual -dsimp (maxSteps := 2000000) only [↓SD, SU, SB, Nat.reduceAdd, Nat.reduceBEq, Nat.reduceEqDiff, Nat.reduceLeDiff, Nat.reduceLT, Nat.reduceSub, ↓reduceIte, forall_const, implies_true, ne_eq, reduceCtorEq, Int.reduceToNat, forall_eq]) trivial ?_
        rintro j ⟨hj, hp⟩
        by_cases hjl : j < kids.length
        · have e := getD_map av kids j .top hjl
          have hno : inB p.nodes.length kids[j] = false → nodeSB p.nodes ⟨11, pos, 0, s, kids, pats⟩ = false := fun h => by simp [nodeSB, all_false' _ hjl h]
          have hyes : inB p.nodes.length kids[j] = true → (kids.take (j + 1)).all (inB p.nodes.length) = true := fun h => by rw [all_take' _ hjl hp]; exact h
          generalize kids[j] = x at *
          simp +contextual -dsimp (maxSteps := 2000000) only [↓SD, SU, SB, Nat.reduceAdd, Nat.reduceBEq, Nat.reduceEqDiff, Nat.reduceLeDiff, Nat.reduceLT, Nat.reduceSub, ↓reduceIte, forall_const, implies_true, ne_eq, reduceCtorEq, Int.reduceToNat, forall_eq, map_len, hjl, e, av_int]
          (repeat' (first | intro _ | refine And.intro ?_ ?_))
          all_goals first
            | omega
            | (rw [hno (by simp [inB]; omega)]; done)
            | exact Goes.le ⟨j + 1, ⟨⟨hjl, hyes (by simp [inB]; omega)⟩, (by first | omega | (simp only; omega))⟩, rfl⟩ (by simp +contextual -dsimp (maxSteps := 2000000) only [↓SD, SU, SB, Nat.reduceAdd, Nat.reduceBEq, Nat.reduceEqDiff, Nat.reduceLeDiff, Nat.reduceLT, Nat.reduceSub, ↓reduceIte, forall_const, implies_true, ne_eq, reduceCtorEq, Int.reduceToNat, forall_eq, Int.natCast_add]) trivial
        · obtain rfl : j = kids.length := by omega
          rw [List.take_length] at hp
          rcases pats with _ | ⟨q0, qs⟩ <;>
          ( (try simp only [List.length_cons] at hq)
            simp +contextual -dsimp (maxSteps := 2000000) only [↓SD, SU, SB, Nat.reduceAdd, Nat.reduceBEq, Nat.reduceEqDiff, Nat.reduceLeDiff, Nat.reduceLT, Nat.reduceSub, ↓reduceIte, forall_const, implies_true, ne_eq, reduceCtorEq, Int.reduceToNat, forall_eq, Int.reduceEq, Int.reduceLT, Int.reduceLE, Int.reduceNeg, Int.reduceAdd, Int.reduceSub, map_len, Nat.lt_irrefl, List.length_map]
            (repeat' (first | intro _ | refine And.intro ?_ ?_))
            all_goals first | omega | skip
            all_goals first | (refine aCallK_of _ (specNameOk_ok s (by omega)) ?_; simp +contextual -dsimp (maxSteps := 2000000) only [↓SD, SU, SB, Nat.reduceAdd, Nat.reduceBEq, Nat.reduceEqDiff, Nat.reduceLeDiff, Nat.reduceLT, Nat.reduceSub, ↓reduceIte, forall_const, implies_true, ne_eq, reduceCtorEq, Int.reduceToNat, forall_eq, Int.reduceEq, Int.reduceLT, Int.reduceLE, Int.reduceNeg, Int.reduceAdd, Int.reduceSub, *, map_len]; (repeat' (first | intro _ | refine And.intro ?_ ?_))) | (refine aCallK_of _ (l04Prim_ok s) ?_; simp +contextual -dsimp (maxSteps := 2000000) only [↓SD, SU, SB, Nat.reduceAdd, Nat.reduceBEq, Nat.reduceEqDiff, Nat.reduceLeDiff, Nat.reduceLT, Nat.reduceSub, ↓reduceIte, forall_const, implies_true, ne_eq, reduceCtorEq, Int.reduceToNat, forall_eq, Int.reduceEq, Int.reduceLT, Int.reduceLE, Int.reduceNeg, Int.reduceAdd, Int.reduceSub, *, map_len]; (repeat' (first | intro _ | refine And.intro ?_ ?_))) | skip
            all_goals first | omega | skip
            all_goals first | (refine aCallK_of _ CA ?_; simp +contextual -dsimp (maxSteps := 2000000) only [↓SD, SU, SB, Nat.reduceAdd, Nat.reduceBEq, Nat.reduceEqDiff, Nat.reduceLeDiff, Nat.reduceLT, Nat.reduceSub, ↓reduceIte, forall_const, implies_true, ne_eq, reduceCtorEq, Int.reduceToNat, forall_eq, Int.reduceEq, Int.reduceLT, Int.reduceLE, Int.reduceNeg, Int.reduceAdd, Int.reduceSub, *, map_len]; (repeat' (first | intro _ | refine And.intro ?_ ?_))) | skip
            all_goals first | omega | (simp [nodeSB, nodeB, patsB, nameN, onlyKind, firstKind, *]; done) | (have kne : kids ≠ [] := (fun h => by subst h; simp at *); simp [nodeSB, nodeB, hA, kne]; done) | (simp [nodeSB, nodeB, patsB, nameN, onlyKind, firstKind, *]; omega) | trace_state)
      case inr.inr.inr.inr.inr.inr.inr.inr.inr.inr.inr.inl =>
        obtain rfl : nn = 0 := p2 (by decide)
        clear p2 p3' p4'
        have hA : arityK 12 = 0 := rfl
        rw [hA] at CA
        clear hkk
        simp +contextual -dsimp (maxSteps := 2000000) only [↓SD, SU, SB, Nat.reduceAdd, Nat.reduceBEq, Nat.reduceEqDiff, Nat.reduceLeDiff, Nat.reduceLT, Nat.reduceSub, ↓reduceIte, forall_const, implies_true, ne_eq, reduceCtorEq, Int.reduceToNat, forall_eq, Int.reduceEq, Int.reduceLT, Int.reduceLE, Int.reduceNeg, Int.reduceAdd, Int.reduceSub, ir_spec_l04Node, rs_spec_l04Node, av_Node, av_Program, map_len, p1']
        refine aLoop_of (X := Nat) (fun j => ⟨[(2, .obj [.sl (p.types.map av), .sl (p.nodes.map av)]), (3, .obj [.int .i64 12, .int .i64 pos, .int .i64 0, .str s, .sl (kids.map av), .sl (pats.map av)]), (44, .sl (kids.map av)), (45, .int .i64 kids.length), (46, .int .i64 j)], []⟩) (fun j => j ≤ kids.length ∧ (kids.take j).all (inB p.nodes.length) = true) (fun j => kids.length - j) 0 ⟨Nat.zero_le _, rfl⟩ (by simp +contextual -dsimp (maxSteps := 2000000) only [↓SD, SU, SB, Nat.reduceAdd, Nat.reduceBEq, Nat.reduceEqDiff, Nat.reduceLeDiff, Nat.reduceLT, Nat.reduceSub, ↓reduceIte, forall_const, implies_true, ne_eq, reduceCtorEq, Int.reduceToNat, forall_eq]) trivial ?_
        rintro j ⟨hj, hp⟩
        by_cases hjl : j < kids.length
        · have e := getD_map av kids j .top hjl
          have hno : inB p.nodes.length kids[j] = false → nodeSB p.nodes ⟨12, pos, 0, s, kids, pats⟩ = false := fun h => by simp [nodeSB, all_false' _ hjl h]
          have hyes : inB p.nodes.length kids[j] = true → (kids.take (j + 1)).all (inB p.nodes.length) = true := fun h => by rw [all_take' _ hjl hp]; exact h
          generalize kids[j] = x at *
          simp +contextual -dsimp (maxSteps := 2000000) only [↓SD, SU, SB, Nat.reduceAdd, Nat.reduceBEq, Nat.reduceEqDiff, Nat.reduceLeDiff, Nat.reduceLT, Nat.reduceSub, ↓reduceIte, forall_const, implies_true, ne_eq, reduceCtorEq, Int.reduceToNat, forall_eq, map_len, hjl, e, av_int]
          (repeat' (first | intro _ | refine And.intro ?_ ?_))
          all_goals first
            | omega
            | (rw [hno (by simp [inB]; omega)]; done)
            | exact Goes.le ⟨j + 1, ⟨⟨hjl, hyes (by simp [inB]; omega)⟩, (by first | omega | (simp only; omega))⟩, rfl⟩ (by simp +contextual -dsimp (maxSteps := 2000000) only [↓SD, SU, SB, Nat.reduceAdd, Nat.reduceBEq, Nat.reduceEqDiff, Nat.reduceLeDiff, Nat.reduceLT, Nat.reduceSub, ↓reduceIte, forall_const, implies_true, ne_eq, reduceCtorEq, Int.reduceToNat, forall_eq, Int.natCast_add]) trivial
        · obtain rfl : j = kids.length := by omega
          rw [List.take_length] at hp
          rcases pats with _ | ⟨q0, qs⟩ <;>
          ( (try simp only [List.length_cons] at hq)
            simp +contextual -dsimp (maxSteps := 2000000) only [↓SD, SU, SB, Nat.reduceAdd, Nat.reduceBEq, Nat.reduceEqDiff, Nat.reduceLeDiff, Nat.reduceLT, Nat.reduceSub, ↓reduceIte, forall_const, implies_true, ne_eq, reduceCtorEq, Int.reduceToNat, forall_eq, Int.reduceEq, Int.reduceLT, Int.reduceLE, Int.reduceNeg, Int.reduceAdd, Int.reduceSub, map_len, Nat.lt_irrefl, List.length_map]
            (repeat' (first | intro _ | refine And.intro ?_ ?_))
            all_goals first | omega | skip
            all_goals first | (refine aCallK_of _ (specNameOk_ok s (by omega)) ?_; simp +contextual -dsimp (maxSteps := 2000000) only [↓SD, SU, SB, Nat.reduceAdd, Nat.reduceBEq, Nat.reduceEqDiff, Nat.reduceLeDiff, Nat.reduceLT, Nat.reduceSub, ↓reduceIte, forall_const, implies_true, ne_eq, reduceCtorEq, Int.reduceToNat, forall_eq, Int.reduceEq, Int.reduceLT, Int.reduceLE, Int.reduceNeg, Int.reduceAdd, Int.reduceSub, *, map_len]; (repeat' (first | intro _ | refine And.intro ?_ ?_))) | (refine aCallK_of _ (l04Prim_ok s) ?_; simp +contextual -dsimp (maxSteps := 2000000) only [↓SD, SU, SB, Nat.reduceAdd, Nat.reduceBEq, Nat.reduceEqDiff, Nat.reduceLeDiff, Nat.reduceLT, Nat.reduceSub, ↓reduceIte, forall_const, implies_true, ne_eq, reduceCtorEq, Int.reduceToNat, forall_eq, Int.reduceEq, Int.reduceLT, Int.reduceLE, Int.reduceNeg, Int.reduceAdd, Int.reduceSub, *, map_len]; (repeat' (first | intro _ | refine And.intro ?_ ?_))) | skip
            all_goals first | omega | skip
            all_goals first | (refine aCallK_of _ CA ?_; simp +contextual -dsimp (maxSteps := 2000000) only [↓SD, SU, SB, Nat.reduceAdd, Nat.reduceBEq, Nat.reduceEqDiff, Nat.reduceLeDiff, Nat.reduceLT, Nat.reduceSub, ↓reduceIte, forall_const, implies_true, ne_eq, reduceCtorEq, Int.reduceToNat, forall_eq, Int.reduceEq, Int.reduceLT, Int.reduceLE, Int.reduceNeg, Int.reduceAdd, Int.reduceSub, *, map_len]; (repeat' (first | intro _ | refine And.intro ?_ ?_))) | skip
            all_goals first | omega | (simp [nodeSB, nodeB, patsB, nameN, onlyKind, firstKind, *]; done) | (have kne : kids ≠ [] := (fun h => by subst h; simp at *); simp [nodeSB, nodeB, hA, kne]; done) | (simp [nodeSB, nodeB, patsB, nameN, onlyKind, firstKind, *]; omega) | trace_state)
      case inr.inr.inr.inr.inr.inr.inr.inr.inr.inr.inr.inr.inl =>
        obtain rfl : nn = 0 := p2 (by decide)
        clear p2 p3' p4'
        have hA : arityK 13 = -1 := rfl
        rw [hA] at CA
        clear hkk
        simp +contextual -dsimp (maxSteps := 2000000) only [↓SD, SU, SB, Nat.reduceAdd, Nat.reduceBEq, Nat.reduceEqDiff, Nat.reduceLeDiff, Nat.reduceLT, Nat.reduceSub, ↓reduceIte, forall_const, implies_true, ne_eq, reduceCtorEq, Int.reduceToNat, forall_eq, Int.reduceEq, Int.reduceLT, Int.reduceLE, Int.reduceNeg, Int.reduceAdd, Int.reduceSub, ir_spec_l04Node, rs_spec_l04Node, av_Node, av_Program, map_len, p1']
        refine aLoop_of (X := Nat) (fun j => ⟨[(2, .obj [.sl (p.types.map av), .sl (p.nodes.map av)]), (3, .obj [.int .i64 13, .int .i64 pos, .int .i64 0, .str s, .sl (kids.map av), .sl (pats.map av)]), (44, .sl (kids.map av)), (45, .int .i64 kids.length), (46, .int .i64 j)], []⟩) (fun j => j ≤ kids.length ∧ (kids.take j).all (inB p.nodes.length) = true) (fun j => kids.length - j) 0 ⟨Nat.zero_le _, rfl⟩ (by simp +contextual -dsimp (maxSteps := 2000000) only [↓SD, SU, SB, Nat.reduceAdd, Nat.reduceBEq, Nat.reduceEqDiff, Nat.reduceLeDiff, Nat.reduceLT, Nat.reduceSub, ↓reduceIte, forall_const, implies_true, ne_eq, reduceCtorEq, Int.reduceToNat, forall_eq]) trivial ?_
        rintro j ⟨hj, hp⟩
        by_cases hjl : j < kids.length
        · have e := getD_map av kids j .top hjl
          have hno : inB p.nodes.length kids[j] = false → nodeSB p.nodes ⟨13, pos, 0, s, kids, pats⟩ = false := fun h => by simp [nodeSB, all_false' _ hjl h]
          have hyes : inB p.nodes.length kids[j] = true → (kids.take (j + 1)).all (inB p.nodes.length) = true := fun h => by rw [all_take' _ hjl hp]; exact h
          generalize kids[j] = x at *
          simp +contextual -dsimp (maxSteps := 2000000) only [↓SD, SU, SB, Nat.reduceAdd, Nat.reduceBEq, Nat.reduceEqDiff, Nat.reduceLeDiff, Nat.reduceLT, Nat.reduceSub, ↓reduceIte, forall_const, implies_true, ne_eq, reduceCtorEq, Int.reduceToNat, forall_eq, map_len, hjl, e, av_int]
          (repeat' (first | intro _ | refine And.intro ?_ ?_))
          all_goals first
            | omega
            | (rw [hno (by simp [inB]; omega)]; done)
            | exact Goes.le ⟨j + 1, ⟨⟨hjl, hyes (by simp [inB]; omega)⟩, (by first | omega | (simp only; omega))⟩, rfl⟩ (by simp +contextual -dsimp (maxSteps := 2000000) only [↓SD, SU, SB, Nat.reduceAdd, Nat.reduceBEq, Nat.reduceEqDiff, Nat.reduceLeDiff, Nat.reduceLT, Nat.reduceSub, ↓reduceIte, forall_const, implies_true, ne_eq, reduceCtorEq, Int.reduceToNat, forall_eq, Int.natCast_add]) trivial
        · obtain rfl : j = kids.length := by omega
          rw [List.take_length] at hp
          by_cases hse : s = bs []
          · subst hse
            simp +contextual -dsimp (maxSteps := 2000000) only [↓SD, SU, SB, Nat.reduceAdd, Nat.reduceBEq, Nat.reduceEqDiff, Nat.reduceLeDiff, Nat.reduceLT, Nat.reduceSub, ↓reduceIte, forall_const, implies_true, ne_eq, reduceCtorEq, Int.reduceToNat, forall_eq, Int.reduceEq, Int.reduceLT, Int.reduceLE, Int.reduceNeg, Int.reduceAdd, Int.reduceSub, map_len, Nat.lt_irrefl]
            refine aLoop_of (X := Nat) (fun j => ⟨[(3, .obj [.int .i64 13, .int .i64 pos, .int .i64 0, .str (bs []), .sl (kids.map av), .sl (pats.map av)]), (158, .sl (pats.map av)), (159, .int .i64 pats.length), (160, .int .i64 j)], []⟩) (fun j => j ≤ pats.length ∧ (pats.take j).all (fun q => patB q.nodes) = true) (fun j => pats.length - j) 0 ⟨Nat.zero_le _, rfl⟩ (by simp +contextual -dsimp (maxSteps := 2000000) only [↓SD, SU, SB, Nat.reduceAdd, Nat.reduceBEq, Nat.reduceEqDiff, Nat.reduceLeDiff, Nat.reduceLT, Nat.reduceSub, ↓reduceIte, forall_const, implies_true, ne_eq, reduceCtorEq, Int.reduceToNat, forall_eq]) trivial ?_
            rintro i ⟨hi, hq2⟩
            by_cases hil : i < pats.length
            · have e := getD_map av pats i .top hil
              have CP := specPatOk_ok pats[i].nodes (pat_small hqb (List.getElem_mem hil))
              have hno : patB pats[i].nodes = false → nodeSB p.nodes ⟨13, pos, 0, bs [], kids, pats⟩ = false := fun h => by
                have : patsB ⟨13, pos, 0, bs [], kids, pats⟩ = false := all_false' (fun q : Pat => patB q.nodes) hil h
                simp [nodeSB, this]
              have hyes : patB pats[i].nodes = true → (pats.take (i + 1)).all (fun q => patB q.nodes) = true := fun h => by rw [all_take' _ hil hq2]; exact h
              generalize pats[i] = q at *
              simp +contextual -dsimp (maxSteps := 2000000) only [↓SD, SU, SB, Nat.reduceAdd, Nat.reduceBEq, Nat.reduceEqDiff, Nat.reduceLeDiff, Nat.reduceLT, Nat.reduceSub, ↓reduceIte, forall_const, implies_true, ne_eq, reduceCtorEq, Int.reduceToNat, forall_eq, map_len, hil, e, av_Pat]
              intro v
              refine aCallK_of _ CP ?_
              simp +contextual -dsimp (maxSteps := 2000000) only [↓SD, SU, SB, Nat.reduceAdd, Nat.reduceBEq, Nat.reduceEqDiff, Nat.reduceLeDiff, Nat.reduceLT, Nat.reduceSub, ↓reduceIte, forall_const, implies_true, ne_eq, reduceCtorEq, Int.reduceToNat, forall_eq]
              refine ⟨fun h => by rw [hno h], fun h => ⟨by omega, Goes.le ⟨i + 1, ⟨⟨hil, hyes h⟩, (by first | omega | (simp only; omega))⟩, rfl⟩ (by simp +contextual -dsimp (maxSteps := 2000000) only [↓SD, SU, SB, Nat.reduceAdd, Nat.reduceBEq, Nat.reduceEqDiff, Nat.reduceLeDiff, Nat.reduceLT, Nat.reduceSub, ↓reduceIte, forall_const, implies_true, ne_eq, reduceCtorEq, Int.reduceToNat, forall_eq, Int.natCast_add]) trivial⟩⟩
            · obtain rfl : i = pats.length := by omega
              rw [List.take_length] at hq2
              have hpb : patsB ⟨13, pos, 0, bs [], kids, pats⟩ = true := hq2
              have hres : nodeSB p.nodes ⟨13, pos, 0, bs [], kids, pats⟩ = (decide (1 ≤ (pats.length : Int)) && decide ((kids.length : Int) = pats.length + 1)) := by
                unfold nodeSB
                rw [hp, hpb]
                simp [nodeB, hA, p1]
              rw [hres]
              simp +contextual -dsimp (maxSteps := 2000000) only [↓SD, SU, SB, Nat.reduceAdd, Nat.reduceBEq, Nat.reduceEqDiff, Nat.reduceLeDiff, Nat.reduceLT, Nat.reduceSub, ↓reduceIte, forall_const, implies_true, ne_eq, reduceCtorEq, Int.reduceToNat, forall_eq, Int.reduceEq, Int.reduceLT, Int.reduceLE, Int.reduceNeg, Int.reduceAdd, Int.reduceSub, map_len, Nat.lt_irrefl]
              (repeat' (first | intro _ | refine And.intro ?_ ?_))
              all_goals first | omega | skip
              · congr 1
                rw [Bool.eq_iff_iff]
                simp only [Bool.and_eq_true, decide_eq_true_eq]
                omega
              · congr 1
                symm
                rw [Bool.and_eq_false_iff, decide_eq_false_iff_not, decide_eq_false_iff_not]
                omega
          · simp +contextual -dsimp (maxSteps := 2000000) only [↓SD, SU, SB, Nat.reduceAdd, Nat.reduceBEq, Nat.reduceEqDiff, Nat.reduceLeDiff, Nat.reduceLT, Nat.reduceSub, ↓reduceIte, forall_const, implies_true, ne_eq, reduceCtorEq, Int.reduceToNat, forall_eq, Int.reduceEq, Int.reduceLT, Int.reduceLE, Int.reduceNeg, Int.reduceAdd, Int.reduceSub, map_len, Nat.lt_irrefl, hse]
            simp [nodeSB, nodeB, hA, hse]
      case inr.inr.inr.inr.inr.inr.inr.inr.inr.inr.inr.inr.inr.inl =>
        obtain rfl : nn = 0 := p2 (by decide)
        clear p2 p3' p4'
        have hA : arityK 14 = 1 := rfl
        rw [hA] at CA
        clear hkk
        simp +contextual -dsimp (maxSteps := 2000000) only [↓SD, SU, SB, Nat.reduceAdd, Nat.reduceBEq, Nat.reduceEqDiff, Nat.reduceLeDiff, Nat.reduceLT, Nat.reduceSub, ↓reduceIte, forall_const, implies_true, ne_eq, reduceCtorEq, Int.reduceToNat, forall_eq, Int.reduceEq, Int.reduceLT, Int.reduceLE, Int.reduceNeg, Int.reduceAdd, Int.reduceSub, ir_spec_l04Node, rs_spec_l04Node, av_Node, av_Program, map_len, p1']
        refine aLoop_of (X := Nat) (fun j => ⟨[(2, .obj [.sl (p.types.map av), .sl (p.nodes.map av)]), (3, .obj [.int .i64 14, .int .i64 pos, .int .i64 0, .str s, .sl (kids.map av), .sl (pats.map av)]), (44, .sl (kids.map av)), (45, .int .i64 kids.length), (46, .int .i64 j)], []⟩) (fun j => j ≤ kids.length ∧ (kids.take j).all (inB p.nodes.length) = true) (fun j => kids.length - j) 0 ⟨Nat.zero_le _, rfl⟩ (by simp +contextual -dsimp (maxSteps := 2000000) only [↓SD, SU, SB, Nat.reduceAdd, Nat.reduceBEq, Nat.reduceEqDiff, Nat.reduceLeDiff, Nat.reduceLT, Nat.reduceSub, ↓reduceIte, forall_const, implies_true, ne_eq, reduceCtorEq, Int.reduceToNat, forall_eq]) trivial ?_
        rintro j ⟨hj, hp⟩
        by_cases hjl : j < kids.length
        · have e := getD_map av kids j .top hjl
          have hno : inB p.nodes.length kids[j] = false → nodeSB p.nodes ⟨14, pos, 0, s, kids, pats⟩ = false := fun h => by simp [nodeSB, all_false' _ hjl h]
          have hyes : inB p.nodes.length kids[j] = true → (kids.take (j + 1)).all (inB p.nodes.length) = true := fun h => by rw [all_take' _ hjl hp]; exact h
          generalize kids[j] = x at *
          simp +contextual -dsimp (maxSteps := 2000000) only [↓SD, SU, SB, Nat.reduceAdd, Nat.reduceBEq, Nat.reduceEqDiff, Nat.reduceLeDiff, Nat.reduceLT, Nat.reduceSub, ↓reduceIte, forall_const, implies_true, ne_eq, reduceCtorEq, Int.reduceToNat, forall_eq, map_len, hjl, e, av_int]
          (repeat' (first | intro _ | refine And.intro ?_ ?_))
          all_goals first
            | omega
            | (rw [hno (by simp [inB]; omega)]; done)
            | exact Goes.le ⟨j + 1, ⟨⟨hjl, hyes (by simp [inB]; omega)⟩, (by first | omega | (simp only; omega))⟩, rfl⟩ (by simp +contextual -dsimp (maxSteps := 2000000) only [↓SD, SU, SB, Nat.reduceAdd, Nat.reduceBEq, Nat.reduceEqDiff, Nat.reduceLeDiff, Nat.reduceLT, Nat.reduceSub, ↓reduceIte, forall_const, implies_true, ne_eq, reduceCtorEq, Int.reduceToNat, forall_eq, Int.natCast_add]) trivial
        · obtain rfl : j = kids.length := by omega
          rw [List.take_length] at hp
          rcases pats with _ | ⟨q0, qs⟩ <;>
          ( (try simp only [List.length_cons] at hq)
            simp +contextual -dsimp (maxSteps := 2000000) only [↓SD, SU, SB, Nat.reduceAdd, Nat.reduceBEq, Nat.reduceEqDiff, Nat.reduceLeDiff, Nat.reduceLT, Nat.reduceSub, ↓reduceIte, forall_const, implies_true, ne_eq, reduceCtorEq, Int.reduceToNat, forall_eq, Int.reduceEq, Int.reduceLT, Int.reduceLE, Int.reduceNeg, Int.reduceAdd, Int.reduceSub, map_len, Nat.lt_irrefl, List.length_map]
            (repeat' (first | intro _ | refine And.intro ?_ ?_))
            all_goals first | omega | skip
            all_goals first | (refine aCallK_of _ (specNameOk_ok s (by omega)) ?_; simp +contextual -dsimp (maxSteps := 2000000) only [↓SD, SU, SB, Nat.reduceAdd, Nat.reduceBEq, Nat.reduceEqDiff, Nat.reduceLeDiff, Nat.reduceLT, Nat.reduceSub, ↓reduceIte, forall_const, implies_true, ne_eq, reduceCtorEq, Int.reduceToNat, forall_eq, Int.reduceEq, Int.reduceLT, Int.reduceLE, Int.reduceNeg, Int.reduceAdd, Int.reduceSub, *, map_len]; (repeat' (first | intro _ | refine And.intro ?_ ?_))) | (refine aCallK_of _ (l04Prim_ok s) ?_; simp +contextual -dsimp (maxSteps := 2000000) only [↓SD, SU, SB, Nat.reduceAdd, Nat.reduceBEq, Nat.reduceEqDiff, Nat.reduceLeDiff, Nat.reduceLT, Nat.reduceSub, ↓reduceIte, forall_const, implies_true, ne_eq, reduceCtorEq, Int.reduceToNat, forall_eq, Int.reduceEq, Int.reduceLT, Int.reduceLE, Int.reduceNeg, Int.reduceAdd, Int.reduceSub, *, map_len]; (repeat' (first | intro _ | refine And.intro ?_ ?_))) | skip
            all_goals first | omega | skip
            all_goals first | (refine aCallK_of _ CA ?_; simp +contextual -dsimp (maxSteps := 2000000) only [↓SD, SU, SB, Nat.reduceAdd, Nat.reduceBEq, Nat.reduceEqDiff, Nat.reduceLeDiff, Nat.reduceLT, Nat.reduceSub, ↓reduceIte, forall_const, implies_true, ne_eq, reduceCtorEq, Int.reduceToNat, forall_eq, Int.reduceEq, Int.reduceLT, Int.reduceLE, Int.reduceNeg, Int.reduceAdd, Int.reduceSub, *, map_len]; (repeat' (first | intro _ | refine And.intro ?_ ?_))) | skip
            all_goals first | omega | (simp [nodeSB, nodeB, patsB, nameN, onlyKind, firstKind, *]; done) | (have kne : kids ≠ [] := (fun h => by subst h; simp at *); simp [nodeSB, nodeB, hA, kne]; done) | (simp [nodeSB, nodeB, patsB, nameN, onlyKind, firstKind, *]; omega) | trace_state)
      case inr.inr.inr.inr.inr.inr.inr.inr.inr.inr.inr.inr.inr.inr.inl =>
        obtain rfl : nn = 0 := p2 (by decide)
        clear p2 p3' p4'
        have hA : arityK 15 = 2 := rfl
        rw [hA] at CA
        clear hkk
        simp +contextual -dsimp (maxSteps := 2000000) only [↓SD, SU, SB, Nat.reduceAdd, Nat.reduceBEq, Nat.reduceEqDiff, Nat.reduceLeDiff, Nat.reduceLT, Nat.reduceSub, ↓reduceIte, forall_const, implies_true, ne_eq, reduceCtorEq, Int.reduceToNat, forall_eq, Int.reduceEq, Int.reduceLT, Int.reduceLE, Int.reduceNeg, Int.reduceAdd, Int.reduceSub, ir_spec_l04Node, rs_spec_l04Node, av_Node, av_Program, map_len, p1']
        refine aLoop_of (X := Nat) (fun j => ⟨[(2, .obj [.sl (p.types.map av), .sl (p.nodes.map av)]), (3, .obj [.int .i64 15, .int .i64 pos, .int .i64 0, .str s, .sl (kids.map av), .sl (pats.map av)]), (44, .sl (kids.map av)), (45, .int .i64 kids.length), (46, .int .i64 j)], []⟩) (fun j => j ≤ kids.length ∧ (kids.take j).all (inB p.nodes.length) = true) (fun j => kids.length - j) 0 ⟨Nat.zero_le _, rfl⟩ (by simp +contextual -dsimp (maxSteps := 2000000) only [↓SD, SU, SB, Nat.reduceAdd, Nat.reduceBEq, Nat.reduceEqDiff, Nat.reduceLeDiff, Nat.reduceLT, Nat.reduceSub, ↓reduceIte, forall_const, implies_true, ne_eq, reduceCtorEq, Int.reduceToNat, forall_eq]) trivial ?_
        rintro j ⟨hj, hp⟩
        by_cases hjl : j < kids.length
        · have e := getD_map av kids j .top hjl
          have hno : inB p.nodes.length kids[j] = false → nodeSB p.nodes ⟨15, pos, 0, s, kids, pats⟩ = false := fun h => by simp [nodeSB, all_false' _ hjl h]
          have hyes : inB p.nodes.length kids[j] = true → (kids.take (j + 1)).all (inB p.nodes.length) = true := fun h => by rw [all_take' _ hjl hp]; exact h
          generalize kids[j] = x at *
          simp +contextual -dsimp (maxSteps := 2000000) only [↓SD, SU, SB, Nat.reduceAdd, Nat.reduceBEq, Nat.reduceEqDiff, Nat.reduceLeDiff, Nat.reduceLT, Nat.reduceSub, ↓reduceIte, forall_const, implies_true, ne_eq, reduceCtorEq, Int.reduceToNat, forall_eq, map_len, hjl, e, av_int]
          (repeat' (first | intro _ | refine And.intro ?_ ?_))
          all_goals first
            | omega
            | (rw [hno (by simp [inB]; omega)]; done)
            | exact Goes.le ⟨j + 1, ⟨⟨hjl, hyes (by simp [inB]; omega)⟩, (by first | omega | (simp only; omega))⟩, rfl⟩ (by simp +contextual -dsimp (maxSteps := 2000000) only [↓SD, SU, SB, Nat.reduceAdd, Nat.reduceBEq, Nat.reduceEqDiff, Nat.reduceLeDiff, Nat.reduceLT, Nat.reduceSub, ↓reduceIte, forall_const, implies_true, ne_eq, reduceCtorEq, Int.reduceToNat, forall_eq, Int.natCast_add]) trivial
        · obtain rfl : j = kids.length := by omega
          rw [List.take_length] at hp
          rcases pats with _ | ⟨q0, qs⟩ <;>
          ( (try simp only [List.length_cons] at hq)
            simp +contextual -dsimp (maxSteps := 2000000) only [↓SD, SU, SB, Nat.reduceAdd, Nat.reduceBEq, Nat.reduceEqDiff, Nat.reduceLeDiff, Nat.reduceLT, Nat.reduceSub, ↓reduceIte, forall_const, implies_true, ne_eq, reduceCtorEq, Int.reduceToNat, forall_eq, Int.reduceEq, Int.reduceLT, Int.reduceLE, Int.reduceNeg, Int.reduceAdd, Int.reduceSub, map_len, Nat.lt_irrefl, List.length_map]
            (repeat' (first | intro _ | refine And.intro ?_ ?_))
            all_goals first | omega | skip
            all_goals first | (refine aCallK_of _ (specNameOk_ok s (by omega)) ?_; simp +contextual -dsimp (maxSteps := 2000000) only [↓SD, SU, SB, Nat.reduceAdd, Nat.reduceBEq, Nat.reduceEqDiff, Nat.reduceLeDiff, Nat.reduceLT, Nat.reduceSub, ↓reduceIte, forall_const, implies_true, ne_eq, reduceCtorEq, Int.reduceToNat, forall_eq, Int.reduceEq, Int.reduceLT, Int.reduceLE, Int.reduceNeg, Int.reduceAdd, Int.reduceSub, *, map_len]; (repeat' (first | intro _ | refine And.intro ?_ ?_))) | (refine aCallK_of _ (l04Prim_ok s) ?_; simp +contextual -dsimp (maxSteps := 2000000) only [↓SD, SU, SB, Nat.reduceAdd, Nat.reduceBEq, Nat.reduceEqDiff, Nat.reduceLeDiff, Nat.reduceLT, Nat.reduceSub, ↓reduceIte, forall_const, implies_true, ne_eq, reduceCtorEq, Int.reduceToNat, forall_eq, Int.reduceEq, Int.reduceLT, Int.reduceLE, Int.reduceNeg, Int.reduceAdd, Int.reduceSub, *, map_len]; (repeat' (first | intro _ | refine And.intro ?_ ?_))) | skip
            all_goals first | omega | skip
            all_goals first | (refine aCallK_of _ CA ?_; simp +contextual -dsimp (maxSteps := 2000000) only [↓SD, SU, SB, Nat.reduceAdd, Nat.reduceBEq, Nat.reduceEqDiff, Nat.reduceLeDiff, Nat.reduceLT, Nat.reduceSub, ↓reduceIte, forall_const, implies_true, ne_eq, reduceCtorEq, Int.reduceToNat, forall_eq, Int.reduceEq, Int.reduceLT, Int.reduceLE, Int.reduceNeg, Int.reduceAdd, Int.reduceSub, *, map_len]; (repeat' (first | intro _ | refine And.intro ?_ ?_))) | skip
            all_goals first | omega | (simp [nodeSB, nodeB, patsB, nameN, onlyKind, firstKind, *]; done) | (have kne : kids ≠ [] := (fun h => by subst h; simp at *); simp [nodeSB, nodeB, hA, kne]; done) | (simp [nodeSB, nodeB, patsB, nameN, onlyKind, firstKind, *]; omega) | trace_state)
      case inr.inr.inr.inr.inr.inr.inr.inr.inr.inr.inr.inr.inr.inr.inr.inl =>
        obtain rfl : nn = 0 := p2 (by decide)
        clear p2 p3' p4'
        have hA : arityK 16 = 1 := rfl
        rw [hA] at CA
        clear hkk
        simp +contextual -dsimp (maxSteps := 2000000) only [↓SD, SU, SB, Nat.reduceAdd, Nat.reduceBEq, Nat.reduceEqDiff, Nat.reduceLeDiff, Nat.reduceLT, Nat.reduceSub, ↓reduceIte, forall_const, implies_true, ne_eq, reduceCtorEq, Int.reduceToNat, forall_eq, Int.reduceEq, Int.reduceLT, Int.reduceLE, Int.reduceNeg, Int.reduceAdd, Int.reduceSub, ir_spec_l04Node, rs_spec_l04Node, av_Node, av_Program, map_len, p1']
        refine aLoop_of (X := Nat) (fun j => ⟨[(2, .obj [.sl (p.types.map av), .sl (p.nodes.map av)]), (3, .obj [.int .i64 16, .int .i64 pos, .int .i64 0, .str s, .sl (kids.map av), .sl (pats.map av)]), (44, .sl (kids.map av)), (45, .int .i64 kids.length), (46, .int .i64 j)], []⟩) (fun j => j ≤ kids.length ∧ (kids.take j).all (inB p.nodes.length) = true) (fun j => kids.length - j) 0 ⟨Nat.zero_le _, rfl⟩ (by simp +contextual -dsimp (maxSteps := 2000000) only [↓SD, SU, SB, Nat.reduceAdd, Nat.reduceBEq, Nat.reduceEqDiff, Nat.reduceLeDiff, Nat.reduceLT, Nat.reduceSub, ↓reduceIte, forall_const, implies_true, ne_eq, reduceCtorEq, Int.reduceToNat, forall_eq]) trivial ?_
        rintro j ⟨hj, hp⟩
        by_cases hjl : j < kids.length
        · have e := getD_map av kids j .top hjl
          have hno : inB p.nodes.length kids[j] = false → nodeSB p.nodes ⟨16, pos, 0, s, kids, pats⟩ = false := fun h => by simp [nodeSB, all_false' _ hjl h]
          have hyes : inB p.nodes.length kids[j] = true → (kids.take (j + 1)).all (inB p.nodes.length) = true := fun h => by rw [all_take' _ hjl hp]; exact h
          generalize kids[j] = x at *
          simp +contextual -dsimp (maxSteps := 2000000) only [↓SD, SU, SB, Nat.reduceAdd, Nat.reduceBEq, Nat.reduceEqDiff, Nat.reduceLeDiff, Nat.reduceLT, Nat.reduceSub, ↓reduceIte, forall_const, implies_true, ne_eq, reduceCtorEq, Int.reduceToNat, forall_eq, map_len, hjl, e, av_int]
          (repeat' (first | intro _ | refine And.intro ?_ ?_))
          all_goals first
            | omega
            | (rw [hno (by simp [inB]; omega)]; done)
            | exact Goes.le ⟨j + 1, ⟨⟨hjl, hyes (by simp [inB]; omega)⟩, (by first | omega | (simp only; omega))⟩, rfl⟩ (by simp +contextual -dsimp (maxSteps := 2000000) only [↓SD, SU, SB, Nat.reduceAdd, Nat.reduceBEq, Nat.reduceEqDiff, Nat.reduceLeDiff, Nat.reduceLT, Nat.reduceSub, ↓reduceIte, forall_const, implies_true, ne_eq, reduceCtorEq, Int.reduceToNat, forall_eq, Int.natCast_add]) trivial
        · obtain rfl : j = kids.length := by omega
          rw [List.take_length] at hp
          rcases pats with _ | ⟨q0, qs⟩ <;>
          ( (try simp only [List.length_cons] at hq)
            simp +contextual -dsimp (maxSteps := 2000000) only [↓SD, SU, SB, Nat.reduceAdd, Nat.reduceBEq, Nat.reduceEqDiff, Nat.reduceLeDiff, Nat.reduceLT, Nat.reduceSub, ↓reduceIte, forall_const, implies_true, ne_eq, reduceCtorEq, Int.reduceToNat, forall_eq, Int.reduceEq, Int.reduceLT, Int.reduceLE, Int.reduceNeg, Int.reduceAdd, Int.reduceSub, map_len, Nat.lt_irrefl, List.length_map]
            (repeat' (first | intro _ | refine And.intro ?_ ?_))
            all_goals first | omega | skip
            all_goals first | (refine aCallK_of _ (specNameOk_ok s (by omega)) ?_; simp +contextual -dsimp (maxSteps := 2000000) only [↓SD, SU, SB, Nat.reduceAdd, Nat.reduceBEq, Nat.reduceEqDiff, Nat.reduceLeDiff, Nat.reduceLT, Nat.reduceSub, ↓reduceIte, forall_const, implies_true, ne_eq, reduceCtorEq, Int.reduceToNat, forall_eq, Int.reduceEq, Int.reduceLT, Int.reduceLE, Int.reduceNeg, Int.reduceAdd, Int.reduceSub, *, map_len]; (repeat' (first | intro _ | refine And.intro ?_ ?_))) | (refine aCallK_of _ (l04Prim_ok s) ?_; simp +contextual -dsimp (maxSteps := 2000000) only [↓SD, SU, SB, Nat.reduceAdd, Nat.reduceBEq, Nat.reduceEqDiff, Nat.reduceLeDiff, Nat.reduceLT, Nat.reduceSub, ↓reduceIte, forall_const, implies_true, ne_eq, reduceCtorEq, Int.reduceToNat, forall_eq, Int.reduceEq, Int.reduceLT, Int.reduceLE, Int.reduceNeg, Int.reduceAdd, Int.reduceSub, *, map_len]; (repeat' (first | intro _ | refine And.intro ?_ ?_))) | skip
            all_goals first | omega | skip
            all_goals first | (refine aCallK_of _ CA ?_; simp +contextual -dsimp (maxSteps := 2000000) only [↓SD, SU, SB, Nat.reduceAdd, Nat.reduceBEq, Nat.reduceEqDiff, Nat.reduceLeDiff, Nat.reduceLT, Nat.reduceSub, ↓reduceIte, forall_const, implies_true, ne_eq, reduceCtorEq, Int.reduceToNat, forall_eq, Int.reduceEq, Int.reduceLT, Int.reduceLE, Int.reduceNeg, Int.reduceAdd, Int.reduceSub, *, map_len]; (repeat' (first | intro _ | refine And.intro ?_ ?_))) | skip
            all_goals first | omega | (simp [nodeSB, nodeB, patsB, nameN, onlyKind, firstKind, *]; done) | (have kne : kids ≠ [] := (fun h => by subst h; simp at *); simp [nodeSB, nodeB, hA, kne]; done) | (simp [nodeSB, nodeB, patsB, nameN, onlyKind, firstKind, *]; omega) | trace_state)
      case inr.inr.inr.inr.inr.inr.inr.inr.inr.inr.inr.inr.inr.inr.inr.inr.inl =>
        obtain rfl : nn = 0 := p2 (by decide)
        clear p2 p3' p4'
        have hA : arityK 17 = 1 := rfl
        rw [hA] at CA
        clear hkk
        simp +contextual -dsimp (maxSteps := 2000000) only [↓SD, SU, SB, Nat.reduceAdd, Nat.reduceBEq, Nat.reduceEqDiff, Nat.reduceLeDiff, Nat.reduceLT, Nat.reduceSub, ↓reduceIte, forall_const, implies_true, ne_eq, reduceCtorEq, Int.reduceToNat, forall_eq, Int.reduceEq, Int.reduceLT, Int.reduceLE, Int.reduceNeg, Int.reduceAdd, Int.reduceSub, ir_spec_l04Node, rs_spec_l04Node, av_Node, av_Program, map_len, p1']
        refine aLoop_of (X := Nat) (fun j => ⟨[(2, .obj [.sl (p.types.map av), .sl (p.nodes.map av)]), (3, .obj [.int .i64 17, .int .i64 pos, .int .i64 0, .str s, .sl (kids.map av), .sl (pats.map av)]), (44, .sl (kids.map av)), (45, .int .i64 kids.length), (46, .int .i64 j)], []⟩) (fun j => j ≤ kids.length ∧ (kids.take j).all (inB p.nodes.length) = true) (fun j => kids.length - j) 0 ⟨Nat.zero_le _, rfl⟩ (by simp +contextual -dsimp (maxSteps := 2000000) only [↓SD, SU, SB, Nat.reduceAdd, Nat.reduceBEq, Nat.reduceEqDiff, Nat.reduceLeDiff, Nat.reduceLT, Nat.reduceSub, ↓reduceIte, forall_const, implies_true, ne_eq, reduceCtorEq, Int.reduceToNat, forall_eq]) trivial ?_
        rintro j ⟨hj, hp⟩
        by_cases hjl : j < kids.length
        · have e := getD_map av kids j .top hjl
          have hno : inB p.nodes.length kids[j] = false → nodeSB p.nodes ⟨17, pos, 0, s, kids, pats⟩ = false := fun h => by simp [nodeSB, all_false' _ hjl h]
          have hyes : inB p.nodes.length kids[j] = true → (kids.take (j + 1)).all (inB p.nodes.length) = true := fun h => by rw [all_take' _ hjl hp]; exact h
          generalize kids[j] = x at *
          simp +contextual -dsimp (maxSteps := 2000000) only [↓SD, SU, SB, Nat.reduceAdd, Nat.reduceBEq, Nat.reduceEqDiff, Nat.reduceLeDiff, Nat.reduceLT, Nat.reduceSub, ↓reduceIte, forall_const, implies_true, ne_eq, reduceCtorEq, Int.reduceToNat, forall_eq, map_len, hjl, e, av_int]
          (repeat' (first | intro _ | refine And.intro ?_ ?_))
          all_goals first
            | omega
            | (rw [hno (by simp [inB]; omega)]; done)
            | exact Goes.le ⟨j + 1, ⟨⟨hjl, hyes (by simp [inB]; omega)⟩, (by first | omega | (simp only; omega))⟩, rfl⟩ (by simp +contextual -dsimp (maxSteps := 2000000) only [↓SD, SU, SB, Nat.reduceAdd, Nat.reduceBEq, Nat.reduceEqDiff, Nat.reduceLeDiff, Nat.reduceLT, Nat.reduceSub, ↓reduceIte, forall_const, implies_true, ne_eq, reduceCtorEq, Int.reduceToNat, forall_eq, Int.natCast_add]) trivial
        · obtain rfl : j = kids.length := by omega
          rw [List.take_length] at hp
          rcases pats with _ | ⟨q0, qs⟩ <;>
          ( (try simp only [List.length_cons] at hq)
            simp +contextual -dsimp (maxSteps := 2000000) only [↓SD, SU, SB, Nat.reduceAdd, Nat.reduceBEq, Nat.reduceEqDiff, Nat.reduceLeDiff, Nat.reduceLT, Nat.reduceSub, ↓reduceIte, forall_const, implies_true, ne_eq, reduceCtorEq, Int.reduceToNat, forall_eq, Int.reduceEq, Int.reduceLT, Int.reduceLE, Int.reduceNeg, Int.reduceAdd, Int.reduceSub, map_len, Nat.lt_irrefl, List.length_map]
            (repeat' (first | intro _ | refine And.intro ?_ ?_))
            all_goals first | omega | skip
            all_goals first | (refine aCallK_of _ (specNameOk_ok s (by omega)) ?_; simp +contextual -dsimp (maxSteps := 2000000) only [↓SD, SU, SB, Nat.reduceAdd, Nat.reduceBEq, Nat.reduceEqDiff, Nat.reduceLeDiff, Nat.reduceLT, Nat.reduceSub, ↓reduceIte, forall_const, implies_true, ne_eq, reduceCtorEq, Int.reduceToNat, forall_eq, Int.reduceEq, Int.reduceLT, Int.reduceLE, Int.reduceNeg, Int.reduceAdd, Int.reduceSub, *, map_len]; (repeat' (first | intro _ | refine And.intro ?_ ?_))) | (refine aCallK_of _ (l04Prim_ok s) ?_; simp +contextual -dsimp (maxSteps := 2000000) only [↓SD, SU, SB, Nat.reduceAdd, Nat.reduceBEq, Nat.reduceEqDiff, Nat.reduceLeDiff, Nat.reduceLT, Nat.reduceSub, ↓reduceIte, forall_const, implies_true, ne_eq, reduceCtorEq, Int.reduceToNat, forall_eq, Int.reduceEq, Int.reduceLT, Int.reduceLE, Int.reduceNeg, Int.reduceAdd, Int.reduceSub, *, map_len]; (repeat' (first | intro _ | refine And.intro ?_ ?_))) | skip
            all_goals first | omega | skip
            all_goals first | (refine aCallK_of _ CA ?_; simp +contextual -dsimp (maxSteps := 2000000) only [↓SD, SU, SB, Nat.reduceAdd, Nat.reduceBEq, Nat.reduceEqDiff, Nat.reduceLeDiff, Nat.reduceLT, Nat.reduceSub, ↓reduceIte, forall_const, implies_true, ne_eq, reduceCtorEq, Int.reduceToNat, forall_eq, Int.reduceEq, Int.reduceLT, Int.reduceLE, Int.reduceNeg, Int.reduceAdd, Int.reduceSub, *, map_len]; (repeat' (first | intro _ | refine And.intro ?_ ?_))) | skip
            all_goals first | omega | (simp [nodeSB, nodeB, patsB, nameN, onlyKind, firstKind, *]; done) | (have kne : kids ≠ [] := (fun h => by subst h; simp at *); simp [nodeSB, nodeB, hA, kne]; done) | (simp [nodeSB, nodeB, patsB, nameN, onlyKind, firstKind, *]; omega) | trace_state)
      case inr.inr.inr.inr.inr.inr.inr.inr.inr.inr.inr.inr.inr.inr.inr.inr.inr.inl =>
        obtain rfl : nn = 0 := p2 (by decide)
        clear p2 p3' p4'
        have hA : arityK 18 = 2 := rfl
        rw [hA] at CA
        clear hkk
        simp +contextual -dsimp (maxSteps := 2000000) only [↓SD, SU, SB, Nat.reduceAdd, Nat.reduceBEq, Nat.reduceEqDiff, Nat.reduceLeDiff, Nat.reduceLT, Nat.reduceSub, ↓reduceIte, forall_const, implies_true, ne_eq, reduceCtorEq, Int.reduceToNat, forall_eq, Int.reduceEq, Int.reduceLT, Int.reduceLE, Int.reduceNeg, Int.reduceAdd, Int.reduceSub, ir_spec_l04Node, rs_spec_l04Node, av_Node, av_Program, map_len, p1']
        refine aLoop_of (X := Nat) (fun j => ⟨[(2, .obj [.sl (p.types.map av), .sl (p.nodes.map av)]), (3, .obj [.int .i64 18, .int .i64 pos, .int .i64 0, .str s, .sl (kids.map av), .sl (pats.map av)]), (44, .sl (kids.map av)), (45, .int .i64 kids.length), (46, .int .i64 j)], []⟩) (fun j => j ≤ kids.length ∧ (kids.take j).all (inB p.nodes.length) = true) (fun j => kids.length - j) 0 ⟨Nat.zero_le _, rfl⟩ (by simp +contextual -dsimp (maxSteps := 2000000) only [↓SD, SU, SB, Nat.reduceAdd, Nat.reduceBEq, Nat.reduceEqDiff, Nat.reduceLeDiff, Nat.reduceLT, Nat.reduceSub, ↓reduceIte, forall_const, implies_true, ne_eq, reduceCtorEq, Int.reduceToNat, forall_eq]) trivial ?_
        rintro j ⟨hj, hp⟩
        by_cases hjl : j < kids.length
        · have e := getD_map av kids j .top hjl
          have hno : inB p.nodes.length kids[j] = false → nodeSB p.nodes ⟨18, pos, 0, s, kids, pats⟩ = false := fun h => by simp [nodeSB, all_false' _ hjl h]
          have hyes : inB p.nodes.length kids[j] = true → (kids.take (j + 1)).all (inB p.nodes.length) = true := fun h => by rw [all_take' _ hjl hp]; exact h
          generalize kids[j] = x at *
          simp +contextual -dsimp (maxSteps := 2000000) only [↓SD, SU, SB, Nat.reduceAdd, Nat.reduceBEq, Nat.reduceEqDiff, Nat.reduceLeDiff, Nat.reduceLT, Nat.reduceSub, ↓reduceIte, forall_const, implies_true, ne_eq, reduceCtorEq, Int.reduceToNat, forall_eq, map_len, hjl, e, av_int]
          (repeat' (first | intro _ | refine And.intro ?_ ?_))
          all_goals first
            | omega
            | (rw [hno (by simp [inB]; omega)]; done)
            | exact Goes.le ⟨j + 1, ⟨⟨hjl, hyes (by simp [inB]; omega)⟩, (by first | omega | (simp only; omega))⟩, rfl⟩ (by simp +contextual -dsimp (maxSteps := 2000000) only [↓SD, SU, SB, Nat.reduceAdd, Nat.reduceBEq, Nat.reduceEqDiff, Nat.reduceLeDiff, Nat.reduceLT, Nat.reduceSub, ↓reduceIte, forall_const, implies_true, ne_eq, reduceCtorEq, Int.reduceToNat, forall_eq, Int.natCast_add]) trivial
        · obtain rfl : j = kids.length := by omega
          rw [List.take_length] at hp
          rcases pats with _ | ⟨q0, qs⟩ <;>
          ( (try simp only [List.length_cons] at hq)
            simp +contextual -dsimp (maxSteps := 2000000) only [↓SD, SU, SB, Nat.reduceAdd, Nat.reduceBEq, Nat.reduceEqDiff, Nat.reduceLeDiff, Nat.reduceLT, Nat.reduceSub, ↓reduceIte, forall_const, implies_true, ne_eq, reduceCtorEq, Int.reduceToNat, forall_eq, Int.reduceEq, Int.reduceLT, Int.reduceLE, Int.reduceNeg, Int.reduceAdd, Int.reduceSub, map_len, Nat.lt_irrefl, List.length_map]
            (repeat' (first | intro _ | refine And.intro ?_ ?_))
            all_goals first | omega | skip
            all_goals first | (refine aCallK_of _ (specNameOk_ok s (by omega)) ?_; simp +contextual -dsimp (maxSteps := 2000000) only [↓SD, SU, SB, Nat.reduceAdd, Nat.reduceBEq, Nat.reduceEqDiff, Nat.reduceLeDiff, Nat.reduceLT, Nat.reduceSub, ↓reduceIte, forall_const, implies_true, ne_eq, reduceCtorEq, Int.reduceToNat, forall_eq, Int.reduceEq, Int.reduceLT, Int.reduceLE, Int.reduceNeg, Int.reduceAdd, Int.reduceSub, *, map_len]; (repeat' (first | intro _ | refine And.intro ?_ ?_))) | (refine aCallK_of _ (l04Prim_ok s) ?_; simp +contextual -dsimp (maxSteps := 2000000) only [↓SD, SU, SB, Nat.reduceAdd, Nat.reduceBEq, Nat.reduceEqDiff, Nat.reduceLeDiff, Nat.reduceLT, Nat.reduceSub, ↓reduceIte, forall_const, implies_true, ne_eq, reduceCtorEq, Int.reduceToNat, forall_eq, Int.reduceEq, Int.reduceLT, Int.reduceLE, Int.reduceNeg, Int.reduceAdd, Int.reduceSub, *, map_len]; (repeat' (first | intro _ | refine And.intro ?_ ?_))) | skip
            all_goals first | omega | skip
            all_goals first | (refine aCallK_of _ CA ?_; simp +contextual -dsimp (maxSteps := 2000000) only [↓SD, SU, SB, Nat.reduceAdd, Nat.reduceBEq, Nat.reduceEqDiff, Nat.reduceLeDiff, Nat.reduceLT, Nat.reduceSub, ↓reduceIte, forall_const, implies_true, ne_eq, reduceCtorEq, Int.reduceToNat, forall_eq, Int.reduceEq, Int.reduceLT, Int.reduceLE, Int.reduceNeg, Int.reduceAdd, Int.reduceSub, *, map_len]; (repeat' (first | intro _ | refine And.intro ?_ ?_))) | skip
            all_goals first | omega | (simp [nodeSB, nodeB, patsB, nameN, onlyKind, firstKind, *]; done) | (have kne : kids ≠ [] := (fun h => by subst h; simp at *); simp [nodeSB, nodeB, hA, kne]; done) | (simp [nodeSB, nodeB, patsB, nameN, onlyKind, firstKind, *]; omega) | trace_state)
      case inr.inr.inr.inr.inr.inr.inr.inr.inr.inr.inr.inr.inr.inr.inr.inr.inr.inr =>
        obtain rfl : nn = 0 := p2 (by decide)
        clear p2 p3' p4'
        have hA : arityK 19 = 2 := rfl
        rw [hA] at CA
        clear hkk
        simp +contextual -dsimp (maxSteps := 2000000) only [↓SD, SU, SB, Nat.reduceAdd, Nat.reduceBEq, Nat.reduceEqDiff, Nat.reduceLeDiff, Nat.reduceLT, Nat.reduceSub, ↓reduceIte, forall_const, implies_true, ne_eq, reduceCtorEq, Int.reduceToNat, forall_eq, Int.reduceEq, Int.reduceLT, Int.reduceLE, Int.reduceNeg, Int.reduceAdd, Int.reduceSub, ir_spec_l04Node, rs_spec_l04Node, av_Node, av_Program, map_len, p1']
        refine aLoop_of (X := Nat) (fun j => ⟨[(2, .obj [.sl (p.types.map av), .sl (p.nodes.map av)]), (3, .obj [.int .i64 19, .int .i64 pos, .int .i64 0, .str s, .sl (kids.map av), .sl (pats.map av)]), (44, .sl (kids.map av)), (45, .int .i64 kids.length), (46, .int .i64 j)], []⟩) (fun j => j ≤ kids.length ∧ (kids.take j).all (inB p.nodes.length) = true) (fun j => kids.length - j) 0 ⟨Nat.zero_le _, rfl⟩ (by simp +contextual -dsimp (maxSteps := 2000000) only [↓SD, SU, SB, Nat.reduceAdd, Nat.reduceBEq, Nat.reduceEqDiff, Nat.reduceLeDiff, Nat.reduceLT, Nat.reduceSub, ↓reduceIte, forall_const, implies_true, ne_eq, reduceCtorEq, Int.reduceToNat, forall_eq]) trivial ?_
        rintro j ⟨hj, hp⟩
        by_cases hjl : j < kids.length
        · have e := getD_map av kids j .top hjl
          have hno : inB p.nodes.length kids[j] = false → nodeSB p.nodes ⟨19, pos, 0, s, kids, pats⟩ = false := fun h => by simp [nodeSB, all_false' _ hjl h]
          have hyes : inB p.nodes.length kids[j] = true → (kids.take (j + 1)).all (inB p.nodes.length) = true := fun h => by rw [all_take' _ hjl hp]; exact h
          generalize kids[j] = x at *
          simp +contextual -dsimp (maxSteps := 2000000) only [↓SD, SU, SB, Nat.reduceAdd, Nat.reduceBEq, Nat.reduceEqDiff, Nat.reduceLeDiff, Nat.reduceLT, Nat.reduceSub, ↓reduceIte, forall_const, implies_true, ne_eq, reduceCtorEq, Int.reduceToNat, forall_eq, map_len, hjl, e, av_int]
          (repeat' (first | intro _ | refine And.intro ?_ ?_))
          all_goals first
            | omega
            | (rw [hno (by simp [inB]; omega)]; done)
            | exact Goes.le ⟨j + 1, ⟨⟨hjl, hyes (by simp [inB]; omega)⟩, (by first | omega | (simp only; omega))⟩, rfl⟩ (by simp +contextual -dsimp (maxSteps := 2000000) only [↓SD, SU, SB, Nat.reduceAdd, Nat.reduceBEq, Nat.reduceEqDiff, Nat.reduceLeDiff, Nat.reduceLT, Nat.reduceSub, ↓reduceIte, forall_const, implies_true, ne_eq, reduceCtorEq, Int.reduceToNat, forall_eq, Int.natCast_add]) trivial
        · obtain rfl : j = kids.length := by omega
          rw [List.take_length] at hp
          rcases pats with _ | ⟨q0, qs⟩ <;>
          ( (try simp only [List.length_cons] at hq)
            simp +contextual -dsimp (maxSteps := 2000000) only [↓SD, SU, SB, Nat.reduceAdd, Nat.reduceBEq, Nat.reduceEqDiff, Nat.reduceLeDiff, Nat.reduceLT, Nat.reduceSub, ↓reduceIte, forall_const, implies_true, ne_eq, reduceCtorEq, Int.reduceToNat, forall_eq, Int.reduceEq, Int.reduceLT, Int.reduceLE, Int.reduceNeg, Int.reduceAdd, Int.reduceSub, map_len, Nat.lt_irrefl, List.length_map]
            (repeat' (first | intro _ | refine And.intro ?_ ?_))
            all_goals first | omega | skip
            all_goals first | (refine aCallK_of _ (specNameOk_ok s (by omega)) ?_; simp +contextual -dsimp (maxSteps := 2000000) only [↓SD, SU, SB, Nat.reduceAdd, Nat.reduceBEq, Nat.reduceEqDiff, Nat.reduceLeDiff, Nat.reduceLT, Nat.reduceSub, ↓reduceIte, forall_const, implies_true, ne_eq, reduceCtorEq, Int.reduceToNat, forall_eq, Int.reduceEq, Int.reduceLT, Int.reduceLE, Int.reduceNeg, Int.reduceAdd, Int.reduceSub, *, map_len]; (repeat' (first | intro _ | refine And.intro ?_ ?_))) | (refine aCallK_of _ (l04Prim_ok s) ?_; simp +contextual -dsimp (maxSteps := 2000000) only [↓SD, SU, SB, Nat.reduceAdd, Nat.reduceBEq, Nat.reduceEqDiff, Nat.reduceLeDiff, Nat.reduceLT, Nat.reduceSub, ↓reduceIte, forall_const, implies_true, ne_eq, reduceCtorEq, Int.reduceToNat, forall_eq, Int.reduceEq, Int.reduceLT, Int.reduceLE, Int.reduceNeg, Int.reduceAdd, Int.reduceSub, *, map_len]; (repeat' (first | intro _ | refine And.intro ?_ ?_))) | skip
            all_goals first | omega | skip
            all_goals first | (refine aCallK_of _ CA ?_; simp +contextual -dsimp (maxSteps := 2000000) only [↓SD, SU, SB, Nat.reduceAdd, Nat.reduceBEq, Nat.reduceEqDiff, Nat.reduceLeDiff, Nat.reduceLT, Nat.reduceSub, ↓reduceIte, forall_const, implies_true, ne_eq, reduceCtorEq, Int.reduceToNat, forall_eq, Int.reduceEq, Int.reduceLT, Int.reduceLE, Int.reduceNeg, Int.reduceAdd, Int.reduceSub, *, map_len]; (repeat' (first | intro _ | refine And.intro ?_ ?_))) | skip
            all_goals first | omega | (simp [nodeSB, nodeB, patsB, nameN, onlyKind, firstKind, *]; done) | (have kne : kids ≠ [] := (fun h => by subst h; simp at *); simp [nodeSB, nodeB, hA, kne]; done) | (simp [nodeSB, nodeB, patsB, nameN, onlyKind, firstKind, *]; omega) | trace_state)
    · have hbad : nodeSB p.nodes ⟨kind, pos, nn, s, kids, pats⟩ = false := by
        cases hn : nodeB nameN p.nodes ⟨kind, pos, nn, s, kids, pats⟩ with
        | false => simp [nodeSB, hn]
        | true =>
          exfalso
          apply hpre
          unfold nodeB at hn
          split at hn
          · cases hn
          · rename_i h
            simp only [not_or, ne_eq, not_and, Decidable.not_not] at h
            obtain ⟨h1, h2, h3, h4⟩ := h
            split at hn
            · rename_i hk1
              simp only [Bool.and_eq_true, decide_eq_true_eq] at hn
              refine ⟨by omega, fun h => absurd hk1 h, hn.1.1, hn.1.2⟩
            · rename_i hk1
              try simp only at hk1 h4 h1
              by_cases hk3 : kind = 3
              · rw [if_neg (by simp only; omega), if_pos (by simp only; omega)] at hn
                simp only [nameN, Bool.and_eq_true, decide_eq_true_eq] at hn
                refine ⟨by omega, fun _ => hn.2, by omega, by omega⟩
              · have := h4 hk1 hk3
                refine ⟨by omega, fun _ => this, by omega, by omega⟩
      rw [hbad]
      simp +contextual -dsimp (maxSteps := 2000000) only [↓SD, SU, SB, Nat.reduceAdd, Nat.reduceBEq, Nat.reduceEqDiff, Nat.reduceLeDiff, Nat.reduceLT, Nat.reduceSub, ↓reduceIte, forall_const, implies_true, ne_eq, reduceCtorEq, Int.reduceToNat, forall_eq, Int.reduceEq, Int.reduceLT, Int.reduceLE, Int.reduceNeg, Int.reduceAdd, Int.reduceSub, ir_spec_l04Node, rs_spec_l04Node, av_Node, av_Program, map_len]
      (repeat' (first | intro _ | refine And.intro ?_ ?_))
      all_goals first | rfl | (exfalso; omega) | trace_state
  · obtain ⟨kind, pos, nn, s, kids, pats⟩ := n
    simp only at hkk
    have hbad : nodeSB p.nodes ⟨kind, pos, nn, s, kids, pats⟩ = false := by
      have c1 : ¬ kind = 1 := by omega
      have c2 : ¬ kind = 2 := by omega
      have c3 : ¬ kind = 3 := by omega
      have c4 : ¬ kind = 4 := by omega
      have c5 : ¬ kind = 5 := by omega
      have c6 : ¬ kind = 6 := by omega
      have c7 : ¬ kind = 7 := by omega
      have c8 : ¬ kind = 8 := by omega
      have c9 : ¬ kind = 9 := by omega
      have c10 : ¬ kind = 10 := by omega
      have c11 : ¬ kind = 11 := by omega
      have c12 : ¬ kind = 12 := by omega
      have c13 : ¬ kind = 13 := by omega
      have c14 : ¬ kind = 14 := by omega
      have c15 : ¬ kind = 15 := by omega
      have c16 : ¬ kind = 16 := by omega
      have c17 : ¬ kind = 17 := by omega
      have c18 : ¬ kind = 18 := by omega
      have c19 : ¬ kind = 19 := by omega
      have hn : nodeB nameN p.nodes ⟨kind, pos, nn, s, kids, pats⟩ = false := by simp [nodeB, c1, c2, c3, c4, c5, c6, c7, c8, c9, c10, c11, c12, c13, c14, c15, c16, c17, c18, c19]
      simp [nodeSB, hn]
    rw [hbad]
    by_cases h1 : kind < 1
    · simp +contextual -dsimp (maxSteps := 2000000) only [↓SD, SU, SB, Nat.reduceAdd, Nat.reduceBEq, Nat.reduceEqDiff, Nat.reduceLeDiff, Nat.reduceLT, Nat.reduceSub, ↓reduceIte, forall_const, implies_true, ne_eq, reduceCtorEq, Int.reduceToNat, forall_eq, Int.reduceEq, Int.reduceLT, Int.reduceLE, Int.reduceNeg, Int.reduceAdd, Int.reduceSub, ir_spec_l04Node, rs_spec_l04Node, av_Node, av_Program, map_len, h1]
    · have h2 : (19 : Int) < kind := by omega
      simp +contextual -dsimp (maxSteps := 2000000) only [↓SD, SU, SB, Nat.reduceAdd, Nat.reduceBEq, Nat.reduceEqDiff, Nat.reduceLeDiff, Nat.reduceLT, Nat.reduceSub, ↓reduceIte, forall_const, implies_true, ne_eq, reduceCtorEq, Int.reduceToNat, forall_eq, Int.reduceEq, Int.reduceLT, Int.reduceLE, Int.reduceNeg, Int.reduceAdd, Int.reduceSub, ir_spec_l04Node, rs_spec_l04Node, av_Node, av_Program, map_len, h1, h2]
end Go.Proofs.YtpomnlejlgojaaaGreat
