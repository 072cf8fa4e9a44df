/-
  THE TWO AsksOk, by abstract texts. Conditions: none.
-/
import Derived.Test.YtfkchfdbaikccaaFAsk2
set_option linter.unusedVariables false
set_option linter.unusedSimpArgs false
set_option maxRecDepth 100000
namespace Go.Proofs.Ytfkchfdbaikccaa
open Go.RowKit Go.Proofs.Ytfkchfdbaikccaa.Av Go.Proofs.Ytfkchfdbaikccaa.Ml
open Go.Proofs.Ytfkchfdbaikccaa.Av.AVal (av)

/-- whether a node that asks is right by its kind -/
def kindB (a : Ask) : Bool :=
  if a.kind = 3 then decide (a.s = bs []) && !a.has && (decide (-4611686018427387903 ≤ a.n) && decide (a.n ≤ 4611686018427387903))
  else if a.kind = 6 ∨ a.kind = 5 then decide (a.s = bs []) && !a.has && decide (a.n = 0)
  else if a.kind = 4 then decide (a.n = 0) && shapeB a.s (if a.has then 1 else 0) true
  else false
/-- whether the node at i of n nodes is right -/
def askB (a : Ask) (i n : Int) : Bool :=
  if a.kind = 0 then decide (-1 ≤ a.arm) && decide (a.path.length = 0) && decide (a.n = 0) && decide (a.s = bs []) && !a.has && decide (a.yes = 0) && decide (a.no = 0)
  else !a.path.any badK && kindB a && decide (a.arm = 0) && (decide (i + 1 ≤ a.yes) && decide (a.yes ≤ n - 1)) && (decide (i + 1 ≤ a.no) && decide (a.no ≤ n - 1))

set_option maxHeartbeats 2000000 in
theorem askOk_ok (a : Ask) (i n : Int) (hl : a.path.length ≤ 1099511627776) (hs : a.s.size ≤ 1099511627776) (h0 : 0 ≤ i) (h1 : i < n) (h2 : n ≤ 1048576) : CallsF Try.prog 87 [av a, .int .i64 i, .int .i64 n] (.bool (askB a i n)) := by
  refine fun_impl_askOk rfl (by simp; exact ⟨AVal.clean a, pint _, pint _⟩) (AvPure.bool _) ?_
  simp +contextual -dsimp (maxSteps := 2000000) only [↓SD, SU, SB, Nat.reduceAdd, Nat.reduceBEq, Nat.reduceEqDiff, Nat.reduceLeDiff, Nat.reduceLT, Nat.reduceSub, ↓reduceIte, forall_const, implies_true, ne_eq, reduceCtorEq, Int.reduceToNat, forall_eq, ir_impl_askOk, rs_impl_askOk, av_Ask]
  obtain ⟨arm, path, kind, n', t, has, yes, no⟩ := a
  simp only at hl hs ⊢
  have C := ContainsFuncInt_ok path hl
  cases hp : path.any badK
  case true =>
    rw [hp] at C
    refine aCallK_of _ C ?_
    simp +contextual -dsimp (maxSteps := 2000000) only [↓SD, SU, SB, Nat.reduceAdd, Nat.reduceBEq, Nat.reduceEqDiff, Nat.reduceLeDiff, Nat.reduceLT, Nat.reduceSub, ↓reduceIte, forall_const, implies_true, ne_eq, reduceCtorEq, Int.reduceToNat, forall_eq]
    by_cases hk : kind = 0
    · have : ¬ path = [] := fun e => by rw [e] at hp; simp at hp
      simp [askB, hk, this]
    · simp [askB, hk, hp]
  case false =>
    rw [hp] at C
    refine aCallK_of _ C ?_
    simp +contextual -dsimp (maxSteps := 2000000) only [↓SD, SU, SB, Nat.reduceAdd, Nat.reduceBEq, Nat.reduceEqDiff, Nat.reduceLeDiff, Nat.reduceLT, Nat.reduceSub, ↓reduceIte, forall_const, implies_true, ne_eq, reduceCtorEq, Int.reduceToNat, forall_eq, map_len]
    (repeat' (first | intro _ | refine And.intro ?_ ?_))
    all_goals first | omega | skip
    all_goals first | (refine aCallK_of _ (within_ok _ _ _) ?_; simp +contextual -dsimp (maxSteps := 2000000) only [↓SD, SU, SB, Nat.reduceAdd, Nat.reduceBEq, Nat.reduceEqDiff, Nat.reduceLeDiff, Nat.reduceLT, Nat.reduceSub, ↓reduceIte, forall_const, implies_true, ne_eq, reduceCtorEq, Int.reduceToNat, forall_eq, *]; (repeat' (first | intro _ | refine And.intro ?_ ?_))) | (refine aCallK_of _ (conShape_ok _ _ _ hs) ?_; simp +contextual -dsimp (maxSteps := 2000000) only [↓SD, SU, SB, Nat.reduceAdd, Nat.reduceBEq, Nat.reduceEqDiff, Nat.reduceLeDiff, Nat.reduceLT, Nat.reduceSub, ↓reduceIte, forall_const, implies_true, ne_eq, reduceCtorEq, Int.reduceToNat, forall_eq, *]; (repeat' (first | intro _ | refine And.intro ?_ ?_))) | skip
    all_goals first | omega | skip
    all_goals first | (refine aCallK_of _ (within_ok _ _ _) ?_; simp +contextual -dsimp (maxSteps := 2000000) only [↓SD, SU, SB, Nat.reduceAdd, Nat.reduceBEq, Nat.reduceEqDiff, Nat.reduceLeDiff, Nat.reduceLT, Nat.reduceSub, ↓reduceIte, forall_const, implies_true, ne_eq, reduceCtorEq, Int.reduceToNat, forall_eq, *]; (repeat' (first | intro _ | refine And.intro ?_ ?_))) | (refine aCallK_of _ (conShape_ok _ _ _ hs) ?_; simp +contextual -dsimp (maxSteps := 2000000) only [↓SD, SU, SB, Nat.reduceAdd, Nat.reduceBEq, Nat.reduceEqDiff, Nat.reduceLeDiff, Nat.reduceLT, Nat.reduceSub, ↓reduceIte, forall_const, implies_true, ne_eq, reduceCtorEq, Int.reduceToNat, forall_eq, *]; (repeat' (first | intro _ | refine And.intro ?_ ?_))) | skip
    all_goals first | omega | skip
    all_goals first | (refine aCallK_of _ (within_ok _ _ _) ?_; simp +contextual -dsimp (maxSteps := 2000000) only [↓SD, SU, SB, Nat.reduceAdd, Nat.reduceBEq, Nat.reduceEqDiff, Nat.reduceLeDiff, Nat.reduceLT, Nat.reduceSub, ↓reduceIte, forall_const, implies_true, ne_eq, reduceCtorEq, Int.reduceToNat, forall_eq, *]; (repeat' (first | intro _ | refine And.intro ?_ ?_))) | (refine aCallK_of _ (conShape_ok _ _ _ hs) ?_; simp +contextual -dsimp (maxSteps := 2000000) only [↓SD, SU, SB, Nat.reduceAdd, Nat.reduceBEq, Nat.reduceEqDiff, Nat.reduceLeDiff, Nat.reduceLT, Nat.reduceSub, ↓reduceIte, forall_const, implies_true, ne_eq, reduceCtorEq, Int.reduceToNat, forall_eq, *]; (repeat' (first | intro _ | refine And.intro ?_ ?_))) | skip
    all_goals first | omega | skip
    all_goals first | (simp [askB, kindB, *]; done) | (simp_all [askB, kindB]; done)

set_option maxHeartbeats 2000000 in
theorem l17Ask_ok (l : List Ask) (i : Nat) (hi : i < l.length) (hn : l.length ≤ 1048576) (hl : l[i].path.length ≤ 1099511627776) (hs : l[i].s.size ≤ 1099511627776) : CallsF Try.prog 81 [.agg [lav l], .int .i64 i] (.bool (askB l[i] i l.length)) := by
  have hp : AvPure (.agg [lav l]) := AvPure.agg (by simp; exact lav_clean l)
  refine fun_spec_l17Ask rfl (by simp; exact ⟨hp, pint _⟩) (AvPure.bool _) ?_
  have e := getD_map (av (α := Ask)) l i .top hi
  simp +contextual -dsimp (maxSteps := 2000000) only [↓SD, SU, SB, Nat.reduceAdd, Nat.reduceBEq, Nat.reduceEqDiff, Nat.reduceLeDiff, Nat.reduceLT, Nat.reduceSub, ↓reduceIte, forall_const, implies_true, ne_eq, reduceCtorEq, Int.reduceToNat, forall_eq, ir_spec_l17Ask, rs_spec_l17Ask, lav, map_len, e, av_Ask, hi]
  generalize hA : l[i] = A at *
  obtain ⟨arm, path, kind, n', t, has, yes, no⟩ := A
  simp only at hl hs ⊢
  (repeat' (first | intro _ | refine And.intro ?_ ?_))
  all_goals first | omega | skip
  all_goals first | (simp [askB, *]; done) | skip
  all_goals first | (simp_all [askB]; done) | skip
  all_goals first | (simp [askB, *]; intros; omega) | skip
  rename_i v g0 g1 g2 g3 g4 g5
  refine aLoop_of (X := Nat) (fun k => ⟨[(82, .sl (path.map av)), (83, .int .i64 path.length), (84, .int .i64 k), (5, .ptr 5 v 0 0)], [(5, ⟨v, false, 81, 8, [.agg [.int .i64 0, .sl (path.map av), .int .i64 kind, .int .i64 n', .str t, .bool has, .int .i64 yes, .int .i64 no]]⟩)]⟩) (fun k => k ≤ path.length ∧ (path.take k).all (fun x => !badK x) = true) (fun k => path.length - k) 0 ⟨Nat.zero_le _, rfl⟩ (by simp +contextual -dsimp (maxSteps := 2000000) only [↓SD, SU, SB, Nat.reduceAdd, Nat.reduceBEq, Nat.reduceEqDiff, Nat.reduceLeDiff, Nat.reduceLT, Nat.reduceSub, ↓reduceIte, forall_const, implies_true, ne_eq, reduceCtorEq, Int.reduceToNat, forall_eq, map_len]) (by simp +contextual -dsimp (maxSteps := 2000000) only [↓SD, SU, SB, Nat.reduceAdd, Nat.reduceBEq, Nat.reduceEqDiff, Nat.reduceLeDiff, Nat.reduceLT, Nat.reduceSub, ↓reduceIte, forall_const, implies_true, ne_eq, reduceCtorEq, Int.reduceToNat, forall_eq]) ?_
  intro k ⟨hk, hpk⟩
  by_cases hlt : k < path.length
  · have e := getD_map (av (α := Int)) path k .top hlt
    simp +contextual -dsimp (maxSteps := 2000000) only [↓SD, SU, SB, Nat.reduceAdd, Nat.reduceBEq, Nat.reduceEqDiff, Nat.reduceLeDiff, Nat.reduceLT, Nat.reduceSub, ↓reduceIte, forall_const, implies_true, ne_eq, reduceCtorEq, Int.reduceToNat, forall_eq, map_len, e, av_int, hlt]
    (repeat' (first | intro _ | refine And.intro ?_ ?_))
    all_goals first
      | omega
      | exact Goes.le ⟨k + 1, ⟨⟨hlt, by rw [all_take' _ hlt hpk]; simp [badK]; omega⟩, (by first | omega | (simp only; omega))⟩, rfl⟩ (by simp +contextual -dsimp (maxSteps := 2000000) only [↓SD, SU, SB, Nat.reduceAdd, Nat.reduceBEq, Nat.reduceEqDiff, Nat.reduceLeDiff, Nat.reduceLT, Nat.reduceSub, ↓reduceIte, forall_const, implies_true, ne_eq, reduceCtorEq, Int.reduceToNat, forall_eq, Int.natCast_add]) (by simp +contextual -dsimp (maxSteps := 2000000) only [↓SD, SU, SB, Nat.reduceAdd, Nat.reduceBEq, Nat.reduceEqDiff, Nat.reduceLeDiff, Nat.reduceLT, Nat.reduceSub, ↓reduceIte, forall_const, implies_true, ne_eq, reduceCtorEq, Int.reduceToNat, forall_eq])
      | (have hb : path.any badK = true := List.any_eq_true.2 ⟨path[k], List.getElem_mem hlt, by simp [badK]; omega⟩
         simp [askB, g0, hb]; done)
  · obtain rfl : k = path.length := by omega
    rw [List.take_length] at hpk
    have hb : path.any badK = false := by rw [List.any_eq_false]; intro x hx; simpa using List.all_eq_true.1 hpk x hx
    have y1 : (i : Int) + 1 ≤ yes := by omega
    have y2 : yes ≤ (l.length : Int) - 1 := by omega
    have y3 : (i : Int) + 1 ≤ no := by omega
    have y4 : no ≤ (l.length : Int) - 1 := by omega
    simp +contextual -dsimp (maxSteps := 2000000) only [↓SD, SU, SB, Nat.reduceAdd, Nat.reduceBEq, Nat.reduceEqDiff, Nat.reduceLeDiff, Nat.reduceLT, Nat.reduceSub, ↓reduceIte, forall_const, implies_true, ne_eq, reduceCtorEq, Int.reduceToNat, forall_eq, map_len, Nat.lt_irrefl, g0]
    (repeat' (first | intro _ | refine And.intro ?_ ?_))
    all_goals first | (refine aCallK_of _ (l17Kids_ok _) ?_; simp +contextual -dsimp (maxSteps := 2000000) only [↓SD, SU, SB, Nat.reduceAdd, Nat.reduceBEq, Nat.reduceEqDiff, Nat.reduceLeDiff, Nat.reduceLT, Nat.reduceSub, ↓reduceIte, forall_const, implies_true, ne_eq, reduceCtorEq, Int.reduceToNat, forall_eq, *]; refine aCallK_of _ (l04ConOk_ok _ _ _ hs) ?_; simp +contextual -dsimp (maxSteps := 2000000) only [↓SD, SU, SB, Nat.reduceAdd, Nat.reduceBEq, Nat.reduceEqDiff, Nat.reduceLeDiff, Nat.reduceLT, Nat.reduceSub, ↓reduceIte, forall_const, implies_true, ne_eq, reduceCtorEq, Int.reduceToNat, forall_eq, *]; (repeat' (first | intro _ | refine And.intro ?_ ?_))) | skip
    all_goals first | (simp [askB, kindB, hb, *]; done) | (simp [askB, kindB, hb, *]; omega) | (simp_all [askB, kindB]; done) | (simp_all [askB, kindB]; omega)

end Go.Proofs.Ytfkchfdbaikccaa
