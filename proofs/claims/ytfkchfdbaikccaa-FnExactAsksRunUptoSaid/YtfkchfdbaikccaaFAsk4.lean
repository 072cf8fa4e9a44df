/-
  AsksOk AND AsksDeep OF THE PROGRAM AND OF THE REFERENCE, by abstract texts. Conditions: none.
-/
import Derived.Test.YtfkchfdbaikccaaFAsk3
import Derived.Test.YtfkchfdbaikccaaAllI
set_option linter.unusedVariables false
set_option linter.unusedSimpArgs false
set_option maxRecDepth 100000
namespace Go.Proofs.Ytfkchfdbaikccaa
open Go.RowKit Go.Proofs.Ytfkchfdbaikccaa.Av Go.Proofs.Ytfkchfdbaikccaa.Ml
open Go.Proofs.Ytfkchfdbaikccaa.Av.AVal (av)

def asksB (l : List Ask) : Bool := allI (fun i => askB (l.getD i default) i l.length) l.length && (decide (1 ≤ (l.length : Int)) && decide ((l.length : Int) ≤ 400))
theorem asksB_no {l : List Ask} {k : Nat} (h : k < l.length) (hb : askB l[k] k l.length = false) : asksB l = false := by
  unfold asksB; rw [allI_false h (by rw [getD_at h]; exact hb)]; rfl
theorem asksB_all {l : List Ask} (h : ∀ k (hk : k < l.length), askB l[k] k l.length = true) : asksB l = (decide (1 ≤ (l.length : Int)) && decide ((l.length : Int) ≤ 400)) := by
  unfold asksB; rw [allI_true (fun i hi => by rw [getD_at hi]; exact h i hi)]; rfl
theorem asksB_at {l : List Ask} (h : asksB l = true) : (∀ k (hk : k < l.length), askB l[k] k l.length = true) ∧ 1 ≤ l.length ∧ l.length ≤ 400 := by
  unfold asksB at h
  simp only [Bool.and_eq_true, decide_eq_true_eq, allI_iff] at h
  exact ⟨fun k hk => by have := h.1 k hk; rwa [getD_at hk] at this, by omega, by omega⟩
theorem asks_path {l : List Ask} (hx : Bulk.bulk l ≤ 1048576) (k : Nat) (hk : k < l.length) : l[k].path.length ≤ 1048576 ∧ l[k].s.size ≤ 1048576 := by
  have h1 := bulk_mem (List.getElem_mem hk)
  have h2 : Bulk.bulk l[k] = Bulk.bulk l[k].arm + Bulk.bulk l[k].path + Bulk.bulk l[k].kind + Bulk.bulk l[k].n + Bulk.bulk l[k].s + Bulk.bulk l[k].has + Bulk.bulk l[k].yes + Bulk.bulk l[k].no + 1 := rfl
  have h3 := bulk_length l[k].path
  have h4 : Bulk.bulk l[k].s = l[k].s.size + 1 := rfl
  omega

theorem implAsksOk_ok (l : List Ask) (hx : Bulk.bulk l ≤ 1048576) : CallsF Try.prog 48 [.agg [.sl (l.map av)]] (.bool (asksB l)) := by
  have hl := bulk_length l
  refine fun_impl_AsksOk rfl (by simp; exact AvPure.agg (by simp; exact lav_clean l)) (AvPure.bool _) ?_
  simp +contextual -dsimp (maxSteps := 2000000) only [↓SD, SU, SB, Nat.reduceAdd, Nat.reduceBEq, Nat.reduceEqDiff, Nat.reduceLeDiff, Nat.reduceLT, Nat.reduceSub, ↓reduceIte, forall_const, implies_true, ne_eq, reduceCtorEq, Int.reduceToNat, forall_eq, ir_impl_AsksOk, rs_impl_AsksOk, map_len]
  refine aLoop_of (X := Nat) (fun k => ⟨[(1, .obj [.sl (l.map av)]), (6, .sl (l.map av)), (7, .int .i64 l.length), (8, .int .i64 k)], []⟩) (fun k => k ≤ l.length ∧ ∀ i (hi : i < l.length), i < k → askB l[i] i l.length = true) (fun k => l.length - k) 0 ⟨Nat.zero_le _, fun i _ h => absurd h (by omega)⟩ (by simp +contextual -dsimp (maxSteps := 2000000) only [↓SD, SU, SB, Nat.reduceAdd, Nat.reduceBEq, Nat.reduceEqDiff, Nat.reduceLeDiff, Nat.reduceLT, Nat.reduceSub, ↓reduceIte, forall_const, implies_true, ne_eq, reduceCtorEq, Int.reduceToNat, forall_eq]) trivial ?_
  intro k ⟨hk, hp⟩
  by_cases hlt : k < l.length
  · have e := getD_map av l k .top hlt
    have hb := asks_path hx k hlt
    have C := askOk_ok l[k] k l.length (by omega) (by omega) (by omega) (by omega) (by omega)
    rw [av_Ask] at C
    simp +contextual -dsimp (maxSteps := 2000000) only [↓SD, SU, SB, Nat.reduceAdd, Nat.reduceBEq, Nat.reduceEqDiff, Nat.reduceLeDiff, Nat.reduceLT, Nat.reduceSub, ↓reduceIte, forall_const, implies_true, ne_eq, reduceCtorEq, Int.reduceToNat, forall_eq, map_len, hlt, e, av_Ask]
    intro v
    refine aCallK_of _ C ?_
    simp +contextual -dsimp (maxSteps := 2000000) only [↓SD, SU, SB, Nat.reduceAdd, Nat.reduceBEq, Nat.reduceEqDiff, Nat.reduceLeDiff, Nat.reduceLT, Nat.reduceSub, ↓reduceIte, forall_const, implies_true, ne_eq, reduceCtorEq, Int.reduceToNat, forall_eq]
    refine ⟨fun h => by rw [asksB_no hlt h], fun h => ⟨by omega, Goes.le ⟨k + 1, ⟨⟨hlt, fun i hi hik => ?_⟩, (by first | omega | (simp only; omega))⟩, rfl⟩ (by simp +contextual -dsimp (maxSteps := 2000000) only [↓SD, SU, SB, Nat.reduceAdd, Nat.reduceBEq, Nat.reduceEqDiff, Nat.reduceLeDiff, Nat.reduceLT, Nat.reduceSub, ↓reduceIte, forall_const, implies_true, ne_eq, reduceCtorEq, Int.reduceToNat, forall_eq, Int.natCast_add]) trivial⟩⟩
    rcases Nat.lt_succ_iff_lt_or_eq.1 hik with h1 | rfl
    · exact hp i hi h1
    · exact h
  · obtain rfl : k = l.length := by omega
    simp +contextual -dsimp (maxSteps := 2000000) only [↓SD, SU, SB, Nat.reduceAdd, Nat.reduceBEq, Nat.reduceEqDiff, Nat.reduceLeDiff, Nat.reduceLT, Nat.reduceSub, ↓reduceIte, forall_const, implies_true, ne_eq, reduceCtorEq, Int.reduceToNat, forall_eq, map_len, Nat.lt_irrefl]
    refine aCallK_of _ (within_ok _ _ _) ?_
    simp +contextual -dsimp (maxSteps := 2000000) only [↓SD, SU, SB, Nat.reduceAdd, Nat.reduceBEq, Nat.reduceEqDiff, Nat.reduceLeDiff, Nat.reduceLT, Nat.reduceSub, ↓reduceIte, forall_const, implies_true, ne_eq, reduceCtorEq, Int.reduceToNat, forall_eq, asksB_all (fun i hi => hp i hi hi)]

theorem specAsksOk_ok (l : List Ask) (hx : Bulk.bulk l ≤ 1048576) : CallsF Try.prog 43 [.agg [.sl (l.map av)]] (.bool (asksB l)) := by
  have hl := bulk_length l
  refine fun_spec_AsksOk rfl (by simp; exact AvPure.agg (by simp; exact lav_clean l)) (AvPure.bool _) ?_
  simp +contextual -dsimp (maxSteps := 2000000) only [↓SD, SU, SB, Nat.reduceAdd, Nat.reduceBEq, Nat.reduceEqDiff, Nat.reduceLeDiff, Nat.reduceLT, Nat.reduceSub, ↓reduceIte, forall_const, implies_true, ne_eq, reduceCtorEq, Int.reduceToNat, forall_eq, ir_spec_AsksOk, rs_spec_AsksOk, map_len]
  have small : ¬ (1 ≤ (l.length : Int) ∧ (l.length : Int) ≤ 400) → asksB l = false := by
    intro h
    cases hb : asksB l with
    | false => rfl
    | true => have := asksB_at hb; omega
  refine ⟨fun h1 => ⟨fun h2 => by rw [small (by omega)], fun h2 => ?_⟩, fun h1 => by rw [small (by omega)]⟩
  refine aLoop_of (X := Nat) (fun k => ⟨[(1, .obj [.sl (l.map av)]), (16, .int .i64 l.length), (17, .int .i64 k)], []⟩) (fun k => k ≤ l.length ∧ ∀ i (hi : i < l.length), i < k → askB l[i] i l.length = true) (fun k => l.length - k) 0 ⟨Nat.zero_le _, fun i _ h => absurd h (by omega)⟩ (by simp +contextual -dsimp (maxSteps := 2000000) only [↓SD, SU, SB, Nat.reduceAdd, Nat.reduceBEq, Nat.reduceEqDiff, Nat.reduceLeDiff, Nat.reduceLT, Nat.reduceSub, ↓reduceIte, forall_const, implies_true, ne_eq, reduceCtorEq, Int.reduceToNat, forall_eq]) trivial ?_
  intro k ⟨hk, hp⟩
  by_cases hlt : k < l.length
  · have hb := asks_path hx k hlt
    have C := l17Ask_ok l k hlt (by omega) (by omega) (by omega)
    simp +contextual -dsimp (maxSteps := 2000000) only [↓SD, SU, SB, Nat.reduceAdd, Nat.reduceBEq, Nat.reduceEqDiff, Nat.reduceLeDiff, Nat.reduceLT, Nat.reduceSub, ↓reduceIte, forall_const, implies_true, ne_eq, reduceCtorEq, Int.reduceToNat, forall_eq, map_len, hlt]
    refine aCallK_of _ C ?_
    simp +contextual -dsimp (maxSteps := 2000000) only [↓SD, SU, SB, Nat.reduceAdd, Nat.reduceBEq, Nat.reduceEqDiff, Nat.reduceLeDiff, Nat.reduceLT, Nat.reduceSub, ↓reduceIte, forall_const, implies_true, ne_eq, reduceCtorEq, Int.reduceToNat, forall_eq]
    refine ⟨fun h => by rw [asksB_no hlt h], fun h => ⟨by omega, Goes.le ⟨k + 1, ⟨⟨hlt, fun i hi hik => ?_⟩, (by first | omega | (simp only; omega))⟩, rfl⟩ (by simp +contextual -dsimp (maxSteps := 2000000) only [↓SD, SU, SB, Nat.reduceAdd, Nat.reduceBEq, Nat.reduceEqDiff, Nat.reduceLeDiff, Nat.reduceLT, Nat.reduceSub, ↓reduceIte, forall_const, implies_true, ne_eq, reduceCtorEq, Int.reduceToNat, forall_eq, Int.natCast_add]) trivial⟩⟩
    rcases Nat.lt_succ_iff_lt_or_eq.1 hik with h1 | rfl
    · exact hp i hi h1
    · exact h
  · obtain rfl : k = l.length := by omega
    simp +contextual -dsimp (maxSteps := 2000000) only [↓SD, SU, SB, Nat.reduceAdd, Nat.reduceBEq, Nat.reduceEqDiff, Nat.reduceLeDiff, Nat.reduceLT, Nat.reduceSub, ↓reduceIte, forall_const, implies_true, ne_eq, reduceCtorEq, Int.reduceToNat, forall_eq, map_len, Nat.lt_irrefl]
    rw [asksB_all (fun i hi => hp i hi hi), decide_eq_true (by omega), decide_eq_true (by omega)]
    rfl

end Go.Proofs.Ytfkchfdbaikccaa
