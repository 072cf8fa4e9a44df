/-
  TESTS OF PATHS, by abstract texts. Conditions: none.
-/
import Derived.Test.YtfkchfdbaikccaaGAsk
import Derived.Test.YtfkchfdbaikccaaIrAsks
import Derived.Test.YtfkchfdbaikccaaWords
set_option linter.unusedVariables false
set_option linter.unusedSimpArgs false
set_option maxRecDepth 100000
namespace Go.Proofs.Ytfkchfdbaikccaa
open Go.RowKit Go.Proofs.Ytfkchfdbaikccaa.Av Go.Proofs.Ytfkchfdbaikccaa.Ml
open Go.Proofs.Ytfkchfdbaikccaa.Av.AVal (av)

theorem l17Kids_ok (b : Bool) : CallsF Try.prog 117 [.bool b] (.int .i64 (if b then 1 else 0)) := by
  refine fun_spec_l17Kids rfl (by simp; exact AvPure.bool _) (pint _) ?_
  simp +contextual -dsimp (maxSteps := 2000000) only [↓SD, SU, SB, Nat.reduceAdd, Nat.reduceBEq, Nat.reduceEqDiff, Nat.reduceLeDiff, Nat.reduceLT, Nat.reduceSub, ↓reduceIte, forall_const, implies_true, ne_eq, reduceCtorEq, Int.reduceToNat, forall_eq, ir_spec_l17Kids, rs_spec_l17Kids]
  (repeat' (first | intro _ | refine And.intro ?_ ?_))
  all_goals (rename_i h; simp [h])

/-- a step of a path that is none -/
def badK (k : Int) : Bool := !decide (k = 0) && !decide (k = 1)
theorem askOk1_ok (k : Int) : CallsF Try.prog 121 [.int .i64 k] (.bool (badK k)) := by
  refine fun_impl_askOk_1 rfl (by simp; exact pint _) (AvPure.bool _) ?_
  simp +contextual -dsimp (maxSteps := 2000000) only [↓SD, SU, SB, Nat.reduceAdd, Nat.reduceBEq, Nat.reduceEqDiff, Nat.reduceLeDiff, Nat.reduceLT, Nat.reduceSub, ↓reduceIte, forall_const, implies_true, ne_eq, reduceCtorEq, Int.reduceToNat, forall_eq, ir_impl_askOk_1, rs_impl_askOk_1]
  (repeat' (first | intro _ | refine And.intro ?_ ?_))
  all_goals (simp [badK, *]; done)

theorem IndexFuncInt_ok (l : List Int) (hl : l.length ≤ 1099511627776) :
    CallsF Try.prog 144 [.sl (l.map av), .fn 121 []] (.int .i64 (indexOf l badK)) := by
  refine fun_slices_IndexFunc_int_int rfl (by simp; exact ⟨lav_clean l, AvPure.fn (by simp)⟩) (AvPure.int _ _) ?_
  simp +contextual -dsimp (maxSteps := 2000000) only [↓SD, SU, SB, Nat.reduceAdd, Nat.reduceBEq, Nat.reduceEqDiff, Nat.reduceLeDiff, Nat.reduceLT, Nat.reduceSub, ↓reduceIte, forall_const, implies_true, ne_eq, reduceCtorEq, Int.reduceToNat, forall_eq, ir_slices_IndexFunc_int_int, rs_slices_IndexFunc_int_int]
  refine aLoop_of (X := Nat) (fun k => ⟨[(0, .sl (l.map av)), (1, .fn 121 []), (7, .int .i64 l.length), (8, .int .i64 k)], []⟩) (fun k => k ≤ l.length ∧ (l.take k).all (fun x => !badK x) = true) (fun k => l.length - k) 0 ⟨Nat.zero_le _, rfl⟩ (by simp +contextual -dsimp (maxSteps := 2000000) only [↓SD, SU, SB, Nat.reduceAdd, Nat.reduceBEq, Nat.reduceEqDiff, Nat.reduceLeDiff, Nat.reduceLT, Nat.reduceSub, ↓reduceIte, forall_const, implies_true, ne_eq, reduceCtorEq, Int.reduceToNat, forall_eq, map_len]) trivial ?_
  intro k ⟨hk, hpk⟩
  by_cases hlt : k < l.length
  · have e := getD_map (av (α := Int)) l k .top hlt
    simp +contextual -dsimp (maxSteps := 2000000) only [↓SD, SU, SB, Nat.reduceAdd, Nat.reduceBEq, Nat.reduceEqDiff, Nat.reduceLeDiff, Nat.reduceLT, Nat.reduceSub, ↓reduceIte, forall_const, implies_true, ne_eq, reduceCtorEq, Int.reduceToNat, forall_eq, map_len, e, av_int, hlt]
    refine aCallK_of _ (askOk1_ok l[k]) ?_
    simp +contextual -dsimp (maxSteps := 2000000) only [↓SD, SU, SB, Nat.reduceAdd, Nat.reduceBEq, Nat.reduceEqDiff, Nat.reduceLeDiff, Nat.reduceLT, Nat.reduceSub, ↓reduceIte, forall_const, implies_true, ne_eq, reduceCtorEq, Int.reduceToNat, forall_eq]
    refine ⟨fun h1 => by rw [indexOf_at hlt hpk h1], fun h1 => ⟨by omega, ?_⟩⟩
    exact Goes.le ⟨k + 1, ⟨⟨hlt, by rw [all_take' _ hlt hpk, h1]; rfl⟩, (by first | omega | (simp only; omega))⟩, rfl⟩ (by simp +contextual -dsimp (maxSteps := 2000000) only [↓SD, SU, SB, Nat.reduceAdd, Nat.reduceBEq, Nat.reduceEqDiff, Nat.reduceLeDiff, Nat.reduceLT, Nat.reduceSub, ↓reduceIte, forall_const, implies_true, ne_eq, reduceCtorEq, Int.reduceToNat, forall_eq, Int.natCast_add]) trivial
  · obtain rfl : k = l.length := by omega
    rw [List.take_length] at hpk
    simp +contextual -dsimp (maxSteps := 2000000) only [↓SD, SU, SB, Nat.reduceAdd, Nat.reduceBEq, Nat.reduceEqDiff, Nat.reduceLeDiff, Nat.reduceLT, Nat.reduceSub, ↓reduceIte, forall_const, implies_true, ne_eq, reduceCtorEq, Int.reduceToNat, forall_eq, map_len, Nat.lt_irrefl, indexOf_none hpk]

theorem ContainsFuncInt_ok (l : List Int) (hl : l.length ≤ 1099511627776) :
    CallsF Try.prog 120 [.sl (l.map av), .fn 121 []] (.bool (l.any badK)) := by
  refine fun_slices_ContainsFunc_int_int rfl (by simp; exact ⟨lav_clean l, AvPure.fn (by simp)⟩) (AvPure.bool _) ?_
  simp +contextual -dsimp (maxSteps := 2000000) only [↓SD, SU, SB, Nat.reduceAdd, Nat.reduceBEq, Nat.reduceEqDiff, Nat.reduceLeDiff, Nat.reduceLT, Nat.reduceSub, ↓reduceIte, forall_const, implies_true, ne_eq, reduceCtorEq, Int.reduceToNat, forall_eq, ir_slices_ContainsFunc_int_int, rs_slices_ContainsFunc_int_int]
  refine aCallK_of _ (IndexFuncInt_ok l hl) ?_
  simp +contextual -dsimp (maxSteps := 2000000) only [↓SD, SU, SB, Nat.reduceAdd, Nat.reduceBEq, Nat.reduceEqDiff, Nat.reduceLeDiff, Nat.reduceLT, Nat.reduceSub, ↓reduceIte, forall_const, implies_true, ne_eq, reduceCtorEq, Int.reduceToNat, forall_eq, indexOf_neg]

end Go.Proofs.Ytfkchfdbaikccaa
