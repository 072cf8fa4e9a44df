/-
  NUMBERS THAT FIT, of the reference, by its abstract text. Conditions: none.
-/
import Derived.Test.YtfdkgbejhdmpbaaPackT
set_option linter.unusedVariables false
set_option linter.unusedSimpArgs false
set_option maxRecDepth 100000
namespace Go.Proofs.Ytfdkgbejhdmpbaa
open Go.RowKit Go.Proofs.Ytfdkgbejhdmpbaa.Av Go.Proofs.Ytfdkgbejhdmpbaa.Ml
open Go.Proofs.Ytfdkgbejhdmpbaa.Av.AVal (av)

theorem wrapN_id (n : Int) (h : -9223372036854775808 ≤ n ∧ n ≤ 9223372036854775807) : (IntKind.i64.wrap (n * 2) / 2 = n) ↔ (-4611686018427387904 ≤ n ∧ n ≤ 4611686018427387903) := by
  rw [IntKind.wrap_i64]
  omega
/-- what comes back is the number just if it fits -/
theorem wrapN_ok (n : Int) (h : -9223372036854775808 ≤ n ∧ n ≤ 9223372036854775807) : ∃ m, CallsF Try.prog 49 [.int .i64 n] (.int .i64 m) ∧ (m = n ↔ (-4611686018427387904 ≤ n ∧ n ≤ 4611686018427387903)) := by
  refine ⟨IntKind.i64.wrap (n * 2) / 2, ?_, wrapN_id n h⟩
  refine fun_spec_Wrap rfl (by simp; exact pint _) (pint _) ?_
  have e0 : IntKind.i64.bits = 64 := rfl
  have e1 : min 1 IntKind.i64.bits = 1 := rfl
  have e2 : ∀ x : Int, x.fdiv (2 ^ 1) = x / 2 := fun x => by rw [Int.fdiv_eq_ediv_of_nonneg _ (by decide)]; rfl
  have e3 : n * 2 ^ 1 = n * 2 := rfl
  simp +contextual -dsimp (maxSteps := 2000000) only [↓SD, SU, SB, Nat.reduceAdd, Nat.reduceBEq, Nat.reduceEqDiff, Nat.reduceLeDiff, Nat.reduceLT, Nat.reduceSub, ↓reduceIte, zA, zI, zN, reduceCtorEq, Int.reduceToNat, zE, Int.reduceEq, Int.reduceLT, Int.reduceLE, Int.reduceNeg, Int.reduceAdd, Int.reduceSub, ir_spec_Wrap, rs_spec_Wrap, e1, e2, e3]
  rw [IntKind.wrap_i64]
  omega
end Go.Proofs.Ytfdkgbejhdmpbaa
