/-
  THE LAW FnExactFirstHit, by its abstract text: it returns true. Conditions: the arguments' bulk is at most 1048576. Printed by avwalk.py.
-/
import Derived.Test.YtfdkgbejhdmpbaaPackG
import Derived.Test.YtfdkgbejhdmpbaaHitS
import Derived.Test.YtfdkgbejhdmpbaaDRange
import Derived.Test.YtfdkgbejhdmpbaaIrLFirst
set_option linter.unusedVariables false
set_option linter.unusedSimpArgs false
set_option maxRecDepth 100000
namespace Go.Proofs.Ytfdkgbejhdmpbaa
open Go.RowKit Go.Proofs.Ytfdkgbejhdmpbaa.Av Go.Proofs.Ytfdkgbejhdmpbaa.Ml
open Go.Proofs.Ytfdkgbejhdmpbaa.Av.AVal (av)


set_option maxHeartbeats 1000000 in
theorem lawFirstHit_ok (l0 : List Pat) (hk0 : Bulk.bulk l0 ≤ 1048576) (y1 : Data) (hk1 : Bulk.bulk y1 ≤ 1048576) : CallsF Try.prog 3 [.sl (l0.map av), av y1] (.bool true) := by
  have hl0 := bulk_length l0
  have hb1 : Bulk.bulk y1.nodes + 1 ≤ 1048576 := hk1
  refine callsF_given (∀ n ∈ y1.nodes, -9223372036854775808 ≤ n.n ∧ n.n ≤ 9223372036854775807) (by kernel_rfl) (by simp; exact ⟨lav_clean l0, AVal.clean y1⟩) (fun S w vs h => ?_) (fun hq => ?_)
  · obtain ⟨_, h1⟩ := vrs_at h (i := 1) rfl
    exact data_range h1
  refine fun_laws_FnExactFirstHit rfl (by simp; exact ⟨lav_clean l0, AVal.clean y1⟩) (AvPure.bool _) ?_
  have T0 := toPatS_ok l0 hk0
  have E0 := eqPatS_ok l0 hk0
  have T1 := toData_ok y1 hk1
  have E1 := eqData_ok y1 hk1
  rw [av_Data] at T1 E1
  have CS := specFirstHit_ok l0 y1.nodes hk0 (by omega) hq
  have CI := implFirstHit_ok l0 y1.nodes hk0 (by omega)
  simp +contextual -dsimp (maxSteps := 2000000) only [↓SD, SU, SB, Nat.reduceAdd, Nat.reduceBEq, Nat.reduceEqDiff, Nat.reduceLeDiff, Nat.reduceLT, Nat.reduceSub, ↓reduceIte, zA, zI, zN, reduceCtorEq, Int.reduceToNat, zE, ir_laws_FnExactFirstHit, rs_laws_FnExactFirstHit, av_Data]
  repeat' (first | omega | rfl | intro _ | refine And.intro ?_ ?_ | (refine aCallH_of [] (szPatS_ok l0 _ hk0 (by omega) (by omega)) (by simp +contextual -dsimp only [↓SD, SU, SB, Nat.reduceAdd, Nat.reduceBEq, Nat.reduceEqDiff, Nat.reduceLeDiff, Nat.reduceLT, Nat.reduceSub, ↓reduceIte, zA, zI, zN, reduceCtorEq, Int.reduceToNat, zE]) ?_; rintro r hp' ⟨m, rfl, rfl, hm1, hm2⟩; simp +contextual -dsimp (maxSteps := 2000000) only [↓SD, SU, SB, Nat.reduceAdd, Nat.reduceBEq, Nat.reduceEqDiff, Nat.reduceLeDiff, Nat.reduceLT, Nat.reduceSub, ↓reduceIte, zA, zI, zN, reduceCtorEq, Int.reduceToNat, zE]) | (have Z := fun n h1 h2 => szData_ok y1 n hk1 h1 h2; rw [av_Data] at Z; refine aCallH_of [] (Z _ (by omega) (by omega)) (by simp +contextual -dsimp only [↓SD, SU, SB, Nat.reduceAdd, Nat.reduceBEq, Nat.reduceEqDiff, Nat.reduceLeDiff, Nat.reduceLT, Nat.reduceSub, ↓reduceIte, zA, zI, zN, reduceCtorEq, Int.reduceToNat, zE]) ?_; rintro r hp' ⟨m, rfl, rfl, hm1, hm2⟩; simp +contextual -dsimp (maxSteps := 2000000) only [↓SD, SU, SB, Nat.reduceAdd, Nat.reduceBEq, Nat.reduceEqDiff, Nat.reduceLeDiff, Nat.reduceLT, Nat.reduceSub, ↓reduceIte, zA, zI, zN, reduceCtorEq, Int.reduceToNat, zE]) | (refine aCallK_of _ T0 ?_; simp +contextual -dsimp (maxSteps := 2000000) only [↓SD, SU, SB, Nat.reduceAdd, Nat.reduceBEq, Nat.reduceEqDiff, Nat.reduceLeDiff, Nat.reduceLT, Nat.reduceSub, ↓reduceIte, zA, zI, zN, reduceCtorEq, Int.reduceToNat, zE, beq_self_eq_true]) | (refine aCallK_of _ E0 ?_; simp +contextual -dsimp (maxSteps := 2000000) only [↓SD, SU, SB, Nat.reduceAdd, Nat.reduceBEq, Nat.reduceEqDiff, Nat.reduceLeDiff, Nat.reduceLT, Nat.reduceSub, ↓reduceIte, zA, zI, zN, reduceCtorEq, Int.reduceToNat, zE, beq_self_eq_true]) | (refine aCallK_of _ T1 ?_; simp +contextual -dsimp (maxSteps := 2000000) only [↓SD, SU, SB, Nat.reduceAdd, Nat.reduceBEq, Nat.reduceEqDiff, Nat.reduceLeDiff, Nat.reduceLT, Nat.reduceSub, ↓reduceIte, zA, zI, zN, reduceCtorEq, Int.reduceToNat, zE, beq_self_eq_true]) | (refine aCallK_of _ E1 ?_; simp +contextual -dsimp (maxSteps := 2000000) only [↓SD, SU, SB, Nat.reduceAdd, Nat.reduceBEq, Nat.reduceEqDiff, Nat.reduceLeDiff, Nat.reduceLT, Nat.reduceSub, ↓reduceIte, zA, zI, zN, reduceCtorEq, Int.reduceToNat, zE, beq_self_eq_true]) | (refine aCallK_of _ CS ?_; simp +contextual -dsimp (maxSteps := 2000000) only [↓SD, SU, SB, Nat.reduceAdd, Nat.reduceBEq, Nat.reduceEqDiff, Nat.reduceLeDiff, Nat.reduceLT, Nat.reduceSub, ↓reduceIte, zA, zI, zN, reduceCtorEq, Int.reduceToNat, zE, beq_self_eq_true]) | (refine aCallK_of _ CI ?_; simp +contextual -dsimp (maxSteps := 2000000) only [↓SD, SU, SB, Nat.reduceAdd, Nat.reduceBEq, Nat.reduceEqDiff, Nat.reduceLeDiff, Nat.reduceLT, Nat.reduceSub, ↓reduceIte, zA, zI, zN, reduceCtorEq, Int.reduceToNat, zE, beq_self_eq_true]))

end Go.Proofs.Ytfdkgbejhdmpbaa
