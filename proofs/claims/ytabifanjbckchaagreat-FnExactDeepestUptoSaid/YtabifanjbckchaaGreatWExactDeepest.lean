/-
  THE LAW FnExactDeepest, by its abstract text: it returns true. Conditions: the arguments' bulk is at most 1048576. Printed by avwalk.py.
-/
import Derived.Test.YtabifanjbckchaaGreatOCode
import Derived.Test.YtabifanjbckchaaGreatPackK
import Derived.Test.YtabifanjbckchaaGreatGiven
import Derived.Test.YtabifanjbckchaaGreatIrLDeepest
set_option linter.unusedVariables false
set_option linter.unusedSimpArgs false
set_option maxRecDepth 100000
namespace Go.Proofs.YtabifanjbckchaaGreat
open Go.RowKit Go.Proofs.YtabifanjbckchaaGreat.Av Go.Proofs.YtabifanjbckchaaGreat.Ml
open Go.Proofs.YtabifanjbckchaaGreat.Av.AVal (av)


set_option maxHeartbeats 1000000 in
theorem lawDeepest_ok (y0 : Code) (hk0 : Bulk.bulk y0 ≤ 1048576) : CallsF Tryz.prog 4 [av y0] (.bool true) := by
  have hb0 : Bulk.bulk y0.ins + Bulk.bulk y0.pats + 1 ≤ 1048576 := hk0
  refine callsF_given (∀ i ∈ y0.ins, -9223372036854775808 ≤ i.a ∧ i.a ≤ 9223372036854775807) (by kernel_rfl) (by simp; exact AVal.clean y0) (fun S w vs h => code_range h) (fun hq => ?_)
  refine fun_laws_FnExactDeepest rfl (by simp; exact AVal.clean y0) (AvPure.bool _) ?_
  have T0 := toCode_ok y0 hk0
  have E0 := eqCode_ok y0 hk0
  rw [av_Code] at T0 E0
  have CS := specDeepest_ok y0 (by omega) hq
  have CI := implDeepest_ok y0 (by omega)
  simp +contextual -dsimp (maxSteps := 2000000) only [↓SD, SU, SB, Nat.reduceAdd, Nat.reduceBEq, Nat.reduceEqDiff, Nat.reduceLeDiff, Nat.reduceLT, Nat.reduceSub, ↓reduceIte, zA, zI, zN, reduceCtorEq, Int.reduceToNat, zE, ir_laws_FnExactDeepest, rs_laws_FnExactDeepest, av_Code]
  repeat' (first | omega | rfl | intro _ | refine And.intro ?_ ?_ | (have Z := fun n h1 h2 => szCode_ok y0 n hk0 h1 h2; rw [av_Code] at Z; refine aCallH_of [] (Z _ (by omega) (by omega)) (by simp +contextual -dsimp only [↓SD, SU, SB, Nat.reduceAdd, Nat.reduceBEq, Nat.reduceEqDiff, Nat.reduceLeDiff, Nat.reduceLT, Nat.reduceSub, ↓reduceIte, zA, zI, zN, reduceCtorEq, Int.reduceToNat, zE]) ?_; rintro r hp' ⟨m, rfl, rfl, hm1, hm2⟩; simp +contextual -dsimp (maxSteps := 2000000) only [↓SD, SU, SB, Nat.reduceAdd, Nat.reduceBEq, Nat.reduceEqDiff, Nat.reduceLeDiff, Nat.reduceLT, Nat.reduceSub, ↓reduceIte, zA, zI, zN, reduceCtorEq, Int.reduceToNat, zE]) | (refine aCallK_of _ T0 ?_; simp +contextual -dsimp (maxSteps := 2000000) only [↓SD, SU, SB, Nat.reduceAdd, Nat.reduceBEq, Nat.reduceEqDiff, Nat.reduceLeDiff, Nat.reduceLT, Nat.reduceSub, ↓reduceIte, zA, zI, zN, reduceCtorEq, Int.reduceToNat, zE, beq_self_eq_true]) | (refine aCallK_of _ E0 ?_; simp +contextual -dsimp (maxSteps := 2000000) only [↓SD, SU, SB, Nat.reduceAdd, Nat.reduceBEq, Nat.reduceEqDiff, Nat.reduceLeDiff, Nat.reduceLT, Nat.reduceSub, ↓reduceIte, zA, zI, zN, reduceCtorEq, Int.reduceToNat, zE, beq_self_eq_true]) | (refine aCallK_of _ CS ?_; simp +contextual -dsimp (maxSteps := 2000000) only [↓SD, SU, SB, Nat.reduceAdd, Nat.reduceBEq, Nat.reduceEqDiff, Nat.reduceLeDiff, Nat.reduceLT, Nat.reduceSub, ↓reduceIte, zA, zI, zN, reduceCtorEq, Int.reduceToNat, zE, beq_self_eq_true]) | (refine aCallK_of _ CI ?_; simp +contextual -dsimp (maxSteps := 2000000) only [↓SD, SU, SB, Nat.reduceAdd, Nat.reduceBEq, Nat.reduceEqDiff, Nat.reduceLeDiff, Nat.reduceLT, Nat.reduceSub, ↓reduceIte, zA, zI, zN, reduceCtorEq, Int.reduceToNat, zE, beq_self_eq_true]))

end Go.Proofs.YtabifanjbckchaaGreat
