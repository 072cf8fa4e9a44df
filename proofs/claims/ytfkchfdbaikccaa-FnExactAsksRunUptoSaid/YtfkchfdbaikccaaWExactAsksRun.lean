/-
  THE LAW FnExactAsksRun, by its abstract text: it returns true. Conditions: the arguments' bulk is at most 1048576. Printed by avwalk.py.
-/
import Derived.Test.YtfkchfdbaikccaaGAsk
import Derived.Test.YtfkchfdbaikccaaGData
import Derived.Test.YtfkchfdbaikccaaARun
import Derived.Test.YtfkchfdbaikccaaGiven
import Derived.Test.YtfkchfdbaikccaaIrLARun
set_option linter.unusedVariables false
set_option linter.unusedSimpArgs false
set_option maxRecDepth 100000
namespace Go.Proofs.Ytfkchfdbaikccaa
open Go.RowKit Go.Proofs.Ytfkchfdbaikccaa.Av Go.Proofs.Ytfkchfdbaikccaa.Ml
open Go.Proofs.Ytfkchfdbaikccaa.Av.AVal (av)


set_option maxHeartbeats 1000000 in
theorem lawAsksRun_ok (y0 : Asks) (hk0 : Bulk.bulk y0 ≤ 1048576) (y1 : Data) (hk1 : Bulk.bulk y1 ≤ 1048576) : CallsF Try.prog 3 [av y0, av y1] (.bool true) := by
  have hb0 : Bulk.bulk y0.nodes + 1 ≤ 1048576 := hk0
  have hb1 : Bulk.bulk y1.nodes + 1 ≤ 1048576 := hk1
  refine callsF_given (∀ n ∈ y1.nodes, -9223372036854775808 ≤ n.n ∧ n.n ≤ 9223372036854775807) (by kernel_rfl) (by simp; exact ⟨AVal.clean y0, AVal.clean y1⟩) (fun S w vs h => ?_) (fun hq => ?_)
  · obtain ⟨_, h1⟩ := vrs_at h (i := 1) rfl
    exact data_range h1
  refine fun_laws_FnExactAsksRun rfl (by simp; exact ⟨AVal.clean y0, AVal.clean y1⟩) (AvPure.bool _) ?_
  have T0 := toAsks_ok y0 hk0
  have E0 := eqAsks_ok y0 hk0
  rw [av_Asks] at T0 E0
  have T1 := toData_ok y1 hk1
  have E1 := eqData_ok y1 hk1
  rw [av_Data] at T1 E1
  have CS := specAsksRun_ok y0.nodes y1.nodes (by omega) (by omega) hq
  have CI := implAsksRun_ok y0.nodes y1.nodes (by omega) (by omega)
  simp +contextual -dsimp (maxSteps := 2000000) only [↓SD, SU, SB, Nat.reduceAdd, Nat.reduceBEq, Nat.reduceEqDiff, Nat.reduceLeDiff, Nat.reduceLT, Nat.reduceSub, ↓reduceIte, forall_const, implies_true, ne_eq, reduceCtorEq, Int.reduceToNat, forall_eq, ir_laws_FnExactAsksRun, rs_laws_FnExactAsksRun, av_Asks, av_Data]
  repeat' (first | omega | rfl | intro _ | refine And.intro ?_ ?_ | (have Z := fun n h1 h2 => szAsks_ok y0 n hk0 h1 h2; rw [av_Asks] at Z; refine aCallH_of [] (Z _ (by omega) (by omega)) (by simp +contextual -dsimp (maxSteps := 2000000) only [↓SD, SU, SB, Nat.reduceAdd, Nat.reduceBEq, Nat.reduceEqDiff, Nat.reduceLeDiff, Nat.reduceLT, Nat.reduceSub, ↓reduceIte, forall_const, implies_true, ne_eq, reduceCtorEq, Int.reduceToNat, forall_eq]) ?_; rintro r hp' ⟨m, rfl, rfl, hm1, hm2⟩; simp +contextual -dsimp (maxSteps := 2000000) only [↓SD, SU, SB, Nat.reduceAdd, Nat.reduceBEq, Nat.reduceEqDiff, Nat.reduceLeDiff, Nat.reduceLT, Nat.reduceSub, ↓reduceIte, forall_const, implies_true, ne_eq, reduceCtorEq, Int.reduceToNat, forall_eq]) | (have Z := fun n h1 h2 => szData_ok y1 n hk1 h1 h2; rw [av_Data] at Z; refine aCallH_of [] (Z _ (by omega) (by omega)) (by simp +contextual -dsimp (maxSteps := 2000000) only [↓SD, SU, SB, Nat.reduceAdd, Nat.reduceBEq, Nat.reduceEqDiff, Nat.reduceLeDiff, Nat.reduceLT, Nat.reduceSub, ↓reduceIte, forall_const, implies_true, ne_eq, reduceCtorEq, Int.reduceToNat, forall_eq]) ?_; rintro r hp' ⟨m, rfl, rfl, hm1, hm2⟩; simp +contextual -dsimp (maxSteps := 2000000) only [↓SD, SU, SB, Nat.reduceAdd, Nat.reduceBEq, Nat.reduceEqDiff, Nat.reduceLeDiff, Nat.reduceLT, Nat.reduceSub, ↓reduceIte, forall_const, implies_true, ne_eq, reduceCtorEq, Int.reduceToNat, forall_eq]) | (refine aCallK_of _ T0 ?_; simp +contextual -dsimp (maxSteps := 2000000) only [↓SD, SU, SB, Nat.reduceAdd, Nat.reduceBEq, Nat.reduceEqDiff, Nat.reduceLeDiff, Nat.reduceLT, Nat.reduceSub, ↓reduceIte, forall_const, implies_true, ne_eq, reduceCtorEq, Int.reduceToNat, forall_eq, beq_self_eq_true]) | (refine aCallK_of _ E0 ?_; simp +contextual -dsimp (maxSteps := 2000000) only [↓SD, SU, SB, Nat.reduceAdd, Nat.reduceBEq, Nat.reduceEqDiff, Nat.reduceLeDiff, Nat.reduceLT, Nat.reduceSub, ↓reduceIte, forall_const, implies_true, ne_eq, reduceCtorEq, Int.reduceToNat, forall_eq, beq_self_eq_true]) | (refine aCallK_of _ T1 ?_; simp +contextual -dsimp (maxSteps := 2000000) only [↓SD, SU, SB, Nat.reduceAdd, Nat.reduceBEq, Nat.reduceEqDiff, Nat.reduceLeDiff, Nat.reduceLT, Nat.reduceSub, ↓reduceIte, forall_const, implies_true, ne_eq, reduceCtorEq, Int.reduceToNat, forall_eq, beq_self_eq_true]) | (refine aCallK_of _ E1 ?_; simp +contextual -dsimp (maxSteps := 2000000) only [↓SD, SU, SB, Nat.reduceAdd, Nat.reduceBEq, Nat.reduceEqDiff, Nat.reduceLeDiff, Nat.reduceLT, Nat.reduceSub, ↓reduceIte, forall_const, implies_true, ne_eq, reduceCtorEq, Int.reduceToNat, forall_eq, beq_self_eq_true]) | (refine aCallK_of _ CS ?_; simp +contextual -dsimp (maxSteps := 2000000) only [↓SD, SU, SB, Nat.reduceAdd, Nat.reduceBEq, Nat.reduceEqDiff, Nat.reduceLeDiff, Nat.reduceLT, Nat.reduceSub, ↓reduceIte, forall_const, implies_true, ne_eq, reduceCtorEq, Int.reduceToNat, forall_eq, beq_self_eq_true]) | (refine aCallK_of _ CI ?_; simp +contextual -dsimp (maxSteps := 2000000) only [↓SD, SU, SB, Nat.reduceAdd, Nat.reduceBEq, Nat.reduceEqDiff, Nat.reduceLeDiff, Nat.reduceLT, Nat.reduceSub, ↓reduceIte, forall_const, implies_true, ne_eq, reduceCtorEq, Int.reduceToNat, forall_eq, beq_self_eq_true]))

end Go.Proofs.Ytfkchfdbaikccaa
