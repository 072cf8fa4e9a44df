/-
  THE LAW FnExactShow, by its abstract text: it returns true. Conditions: the arguments' bulk is at most 1048576. Printed by avwalk.py.
-/
import Derived.Test.YtpnnhgminiihnaaShow
set_option linter.unusedVariables false
set_option linter.unusedSimpArgs false
set_option maxRecDepth 100000
namespace Go.Proofs.Ytpnnhgminiihnaa
open Go.RowKit Go.Proofs.Ytpnnhgminiihnaa.Av Go.Proofs.Ytpnnhgminiihnaa.Ml
open Go.Proofs.Ytpnnhgminiihnaa.Av.AVal (av)


set_option maxHeartbeats 1000000 in
theorem lawShow_ok (l0 : List Cell) (hk0 : Bulk.bulk l0 ≤ 1048576) (y1 : Val) (hk1 : Bulk.bulk y1 ≤ 1048576) (n2 : Int) (g2 : -9223372036854775808 ≤ n2 ∧ n2 ≤ 9223372036854775807) : CallsF Try.prog 3 [.sl (l0.map av), av y1, .int .i64 n2] (.bool true) := by
  have hl0 := bulk_length l0
  have hb1 : Bulk.bulk y1.kind + Bulk.bulk y1.n + Bulk.bulk y1.s + 1 ≤ 1048576 := hk1
  refine callsF_given ((∀ c ∈ l0, CellR c) ∧ ValR y1) (by kernel_rfl) (by simp; exact ⟨lav_clean l0, AVal.clean y1, pint _⟩) (fun S w vs h => ?_) (fun hq => ?_)
  · obtain ⟨_, h0⟩ := vrs_at h (i := 0) rfl
    obtain ⟨_, h1⟩ := vrs_at h (i := 1) rfl
    exact ⟨heap_range h0, val_vr h1⟩
  refine fun_laws_FnExactShow rfl (by simp; exact ⟨lav_clean l0, AVal.clean y1, pint _⟩) (AvPure.bool _) ?_
  have hs0 := small_heap hk0
  have hs1 := val_range hk1
  have hl0' : l0.length ≤ 1048576 := by omega
  have T0 := toCellS_ok l0 hk0
  have E0 := eqCellS_ok l0 hk0
  have T1 := toVal_ok y1 hk1
  have E1 := eqVal_ok y1 hk1
  rw [av_Val] at T1 E1
  have CS := specShow_ok l0 y1 n2 hl0' (fun c hc => ⟨hs0 c hc, hq.1 c hc⟩) hs1 hq.2
  have CI := implShow_ok l0 y1 n2 hl0' (fun c hc => ⟨hs0 c hc, hq.1 c hc⟩) hs1
  simp +contextual -dsimp (maxSteps := 2000000) only [↓SD, SU, SB, Nat.reduceAdd, Nat.reduceBEq, Nat.reduceEqDiff, Nat.reduceLeDiff, Nat.reduceLT, Nat.reduceSub, ↓reduceIte, forall_const, implies_true, ne_eq, reduceCtorEq, Int.reduceToNat, forall_eq, ir_laws_FnExactShow, rs_laws_FnExactShow, av_Val]
  repeat' (first | omega | rfl | intro _ | refine And.intro ?_ ?_ | (refine aCallH_of [] (szCellS_ok l0 _ hk0 (by omega) (by omega)) (by simp +contextual -dsimp (maxSteps := 2000000) only [↓SD, SU, SB, Nat.reduceAdd, Nat.reduceBEq, Nat.reduceEqDiff, Nat.reduceLeDiff, Nat.reduceLT, Nat.reduceSub, ↓reduceIte, forall_const, implies_true, ne_eq, reduceCtorEq, Int.reduceToNat, forall_eq]) ?_; rintro r hp' ⟨m, rfl, rfl, hm1, hm2⟩; simp +contextual -dsimp (maxSteps := 2000000) only [↓SD, SU, SB, Nat.reduceAdd, Nat.reduceBEq, Nat.reduceEqDiff, Nat.reduceLeDiff, Nat.reduceLT, Nat.reduceSub, ↓reduceIte, forall_const, implies_true, ne_eq, reduceCtorEq, Int.reduceToNat, forall_eq]) | (have Z := fun n h1 h2 => szVal_ok y1 n hk1 h1 h2; rw [av_Val] at Z; refine aCallH_of [] (Z _ (by omega) (by omega)) (by simp +contextual -dsimp (maxSteps := 2000000) only [↓SD, SU, SB, Nat.reduceAdd, Nat.reduceBEq, Nat.reduceEqDiff, Nat.reduceLeDiff, Nat.reduceLT, Nat.reduceSub, ↓reduceIte, forall_const, implies_true, ne_eq, reduceCtorEq, Int.reduceToNat, forall_eq]) ?_; rintro r hp' ⟨m, rfl, rfl, hm1, hm2⟩; simp +contextual -dsimp (maxSteps := 2000000) only [↓SD, SU, SB, Nat.reduceAdd, Nat.reduceBEq, Nat.reduceEqDiff, Nat.reduceLeDiff, Nat.reduceLT, Nat.reduceSub, ↓reduceIte, forall_const, implies_true, ne_eq, reduceCtorEq, Int.reduceToNat, forall_eq]) | (refine aCallK_of _ T0 ?_; simp +contextual -dsimp (maxSteps := 2000000) only [↓SD, SU, SB, Nat.reduceAdd, Nat.reduceBEq, Nat.reduceEqDiff, Nat.reduceLeDiff, Nat.reduceLT, Nat.reduceSub, ↓reduceIte, forall_const, implies_true, ne_eq, reduceCtorEq, Int.reduceToNat, forall_eq, beq_self_eq_true]) | (refine aCallK_of _ E0 ?_; simp +contextual -dsimp (maxSteps := 2000000) only [↓SD, SU, SB, Nat.reduceAdd, Nat.reduceBEq, Nat.reduceEqDiff, Nat.reduceLeDiff, Nat.reduceLT, Nat.reduceSub, ↓reduceIte, forall_const, implies_true, ne_eq, reduceCtorEq, Int.reduceToNat, forall_eq, beq_self_eq_true]) | (refine aCallK_of _ T1 ?_; simp +contextual -dsimp (maxSteps := 2000000) only [↓SD, SU, SB, Nat.reduceAdd, Nat.reduceBEq, Nat.reduceEqDiff, Nat.reduceLeDiff, Nat.reduceLT, Nat.reduceSub, ↓reduceIte, forall_const, implies_true, ne_eq, reduceCtorEq, Int.reduceToNat, forall_eq, beq_self_eq_true]) | (refine aCallK_of _ E1 ?_; simp +contextual -dsimp (maxSteps := 2000000) only [↓SD, SU, SB, Nat.reduceAdd, Nat.reduceBEq, Nat.reduceEqDiff, Nat.reduceLeDiff, Nat.reduceLT, Nat.reduceSub, ↓reduceIte, forall_const, implies_true, ne_eq, reduceCtorEq, Int.reduceToNat, forall_eq, beq_self_eq_true]) | (refine aCallK_of _ CS ?_; simp +contextual -dsimp (maxSteps := 2000000) only [↓SD, SU, SB, Nat.reduceAdd, Nat.reduceBEq, Nat.reduceEqDiff, Nat.reduceLeDiff, Nat.reduceLT, Nat.reduceSub, ↓reduceIte, forall_const, implies_true, ne_eq, reduceCtorEq, Int.reduceToNat, forall_eq, beq_self_eq_true]) | (refine aCallK_of _ CI ?_; simp +contextual -dsimp (maxSteps := 2000000) only [↓SD, SU, SB, Nat.reduceAdd, Nat.reduceBEq, Nat.reduceEqDiff, Nat.reduceLeDiff, Nat.reduceLT, Nat.reduceSub, ↓reduceIte, forall_const, implies_true, ne_eq, reduceCtorEq, Int.reduceToNat, forall_eq, beq_self_eq_true]))

end Go.Proofs.Ytpnnhgminiihnaa
