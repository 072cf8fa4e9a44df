/-
  THE LAWS' HELPERS AT A NIL LIST OF INTS, by abstract texts. Conditions: none.
-/
import Derived.Test.YtpnnhgminiihnaaDoorMkInt
set_option linter.unusedVariables false
set_option linter.unusedSimpArgs false
set_option maxRecDepth 100000
namespace Go.Proofs.YtpnnhgminiihnaaDoor
open Go.RowKit Go.Proofs.YtpnnhgminiihnaaDoor.Av Go.Proofs.YtpnnhgminiihnaaDoor.Ml
open Go.Proofs.YtpnnhgminiihnaaDoor.Av.AVal (av)

theorem eqIntS_nil : CallsF Tryd.prog 10 [.nils, .sl []] (.bool true) := by
  refine fun_laws_eqIntS rfl (by simp; exact ⟨AvPure.nils, AvPure.sl (by simp)⟩) (AvPure.bool _) ?_
  simp +contextual -dsimp (maxSteps := 2000000) only [↓SD, SU, SB, Nat.reduceAdd, Nat.reduceBEq, Nat.reduceEqDiff, Nat.reduceLeDiff, Nat.reduceLT, Nat.reduceSub, ↓reduceIte, forall_const, implies_true, ne_eq, reduceCtorEq, Int.reduceToNat, forall_eq, Int.reduceEq, Int.reduceLT, Int.reduceLE, Int.reduceNeg, Int.reduceAdd, Int.reduceSub, ir_laws_eqIntS, rs_laws_eqIntS, map_len]
  refine aLoop_of (X := Unit) (fun _ => ⟨[(0, .nils), (1, .sl []), (5, .int .i64 0)], []⟩) (fun _ => True) (fun _ => 0) () trivial (by simp +contextual -dsimp (maxSteps := 2000000) only [↓SD, SU, SB, Nat.reduceAdd, Nat.reduceBEq, Nat.reduceEqDiff, Nat.reduceLeDiff, Nat.reduceLT, Nat.reduceSub, ↓reduceIte, forall_const, implies_true, ne_eq, reduceCtorEq, Int.reduceToNat, forall_eq]) trivial ?_
  rintro _ _
  simp +contextual -dsimp (maxSteps := 2000000) only [↓SD, SU, SB, Nat.reduceAdd, Nat.reduceBEq, Nat.reduceEqDiff, Nat.reduceLeDiff, Nat.reduceLT, Nat.reduceSub, ↓reduceIte, forall_const, implies_true, ne_eq, reduceCtorEq, Int.reduceToNat, forall_eq, Int.reduceEq, Int.reduceLT, Int.reduceLE, Int.reduceNeg, Int.reduceAdd, Int.reduceSub]
theorem heldIntS_nil (k : Int) : CallsF Tryd.prog 12 [.nils, .int .i64 k] (.int .i64 k) := by
  refine fun_laws_heldIntS rfl (by simp; exact ⟨AvPure.nils, pint _⟩) (pint _) ?_
  simp +contextual -dsimp (maxSteps := 2000000) only [↓SD, SU, SB, Nat.reduceAdd, Nat.reduceBEq, Nat.reduceEqDiff, Nat.reduceLeDiff, Nat.reduceLT, Nat.reduceSub, ↓reduceIte, forall_const, implies_true, ne_eq, reduceCtorEq, Int.reduceToNat, forall_eq, Int.reduceEq, Int.reduceLT, Int.reduceLE, Int.reduceNeg, Int.reduceAdd, Int.reduceSub, ir_laws_heldIntS, rs_laws_heldIntS, map_len]
  refine aLoop_of (X := Unit) (fun _ => ⟨[(0, .nils), (1, .int .i64 k), (5, .int .i64 0)], []⟩) (fun _ => True) (fun _ => 0) () trivial (by simp +contextual -dsimp (maxSteps := 2000000) only [↓SD, SU, SB, Nat.reduceAdd, Nat.reduceBEq, Nat.reduceEqDiff, Nat.reduceLeDiff, Nat.reduceLT, Nat.reduceSub, ↓reduceIte, forall_const, implies_true, ne_eq, reduceCtorEq, Int.reduceToNat, forall_eq]) trivial ?_
  rintro _ _
  simp +contextual -dsimp (maxSteps := 2000000) only [↓SD, SU, SB, Nat.reduceAdd, Nat.reduceBEq, Nat.reduceEqDiff, Nat.reduceLeDiff, Nat.reduceLT, Nat.reduceSub, ↓reduceIte, forall_const, implies_true, ne_eq, reduceCtorEq, Int.reduceToNat, forall_eq, Int.reduceEq, Int.reduceLT, Int.reduceLE, Int.reduceNeg, Int.reduceAdd, Int.reduceSub]
def MkNil (k : Int) (r : AV) (hp' : Hp) : Prop := r = .int .i64 k ∧ hp' = []
theorem markIntS_nil (k : Int) : CallsH Tryd.prog 11 [.nils, .int .i64 k] [] (MkNil k) := by
  refine funH_laws_markIntS rfl ?_
  simp +contextual -dsimp (maxSteps := 2000000) only [↓SD, SU, SB, Nat.reduceAdd, Nat.reduceBEq, Nat.reduceEqDiff, Nat.reduceLeDiff, Nat.reduceLT, Nat.reduceSub, ↓reduceIte, forall_const, implies_true, ne_eq, reduceCtorEq, Int.reduceToNat, forall_eq, Int.reduceEq, Int.reduceLT, Int.reduceLE, Int.reduceNeg, Int.reduceAdd, Int.reduceSub, ir_laws_markIntS, rs_laws_markIntS, map_len]
  refine aLoop_of (X := Unit) (fun _ => ⟨[(0, .nils), (1, .int .i64 k), (5, .int .i64 0)], []⟩) (fun _ => True) (fun _ => 0) () trivial (by simp +contextual -dsimp (maxSteps := 2000000) only [↓SD, SU, SB, Nat.reduceAdd, Nat.reduceBEq, Nat.reduceEqDiff, Nat.reduceLeDiff, Nat.reduceLT, Nat.reduceSub, ↓reduceIte, forall_const, implies_true, ne_eq, reduceCtorEq, Int.reduceToNat, forall_eq]) trivial ?_
  rintro _ _
  simp +contextual -dsimp (maxSteps := 2000000) only [↓SD, SU, SB, Nat.reduceAdd, Nat.reduceBEq, Nat.reduceEqDiff, Nat.reduceLeDiff, Nat.reduceLT, Nat.reduceSub, ↓reduceIte, forall_const, implies_true, ne_eq, reduceCtorEq, Int.reduceToNat, forall_eq, Int.reduceEq, Int.reduceLT, Int.reduceLE, Int.reduceNeg, Int.reduceAdd, Int.reduceSub]
  refine Goes.post [] ?_
  simp +contextual -dsimp (maxSteps := 2000000) only [↓SD, SU, SB, Nat.reduceAdd, Nat.reduceBEq, Nat.reduceEqDiff, Nat.reduceLeDiff, Nat.reduceLT, Nat.reduceSub, ↓reduceIte, forall_const, implies_true, ne_eq, reduceCtorEq, Int.reduceToNat, forall_eq]
  exact ⟨rfl, rfl⟩
theorem ints_free (L : List Int) : ∀ e ∈ L.map (av : Int → AV), ∀ x ∈ e.cells, x.free1 = true := fun e he x hx => by
  obtain ⟨n, _, rfl⟩ := List.mem_map.1 he
  rw [av_int] at hx
  simp [AV.cells] at hx
  subst hx; rfl
end Go.Proofs.YtpnnhgminiihnaaDoor
