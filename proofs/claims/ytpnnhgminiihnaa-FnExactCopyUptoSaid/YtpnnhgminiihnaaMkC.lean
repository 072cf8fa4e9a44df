/-
  WHAT IS HELD OF CELLS AND VALUES; A COPY IS NO LARGER THAN THE HEAP. Conditions: the marks fit an int.
-/
import Derived.Test.YtpnnhgminiihnaaMkNil
import Derived.Test.YtpnnhgminiihnaaCopyW
import Derived.Test.YtpnnhgminiihnaaIrLCopy
set_option linter.unusedVariables false
set_option linter.unusedSimpArgs false
set_option maxRecDepth 100000
namespace Go.Proofs.Ytpnnhgminiihnaa
open Go.RowKit Go.Proofs.Ytpnnhgminiihnaa.Av Go.Proofs.Ytpnnhgminiihnaa.Ml
open Go.Proofs.Ytpnnhgminiihnaa.Av.AVal (av)

theorem heldValS_ok (n : Nat) (k : Int) (h0 : 1 ≤ k) (h1 : k + 3 * (n : Int) ≤ 4611686018427387904) : CallsF Try.prog 27 [.sl ((mkValL k n).map av), .int .i64 k] (.int .i64 (k + 3 * (n : Int))) := by
  refine fun_laws_heldValS rfl (by simp; exact ⟨lav_clean _, pint _⟩) (pint _) ?_
  simp +contextual -dsimp (maxSteps := 2000000) only [↓SD, SU, SB, Nat.reduceAdd, Nat.reduceBEq, Nat.reduceEqDiff, Nat.reduceLeDiff, Nat.reduceLT, Nat.reduceSub, ↓reduceIte, forall_const, implies_true, ne_eq, reduceCtorEq, Int.reduceToNat, forall_eq, Int.reduceEq, Int.reduceLT, Int.reduceLE, Int.reduceNeg, Int.reduceAdd, Int.reduceSub, ir_laws_heldValS, rs_laws_heldValS, map_len, mkValL_len]
  refine aLoop_of (X := Nat) (fun i => ⟨[(0, .sl ((mkValL k n).map av)), (1, .int .i64 (k + 3 * (i : Int))), (5, .int .i64 i)], []⟩) (fun i => i ≤ n) (fun i => n - i) 0 (Nat.zero_le _) (by simp +contextual -dsimp (maxSteps := 2000000) only [↓SD, SU, SB, Nat.reduceAdd, Nat.reduceBEq, Nat.reduceEqDiff, Nat.reduceLeDiff, Nat.reduceLT, Nat.reduceSub, ↓reduceIte, forall_const, implies_true, ne_eq, reduceCtorEq, Int.reduceToNat, forall_eq, Int.reduceEq, Int.reduceLT, Int.reduceLE, Int.reduceNeg, Int.reduceAdd, Int.reduceSub, Int.natCast_zero, Int.mul_zero, Int.add_zero]) trivial ?_
  rintro i hi
  by_cases hlt : i < n
  · have e := getD_map av (mkValL k n) i .top (by rw [mkValL_len]; exact hlt)
    have hg : (mkValL k n)[i]'(by rw [mkValL_len]; exact hlt) = mkVal (k + 3 * (i : Int)) := by simp [mkValL]
    rw [hg, av_Val, mkVal] at e
    have hK : k + 3 * ((i : Int) + 1) = k + 3 * (i : Int) + 1 + 1 + 1 := by omega
    have hb : k + 3 * (i : Int) + 1 + 1 + 1 ≤ 4611686018427387904 := by omega
    have hk1 : 1 ≤ k + 3 * (i : Int) := by omega
    obtain ⟨K, hKe⟩ : ∃ K, K = k + 3 * (i : Int) := ⟨_, rfl⟩
    rw [← hKe] at e hK hb hk1 ⊢
    obtain ⟨N, hN⟩ : ∃ N : Nat, K = N := ⟨K.toNat, by omega⟩
    have M2 := markText_ok (N + 2) (by omega) (by omega)
    rw [show ((N + 2 : Nat) : Int) = K + 1 + 1 by omega] at M2
    clear hN
    simp +contextual -dsimp (maxSteps := 2000000) only [↓SD, SU, SB, Nat.reduceAdd, Nat.reduceBEq, Nat.reduceEqDiff, Nat.reduceLeDiff, Nat.reduceLT, Nat.reduceSub, ↓reduceIte, forall_const, implies_true, ne_eq, reduceCtorEq, Int.reduceToNat, forall_eq, Int.reduceEq, Int.reduceLT, Int.reduceLE, Int.reduceNeg, Int.reduceAdd, Int.reduceSub, hlt, map_len, mkValL_len, e]
    refine ⟨by omega, by omega, ?_⟩
    refine aCallK_of _ M2 ?_
    simp +contextual -dsimp (maxSteps := 2000000) only [↓SD, SU, SB, Nat.reduceAdd, Nat.reduceBEq, Nat.reduceEqDiff, Nat.reduceLeDiff, Nat.reduceLT, Nat.reduceSub, ↓reduceIte, forall_const, implies_true, ne_eq, reduceCtorEq, Int.reduceToNat, forall_eq, Int.reduceEq, Int.reduceLT, Int.reduceLE, Int.reduceNeg, Int.reduceAdd, Int.reduceSub, hlt, map_len, mkValL_len, e]
    exact ⟨by omega, by omega, Goes.le ⟨i + 1, ⟨hlt, (by first | omega | (simp only; omega))⟩, rfl⟩ (by simp +contextual -dsimp (maxSteps := 2000000) only [↓SD, SU, SB, Nat.reduceAdd, Nat.reduceBEq, Nat.reduceEqDiff, Nat.reduceLeDiff, Nat.reduceLT, Nat.reduceSub, ↓reduceIte, forall_const, implies_true, ne_eq, reduceCtorEq, Int.reduceToNat, forall_eq, Int.natCast_add, hK]) trivial⟩
  · obtain rfl : i = n := by omega
    simp +contextual -dsimp (maxSteps := 2000000) only [↓SD, SU, SB, Nat.reduceAdd, Nat.reduceBEq, Nat.reduceEqDiff, Nat.reduceLeDiff, Nat.reduceLT, Nat.reduceSub, ↓reduceIte, forall_const, implies_true, ne_eq, reduceCtorEq, Int.reduceToNat, forall_eq, Int.reduceEq, Int.reduceLT, Int.reduceLE, Int.reduceNeg, Int.reduceAdd, Int.reduceSub, Nat.lt_irrefl, map_len, mkValL_len]
theorem eqValS_nil : CallsF Try.prog 19 [.nils, .nils] (.bool true) := by
  refine fun_laws_eqValS rfl (by simp; exact AvPure.nils) (AvPure.bool _) ?_
  simp +contextual -dsimp (maxSteps := 2000000) only [↓SD, SU, SB, Nat.reduceAdd, Nat.reduceBEq, Nat.reduceEqDiff, Nat.reduceLeDiff, Nat.reduceLT, Nat.reduceSub, ↓reduceIte, forall_const, implies_true, ne_eq, reduceCtorEq, Int.reduceToNat, forall_eq, Int.reduceEq, Int.reduceLT, Int.reduceLE, Int.reduceNeg, Int.reduceAdd, Int.reduceSub, ir_laws_eqValS, rs_laws_eqValS, map_len]
  refine aLoop_of (X := Unit) (fun _ => ⟨[(0, .nils), (1, .nils), (5, .int .i64 0)], []⟩) (fun _ => True) (fun _ => 0) () trivial (by simp +contextual -dsimp (maxSteps := 2000000) only [↓SD, SU, SB, Nat.reduceAdd, Nat.reduceBEq, Nat.reduceEqDiff, Nat.reduceLeDiff, Nat.reduceLT, Nat.reduceSub, ↓reduceIte, forall_const, implies_true, ne_eq, reduceCtorEq, Int.reduceToNat, forall_eq]) trivial ?_
  rintro _ _
  simp +contextual -dsimp (maxSteps := 2000000) only [↓SD, SU, SB, Nat.reduceAdd, Nat.reduceBEq, Nat.reduceEqDiff, Nat.reduceLeDiff, Nat.reduceLT, Nat.reduceSub, ↓reduceIte, forall_const, implies_true, ne_eq, reduceCtorEq, Int.reduceToNat, forall_eq, Int.reduceEq, Int.reduceLT, Int.reduceLE, Int.reduceNeg, Int.reduceAdd, Int.reduceSub]
theorem heldValS_nil (k : Int) : CallsF Try.prog 27 [.nils, .int .i64 k] (.int .i64 k) := by
  refine fun_laws_heldValS rfl (by simp; exact ⟨AvPure.nils, pint _⟩) (pint _) ?_
  simp +contextual -dsimp (maxSteps := 2000000) only [↓SD, SU, SB, Nat.reduceAdd, Nat.reduceBEq, Nat.reduceEqDiff, Nat.reduceLeDiff, Nat.reduceLT, Nat.reduceSub, ↓reduceIte, forall_const, implies_true, ne_eq, reduceCtorEq, Int.reduceToNat, forall_eq, Int.reduceEq, Int.reduceLT, Int.reduceLE, Int.reduceNeg, Int.reduceAdd, Int.reduceSub, ir_laws_heldValS, rs_laws_heldValS, map_len]
  refine aLoop_of (X := Unit) (fun _ => ⟨[(0, .nils), (1, .int .i64 k), (5, .int .i64 0)], []⟩) (fun _ => True) (fun _ => 0) () trivial (by simp +contextual -dsimp (maxSteps := 2000000) only [↓SD, SU, SB, Nat.reduceAdd, Nat.reduceBEq, Nat.reduceEqDiff, Nat.reduceLeDiff, Nat.reduceLT, Nat.reduceSub, ↓reduceIte, forall_const, implies_true, ne_eq, reduceCtorEq, Int.reduceToNat, forall_eq]) trivial ?_
  rintro _ _
  simp +contextual -dsimp (maxSteps := 2000000) only [↓SD, SU, SB, Nat.reduceAdd, Nat.reduceBEq, Nat.reduceEqDiff, Nat.reduceLeDiff, Nat.reduceLT, Nat.reduceSub, ↓reduceIte, forall_const, implies_true, ne_eq, reduceCtorEq, Int.reduceToNat, forall_eq, Int.reduceEq, Int.reduceLT, Int.reduceLE, Int.reduceNeg, Int.reduceAdd, Int.reduceSub]
theorem markValS_nil (k : Int) : CallsH Try.prog 21 [.nils, .int .i64 k] [] (MkNil k) := by
  refine funH_laws_markValS rfl ?_
  simp +contextual -dsimp (maxSteps := 2000000) only [↓SD, SU, SB, Nat.reduceAdd, Nat.reduceBEq, Nat.reduceEqDiff, Nat.reduceLeDiff, Nat.reduceLT, Nat.reduceSub, ↓reduceIte, forall_const, implies_true, ne_eq, reduceCtorEq, Int.reduceToNat, forall_eq, Int.reduceEq, Int.reduceLT, Int.reduceLE, Int.reduceNeg, Int.reduceAdd, Int.reduceSub, ir_laws_markValS, rs_laws_markValS, map_len]
  refine aLoop_of (X := Unit) (fun _ => ⟨[(0, .nils), (1, .int .i64 k), (5, .int .i64 0)], []⟩) (fun _ => True) (fun _ => 0) () trivial (by simp +contextual -dsimp (maxSteps := 2000000) only [↓SD, SU, SB, Nat.reduceAdd, Nat.reduceBEq, Nat.reduceEqDiff, Nat.reduceLeDiff, Nat.reduceLT, Nat.reduceSub, ↓reduceIte, forall_const, implies_true, ne_eq, reduceCtorEq, Int.reduceToNat, forall_eq]) trivial ?_
  rintro _ _
  simp +contextual -dsimp (maxSteps := 2000000) only [↓SD, SU, SB, Nat.reduceAdd, Nat.reduceBEq, Nat.reduceEqDiff, Nat.reduceLeDiff, Nat.reduceLT, Nat.reduceSub, ↓reduceIte, forall_const, implies_true, ne_eq, reduceCtorEq, Int.reduceToNat, forall_eq, Int.reduceEq, Int.reduceLT, Int.reduceLE, Int.reduceNeg, Int.reduceAdd, Int.reduceSub]
  refine Goes.post [] ?_
  simp +contextual -dsimp (maxSteps := 2000000) only [↓SD, SU, SB, Nat.reduceAdd, Nat.reduceBEq, Nat.reduceEqDiff, Nat.reduceLeDiff, Nat.reduceLT, Nat.reduceSub, ↓reduceIte, forall_const, implies_true, ne_eq, reduceCtorEq, Int.reduceToNat, forall_eq]
  exact ⟨rfl, rfl⟩
theorem vals_free (L : List Val) : ∀ e ∈ L.map (av : Val → AV), ∀ x ∈ e.cells, x.free1 = true := fun e he x hx => by
  obtain ⟨c, _, rfl⟩ := List.mem_map.1 he
  rw [av_Val] at hx
  simp only [AV.cells, List.mem_cons, List.not_mem_nil, or_false] at hx
  rcases hx with rfl | rfl | rfl <;> rfl
theorem heldCellS_ok (n : Nat) (k : Int) (h0 : 1 ≤ k) (h1 : k + 9 * (n : Int) ≤ 4611686018427387904) : CallsF Try.prog 26 [.sl ((mkCellL k n).map av), .int .i64 k] (.int .i64 (k + 9 * (n : Int))) := by
  refine fun_laws_heldCellS rfl (by simp; exact ⟨lav_clean _, pint _⟩) (pint _) ?_
  simp +contextual -dsimp (maxSteps := 2000000) only [↓SD, SU, SB, Nat.reduceAdd, Nat.reduceBEq, Nat.reduceEqDiff, Nat.reduceLeDiff, Nat.reduceLT, Nat.reduceSub, ↓reduceIte, forall_const, implies_true, ne_eq, reduceCtorEq, Int.reduceToNat, forall_eq, Int.reduceEq, Int.reduceLT, Int.reduceLE, Int.reduceNeg, Int.reduceAdd, Int.reduceSub, ir_laws_heldCellS, rs_laws_heldCellS, map_len, mkCellL_len]
  refine aLoop_of (X := Nat) (fun i => ⟨[(0, .sl ((mkCellL k n).map av)), (1, .int .i64 (k + 9 * (i : Int))), (5, .int .i64 i)], []⟩) (fun i => i ≤ n) (fun i => n - i) 0 (Nat.zero_le _) (by simp +contextual -dsimp (maxSteps := 2000000) only [↓SD, SU, SB, Nat.reduceAdd, Nat.reduceBEq, Nat.reduceEqDiff, Nat.reduceLeDiff, Nat.reduceLT, Nat.reduceSub, ↓reduceIte, forall_const, implies_true, ne_eq, reduceCtorEq, Int.reduceToNat, forall_eq, Int.reduceEq, Int.reduceLT, Int.reduceLE, Int.reduceNeg, Int.reduceAdd, Int.reduceSub, Int.natCast_zero, Int.mul_zero, Int.add_zero]) trivial ?_
  rintro i hi
  by_cases hlt : i < n
  · have e := getD_map av (mkCellL k n) i .top (by rw [mkCellL_len]; exact hlt)
    have hg : (mkCellL k n)[i]'(by rw [mkCellL_len]; exact hlt) = mkCell (k + 9 * (i : Int)) := by simp [mkCellL]
    rw [hg, av_Cell, mkCell] at e
    have hK : k + 9 * ((i : Int) + 1) = k + 9 * (i : Int) + 1 + 1 + 1 + 1 + 1 + 1 + 1 + 1 + 1 := by omega
    have hb : k + 9 * (i : Int) + 1 + 1 + 1 + 1 + 1 + 1 + 1 + 1 + 1 ≤ 4611686018427387904 := by omega
    have hk1 : 1 ≤ k + 9 * (i : Int) := by omega
    obtain ⟨K, hKe⟩ : ∃ K, K = k + 9 * (i : Int) := ⟨_, rfl⟩
    rw [← hKe] at e hK hb hk1 ⊢
    obtain ⟨N, hN⟩ : ∃ N : Nat, K = N := ⟨K.toNat, by omega⟩
    have M2 := markText_ok (N + 2) (by omega) (by omega)
    rw [show ((N + 2 : Nat) : Int) = K + 1 + 1 by omega] at M2
    have M5 := markText_ok (N + 5) (by omega) (by omega)
    rw [show ((N + 5 : Nat) : Int) = K + 1 + 1 + 1 + 1 + 1 by omega] at M5
    have M8 := markText_ok (N + 8) (by omega) (by omega)
    rw [show ((N + 8 : Nat) : Int) = K + 1 + 1 + 1 + 1 + 1 + 1 + 1 + 1 by omega] at M8
    clear hN
    simp +contextual -dsimp (maxSteps := 2000000) only [↓SD, SU, SB, Nat.reduceAdd, Nat.reduceBEq, Nat.reduceEqDiff, Nat.reduceLeDiff, Nat.reduceLT, Nat.reduceSub, ↓reduceIte, forall_const, implies_true, ne_eq, reduceCtorEq, Int.reduceToNat, forall_eq, Int.reduceEq, Int.reduceLT, Int.reduceLE, Int.reduceNeg, Int.reduceAdd, Int.reduceSub, hlt, map_len, mkCellL_len, e]
    refine ⟨by omega, by omega, ?_⟩
    refine aCallK_of _ M2 ?_
    simp +contextual -dsimp (maxSteps := 2000000) only [↓SD, SU, SB, Nat.reduceAdd, Nat.reduceBEq, Nat.reduceEqDiff, Nat.reduceLeDiff, Nat.reduceLT, Nat.reduceSub, ↓reduceIte, forall_const, implies_true, ne_eq, reduceCtorEq, Int.reduceToNat, forall_eq, Int.reduceEq, Int.reduceLT, Int.reduceLE, Int.reduceNeg, Int.reduceAdd, Int.reduceSub, hlt, map_len, mkCellL_len, e]
    refine ⟨by omega, by omega, by omega, ?_⟩
    refine aCallK_of _ M5 ?_
    simp +contextual -dsimp (maxSteps := 2000000) only [↓SD, SU, SB, Nat.reduceAdd, Nat.reduceBEq, Nat.reduceEqDiff, Nat.reduceLeDiff, Nat.reduceLT, Nat.reduceSub, ↓reduceIte, forall_const, implies_true, ne_eq, reduceCtorEq, Int.reduceToNat, forall_eq, Int.reduceEq, Int.reduceLT, Int.reduceLE, Int.reduceNeg, Int.reduceAdd, Int.reduceSub, hlt, map_len, mkCellL_len, e]
    refine ⟨by omega, by omega, by omega, ?_⟩
    refine aCallK_of _ M8 ?_
    simp +contextual -dsimp (maxSteps := 2000000) only [↓SD, SU, SB, Nat.reduceAdd, Nat.reduceBEq, Nat.reduceEqDiff, Nat.reduceLeDiff, Nat.reduceLT, Nat.reduceSub, ↓reduceIte, forall_const, implies_true, ne_eq, reduceCtorEq, Int.reduceToNat, forall_eq, Int.reduceEq, Int.reduceLT, Int.reduceLE, Int.reduceNeg, Int.reduceAdd, Int.reduceSub, hlt, map_len, mkCellL_len, e]
    exact ⟨by omega, by omega, Goes.le ⟨i + 1, ⟨hlt, (by first | omega | (simp only; omega))⟩, rfl⟩ (by simp +contextual -dsimp (maxSteps := 2000000) only [↓SD, SU, SB, Nat.reduceAdd, Nat.reduceBEq, Nat.reduceEqDiff, Nat.reduceLeDiff, Nat.reduceLT, Nat.reduceSub, ↓reduceIte, forall_const, implies_true, ne_eq, reduceCtorEq, Int.reduceToNat, forall_eq, Int.natCast_add, hK]) trivial⟩
  · obtain rfl : i = n := by omega
    simp +contextual -dsimp (maxSteps := 2000000) only [↓SD, SU, SB, Nat.reduceAdd, Nat.reduceBEq, Nat.reduceEqDiff, Nat.reduceLeDiff, Nat.reduceLT, Nat.reduceSub, ↓reduceIte, forall_const, implies_true, ne_eq, reduceCtorEq, Int.reduceToNat, forall_eq, Int.reduceEq, Int.reduceLT, Int.reduceLE, Int.reduceNeg, Int.reduceAdd, Int.reduceSub, Nat.lt_irrefl, map_len, mkCellL_len]
theorem eqCellS_nil : CallsF Try.prog 13 [.nils, .nils] (.bool true) := by
  refine fun_laws_eqCellS rfl (by simp; exact AvPure.nils) (AvPure.bool _) ?_
  simp +contextual -dsimp (maxSteps := 2000000) only [↓SD, SU, SB, Nat.reduceAdd, Nat.reduceBEq, Nat.reduceEqDiff, Nat.reduceLeDiff, Nat.reduceLT, Nat.reduceSub, ↓reduceIte, forall_const, implies_true, ne_eq, reduceCtorEq, Int.reduceToNat, forall_eq, Int.reduceEq, Int.reduceLT, Int.reduceLE, Int.reduceNeg, Int.reduceAdd, Int.reduceSub, ir_laws_eqCellS, rs_laws_eqCellS, map_len]
  refine aLoop_of (X := Unit) (fun _ => ⟨[(0, .nils), (1, .nils), (5, .int .i64 0)], []⟩) (fun _ => True) (fun _ => 0) () trivial (by simp +contextual -dsimp (maxSteps := 2000000) only [↓SD, SU, SB, Nat.reduceAdd, Nat.reduceBEq, Nat.reduceEqDiff, Nat.reduceLeDiff, Nat.reduceLT, Nat.reduceSub, ↓reduceIte, forall_const, implies_true, ne_eq, reduceCtorEq, Int.reduceToNat, forall_eq]) trivial ?_
  rintro _ _
  simp +contextual -dsimp (maxSteps := 2000000) only [↓SD, SU, SB, Nat.reduceAdd, Nat.reduceBEq, Nat.reduceEqDiff, Nat.reduceLeDiff, Nat.reduceLT, Nat.reduceSub, ↓reduceIte, forall_const, implies_true, ne_eq, reduceCtorEq, Int.reduceToNat, forall_eq, Int.reduceEq, Int.reduceLT, Int.reduceLE, Int.reduceNeg, Int.reduceAdd, Int.reduceSub]
theorem heldCellS_nil (k : Int) : CallsF Try.prog 26 [.nils, .int .i64 k] (.int .i64 k) := by
  refine fun_laws_heldCellS rfl (by simp; exact ⟨AvPure.nils, pint _⟩) (pint _) ?_
  simp +contextual -dsimp (maxSteps := 2000000) only [↓SD, SU, SB, Nat.reduceAdd, Nat.reduceBEq, Nat.reduceEqDiff, Nat.reduceLeDiff, Nat.reduceLT, Nat.reduceSub, ↓reduceIte, forall_const, implies_true, ne_eq, reduceCtorEq, Int.reduceToNat, forall_eq, Int.reduceEq, Int.reduceLT, Int.reduceLE, Int.reduceNeg, Int.reduceAdd, Int.reduceSub, ir_laws_heldCellS, rs_laws_heldCellS, map_len]
  refine aLoop_of (X := Unit) (fun _ => ⟨[(0, .nils), (1, .int .i64 k), (5, .int .i64 0)], []⟩) (fun _ => True) (fun _ => 0) () trivial (by simp +contextual -dsimp (maxSteps := 2000000) only [↓SD, SU, SB, Nat.reduceAdd, Nat.reduceBEq, Nat.reduceEqDiff, Nat.reduceLeDiff, Nat.reduceLT, Nat.reduceSub, ↓reduceIte, forall_const, implies_true, ne_eq, reduceCtorEq, Int.reduceToNat, forall_eq]) trivial ?_
  rintro _ _
  simp +contextual -dsimp (maxSteps := 2000000) only [↓SD, SU, SB, Nat.reduceAdd, Nat.reduceBEq, Nat.reduceEqDiff, Nat.reduceLeDiff, Nat.reduceLT, Nat.reduceSub, ↓reduceIte, forall_const, implies_true, ne_eq, reduceCtorEq, Int.reduceToNat, forall_eq, Int.reduceEq, Int.reduceLT, Int.reduceLE, Int.reduceNeg, Int.reduceAdd, Int.reduceSub]
theorem markCellS_nil (k : Int) : CallsH Try.prog 20 [.nils, .int .i64 k] [] (MkNil k) := by
  refine funH_laws_markCellS rfl ?_
  simp +contextual -dsimp (maxSteps := 2000000) only [↓SD, SU, SB, Nat.reduceAdd, Nat.reduceBEq, Nat.reduceEqDiff, Nat.reduceLeDiff, Nat.reduceLT, Nat.reduceSub, ↓reduceIte, forall_const, implies_true, ne_eq, reduceCtorEq, Int.reduceToNat, forall_eq, Int.reduceEq, Int.reduceLT, Int.reduceLE, Int.reduceNeg, Int.reduceAdd, Int.reduceSub, ir_laws_markCellS, rs_laws_markCellS, map_len]
  refine aLoop_of (X := Unit) (fun _ => ⟨[(0, .nils), (1, .int .i64 k), (5, .int .i64 0)], []⟩) (fun _ => True) (fun _ => 0) () trivial (by simp +contextual -dsimp (maxSteps := 2000000) only [↓SD, SU, SB, Nat.reduceAdd, Nat.reduceBEq, Nat.reduceEqDiff, Nat.reduceLeDiff, Nat.reduceLT, Nat.reduceSub, ↓reduceIte, forall_const, implies_true, ne_eq, reduceCtorEq, Int.reduceToNat, forall_eq]) trivial ?_
  rintro _ _
  simp +contextual -dsimp (maxSteps := 2000000) only [↓SD, SU, SB, Nat.reduceAdd, Nat.reduceBEq, Nat.reduceEqDiff, Nat.reduceLeDiff, Nat.reduceLT, Nat.reduceSub, ↓reduceIte, forall_const, implies_true, ne_eq, reduceCtorEq, Int.reduceToNat, forall_eq, Int.reduceEq, Int.reduceLT, Int.reduceLE, Int.reduceNeg, Int.reduceAdd, Int.reduceSub]
  refine Goes.post [] ?_
  simp +contextual -dsimp (maxSteps := 2000000) only [↓SD, SU, SB, Nat.reduceAdd, Nat.reduceBEq, Nat.reduceEqDiff, Nat.reduceLeDiff, Nat.reduceLT, Nat.reduceSub, ↓reduceIte, forall_const, implies_true, ne_eq, reduceCtorEq, Int.reduceToNat, forall_eq]
  exact ⟨rfl, rfl⟩
theorem cells_free (L : List Cell) : ∀ e ∈ L.map (av : Cell → AV), ∀ x ∈ e.cells, x.free1 = true := fun e he x hx => by
  obtain ⟨c, _, rfl⟩ := List.mem_map.1 he
  rw [av_Cell] at hx
  simp only [AV.cells, List.mem_cons, List.not_mem_nil, or_false] at hx
  rcases hx with rfl | rfl | rfl | rfl | rfl | rfl | rfl | rfl | rfl <;> rfl
theorem sum_sub {α : Type} [DecidableEq α] (f : α → Nat) : ∀ {l m : List α}, l.Nodup → (∀ x ∈ l, x ∈ m) → (l.map f).sum ≤ (m.map f).sum
  | [], m, _, _ => by simp
  | x :: l, m, hn, hs => by
    have hx : x ∈ m := hs x (by simp)
    have h2 := List.nodup_cons.1 hn
    have h1 := sum_sub f (l := l) (m := m.erase x) h2.2 (fun y hy => (List.mem_erase_of_ne (fun e => h2.1 (by rw [← e]; exact hy))).2 (hs y (by simp [hy])))
    have h3 : (m.map f).sum = f x + ((m.erase x).map f).sum := by
      have hp := (List.perm_cons_erase hx).map f
      have := hp.sum_nat
      rw [this, List.map_cons, List.sum_cons]
    rw [List.map_cons, List.sum_cons, h3]
    omega
theorem copyV_bulk (R : List Nat) (v : Val) : Bulk.bulk (copyV R v) = Bulk.bulk v := by
  unfold copyV; split <;> rfl
theorem copyC_bulk (R : List Nat) (c : Cell) : Bulk.bulk (copyC R c) = Bulk.bulk c := by
  have h1 := copyV_bulk R c.a
  have h2 := copyV_bulk R c.b
  show Bulk.bulk c.kind + Bulk.bulk c.n + Bulk.bulk c.s + Bulk.bulk (copyV R c.a) + Bulk.bulk (copyV R c.b) + 1 = _
  rw [h1, h2]; rfl
theorem range_map_getD (h : List Cell) : (List.range h.length).map (fun i => h.getD i noCell) = h := by
  apply List.ext_getElem (by simp)
  intro i h1 h2
  simp [List.getD_eq_getElem?_getD, h2]
theorem copyH_bulk (h : List Cell) (roots : List Val) (hin : InO h.length (reachO h roots)) : Bulk.bulk (copyH h roots) ≤ Bulk.bulk h := by
  have h1 := sum_sub (fun i => Bulk.bulk (h.getD i noCell)) hin.1 (m := List.range h.length) (fun i hi => List.mem_range.2 (hin.2 i hi))
  have h2 : (List.range h.length).map (fun i => Bulk.bulk (h.getD i noCell)) = h.map Bulk.bulk := by
    conv => rhs; rw [← range_map_getD h, List.map_map]
    rfl
  rw [h2] at h1
  show ((copyH h roots).map Bulk.bulk).sum + 1 ≤ (h.map Bulk.bulk).sum + 1
  unfold copyH
  rw [List.map_map]
  have h3 : (reachO h roots).map (Bulk.bulk ∘ fun i => copyC (reachO h roots) (h.getD i noCell)) = (reachO h roots).map (fun i => Bulk.bulk (h.getD i noCell)) := List.map_congr_left fun i _ => copyC_bulk _ _
  rw [h3]
  omega
theorem copyR_bulk (h : List Cell) (roots : List Val) : Bulk.bulk (copyR h roots) = Bulk.bulk roots := by
  show ((copyR h roots).map Bulk.bulk).sum + 1 = (roots.map Bulk.bulk).sum + 1
  unfold copyR
  rw [List.map_map]
  have h3 : roots.map (Bulk.bulk ∘ copyV (reachO h roots)) = roots.map Bulk.bulk := List.map_congr_left fun v _ => copyV_bulk _ _
  rw [h3]
end Go.Proofs.Ytpnnhgminiihnaa
