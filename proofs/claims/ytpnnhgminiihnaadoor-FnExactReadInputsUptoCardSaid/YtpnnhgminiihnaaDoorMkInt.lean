/-
  MARKS ON A LIST OF INTS, by abstract texts. Conditions: none.
-/
import Derived.Test.YtpnnhgminiihnaaDoorAvRep
import Derived.Test.YtpnnhgminiihnaaDoorIrMarksI
set_option linter.unusedVariables false
set_option linter.unusedSimpArgs false
set_option maxRecDepth 100000
namespace Go.Proofs.YtpnnhgminiihnaaDoor
open Go.RowKit Go.Proofs.YtpnnhgminiihnaaDoor.Av Go.Proofs.YtpnnhgminiihnaaDoor.Ml
open Go.Proofs.YtpnnhgminiihnaaDoor.Av.AVal (av)

def mkI (k : Int) (n : Nat) : List Int := (List.range n).map fun (i : Nat) => k + (i : Int)
theorem mkI_len (k : Int) (n : Nat) : (mkI k n).length = n := by simp [mkI]
def mkIto (k : Int) (l : List Int) (i : Nat) : List Int := mkI k i ++ l.drop i
theorem mkIto_len {k : Int} {l : List Int} {i : Nat} (h : i ≤ l.length) : (mkIto k l i).length = l.length := by simp [mkIto, mkI_len]; omega
theorem mkIto_set {k : Int} {l : List Int} {i : Nat} (h : i < l.length) : (mkIto k l i).set i (k + (i : Int)) = mkIto k l (i + 1) := by
  unfold mkIto
  rw [List.set_append_right _ _ (by rw [mkI_len]; exact Nat.le_refl _), mkI_len, Nat.sub_self, List.drop_eq_getElem_cons h, List.set_cons_zero]
  unfold mkI
  rw [List.range_succ, List.map_append, List.append_assoc]; rfl
def MkIPost (kk v : Nat) (k : Int) (n : Nat) (r : AV) (hp' : Hp) : Prop := r = .int .i64 (k + (n : Int)) ∧ hp' = [(kk, ⟨v, false, 3, 1, (mkI k n).map av⟩)]
theorem markIntS_ok (kk v : Nat) (l : List Int) (k : Int) (h0 : 1 ≤ k) (h1 : k + (l.length : Int) ≤ 4611686018427387904) : CallsH Tryd.prog 11 [.row kk v l.length, .int .i64 k] [(kk, ⟨v, false, 3, 1, l.map av⟩)] (MkIPost kk v k l.length) := by
  refine funH_laws_markIntS rfl ?_
  simp +contextual -dsimp (maxSteps := 2000000) only [↓SD, SU, SB, Nat.reduceAdd, Nat.reduceBEq, Nat.reduceEqDiff, Nat.reduceLeDiff, Nat.reduceLT, Nat.reduceSub, ↓reduceIte, forall_const, implies_true, ne_eq, reduceCtorEq, Int.reduceToNat, forall_eq, Int.reduceEq, Int.reduceLT, Int.reduceLE, Int.reduceNeg, Int.reduceAdd, Int.reduceSub, ir_laws_markIntS, rs_laws_markIntS, map_len]
  refine aLoop_of (X := Nat) (fun i => ⟨[(0, .row kk v l.length), (1, .int .i64 (k + (i : Int))), (5, .int .i64 i)], [(kk, ⟨v, false, 3, 1, (mkIto k l i).map av⟩)]⟩) (fun i => i ≤ l.length) (fun i => l.length - i) 0 (Nat.zero_le _) (by simp +contextual -dsimp (maxSteps := 2000000) only [↓SD, SU, SB, Nat.reduceAdd, Nat.reduceBEq, Nat.reduceEqDiff, Nat.reduceLeDiff, Nat.reduceLT, Nat.reduceSub, ↓reduceIte, forall_const, implies_true, ne_eq, reduceCtorEq, Int.reduceToNat, forall_eq, Int.reduceEq, Int.reduceLT, Int.reduceLE, Int.reduceNeg, Int.reduceAdd, Int.reduceSub, Int.natCast_zero, Int.add_zero]) (by simp +contextual -dsimp (maxSteps := 2000000) only [↓SD, SU, SB, Nat.reduceAdd, Nat.reduceBEq, Nat.reduceEqDiff, Nat.reduceLeDiff, Nat.reduceLT, Nat.reduceSub, ↓reduceIte, forall_const, implies_true, ne_eq, reduceCtorEq, Int.reduceToNat, forall_eq, mkIto, mkI, List.range_zero, List.drop_zero]) ?_
  rintro i hi
  by_cases hlt : i < l.length
  · have e := getD_map av (mkIto k l i) i .top (by rw [mkIto_len (by omega)]; exact hlt)
    have hs : ((mkIto k l i).map (av : Int → AV)).set i (.int .i64 (k + (i : Int))) = (mkIto k l (i + 1)).map av := by rw [← mkIto_set hlt, List.map_set]; rfl
    rw [av_int] at e
    simp +contextual -dsimp (maxSteps := 2000000) only [↓SD, SU, SB, Nat.reduceAdd, Nat.reduceBEq, Nat.reduceEqDiff, Nat.reduceLeDiff, Nat.reduceLT, Nat.reduceSub, ↓reduceIte, forall_const, implies_true, ne_eq, reduceCtorEq, Int.reduceToNat, forall_eq, Int.reduceEq, Int.reduceLT, Int.reduceLE, Int.reduceNeg, Int.reduceAdd, Int.reduceSub, hlt, map_len, mkIto_len (Nat.le_of_lt hlt), e, hs]
    exact ⟨by omega, by omega, Goes.le ⟨i + 1, ⟨hlt, (by first | omega | (simp only; omega))⟩, rfl⟩ (by simp +contextual -dsimp (maxSteps := 2000000) only [↓SD, SU, SB, Nat.reduceAdd, Nat.reduceBEq, Nat.reduceEqDiff, Nat.reduceLeDiff, Nat.reduceLT, Nat.reduceSub, ↓reduceIte, forall_const, implies_true, ne_eq, reduceCtorEq, Int.reduceToNat, forall_eq, Int.natCast_add, Int.add_assoc]) (by simp +contextual -dsimp (maxSteps := 2000000) only [↓SD, SU, SB, Nat.reduceAdd, Nat.reduceBEq, Nat.reduceEqDiff, Nat.reduceLeDiff, Nat.reduceLT, Nat.reduceSub, ↓reduceIte, forall_const, implies_true, ne_eq, reduceCtorEq, Int.reduceToNat, forall_eq])⟩
  · obtain rfl : i = l.length := by omega
    have hf : mkIto k l l.length = mkI k l.length := by simp [mkIto]
    rw [hf]
    simp +contextual -dsimp (maxSteps := 2000000) only [↓SD, SU, SB, Nat.reduceAdd, Nat.reduceBEq, Nat.reduceEqDiff, Nat.reduceLeDiff, Nat.reduceLT, Nat.reduceSub, ↓reduceIte, forall_const, implies_true, ne_eq, reduceCtorEq, Int.reduceToNat, forall_eq, Int.reduceEq, Int.reduceLT, Int.reduceLE, Int.reduceNeg, Int.reduceAdd, Int.reduceSub, Nat.lt_irrefl, map_len]
    refine Goes.post [(kk, ⟨v, false, 3, 1, (mkI k l.length).map av⟩)] ?_
    simp +contextual -dsimp (maxSteps := 2000000) only [↓SD, SU, SB, Nat.reduceAdd, Nat.reduceBEq, Nat.reduceEqDiff, Nat.reduceLeDiff, Nat.reduceLT, Nat.reduceSub, ↓reduceIte, forall_const, implies_true, ne_eq, reduceCtorEq, Int.reduceToNat, forall_eq]
    exact ⟨rfl, rfl⟩
theorem heldIntS_ok (n : Nat) (k : Int) (h0 : 1 ≤ k) (h1 : k + (n : Int) ≤ 4611686018427387904) : CallsF Tryd.prog 12 [.sl ((mkI k n).map av), .int .i64 k] (.int .i64 (k + (n : Int))) := by
  refine fun_laws_heldIntS rfl (by simp; exact ⟨lav_clean _, pint _⟩) (pint _) ?_
  simp +contextual -dsimp (maxSteps := 2000000) only [↓SD, SU, SB, Nat.reduceAdd, Nat.reduceBEq, Nat.reduceEqDiff, Nat.reduceLeDiff, Nat.reduceLT, Nat.reduceSub, ↓reduceIte, forall_const, implies_true, ne_eq, reduceCtorEq, Int.reduceToNat, forall_eq, Int.reduceEq, Int.reduceLT, Int.reduceLE, Int.reduceNeg, Int.reduceAdd, Int.reduceSub, ir_laws_heldIntS, rs_laws_heldIntS, map_len, mkI_len]
  refine aLoop_of (X := Nat) (fun i => ⟨[(0, .sl ((mkI k n).map av)), (1, .int .i64 (k + (i : Int))), (5, .int .i64 i)], []⟩) (fun i => i ≤ n) (fun i => n - i) 0 (Nat.zero_le _) (by simp +contextual -dsimp (maxSteps := 2000000) only [↓SD, SU, SB, Nat.reduceAdd, Nat.reduceBEq, Nat.reduceEqDiff, Nat.reduceLeDiff, Nat.reduceLT, Nat.reduceSub, ↓reduceIte, forall_const, implies_true, ne_eq, reduceCtorEq, Int.reduceToNat, forall_eq, Int.reduceEq, Int.reduceLT, Int.reduceLE, Int.reduceNeg, Int.reduceAdd, Int.reduceSub, Int.natCast_zero, Int.add_zero]) trivial ?_
  rintro i hi
  by_cases hlt : i < n
  · have e := getD_map av (mkI k n) i .top (by rw [mkI_len]; exact hlt)
    have hg : (mkI k n)[i]'(by rw [mkI_len]; exact hlt) = k + (i : Int) := by simp [mkI]
    rw [hg, av_int] at e
    simp +contextual -dsimp (maxSteps := 2000000) only [↓SD, SU, SB, Nat.reduceAdd, Nat.reduceBEq, Nat.reduceEqDiff, Nat.reduceLeDiff, Nat.reduceLT, Nat.reduceSub, ↓reduceIte, forall_const, implies_true, ne_eq, reduceCtorEq, Int.reduceToNat, forall_eq, Int.reduceEq, Int.reduceLT, Int.reduceLE, Int.reduceNeg, Int.reduceAdd, Int.reduceSub, hlt, map_len, mkI_len, e]
    exact ⟨by omega, by omega, Goes.le ⟨i + 1, ⟨hlt, (by first | omega | (simp only; omega))⟩, rfl⟩ (by simp +contextual -dsimp (maxSteps := 2000000) only [↓SD, SU, SB, Nat.reduceAdd, Nat.reduceBEq, Nat.reduceEqDiff, Nat.reduceLeDiff, Nat.reduceLT, Nat.reduceSub, ↓reduceIte, forall_const, implies_true, ne_eq, reduceCtorEq, Int.reduceToNat, forall_eq, Int.natCast_add, Int.add_assoc]) trivial⟩
  · obtain rfl : i = n := by omega
    simp +contextual -dsimp (maxSteps := 2000000) only [↓SD, SU, SB, Nat.reduceAdd, Nat.reduceBEq, Nat.reduceEqDiff, Nat.reduceLeDiff, Nat.reduceLT, Nat.reduceSub, ↓reduceIte, forall_const, implies_true, ne_eq, reduceCtorEq, Int.reduceToNat, forall_eq, Int.reduceEq, Int.reduceLT, Int.reduceLE, Int.reduceNeg, Int.reduceAdd, Int.reduceSub, Nat.lt_irrefl, map_len, mkI_len]
theorem eqIntS_ok (l : List Int) (hl : l.length ≤ 1048576) : CallsF Tryd.prog 10 [.sl (l.map av), .sl (l.map av)] (.bool true) := by
  refine fun_laws_eqIntS rfl (by simp; exact lav_clean l) (AvPure.bool _) ?_
  simp +contextual -dsimp (maxSteps := 2000000) only [↓SD, SU, SB, Nat.reduceAdd, Nat.reduceBEq, Nat.reduceEqDiff, Nat.reduceLeDiff, Nat.reduceLT, Nat.reduceSub, ↓reduceIte, forall_const, implies_true, ne_eq, reduceCtorEq, Int.reduceToNat, forall_eq, Int.reduceEq, Int.reduceLT, Int.reduceLE, Int.reduceNeg, Int.reduceAdd, Int.reduceSub, ir_laws_eqIntS, rs_laws_eqIntS, map_len]
  refine aLoop_of (X := Nat) (fun i => ⟨[(0, .sl (l.map av)), (1, .sl (l.map av)), (5, .int .i64 i)], []⟩) (fun i => i ≤ l.length) (fun i => l.length - i) 0 (Nat.zero_le _) (by simp +contextual -dsimp (maxSteps := 2000000) only [↓SD, SU, SB, Nat.reduceAdd, Nat.reduceBEq, Nat.reduceEqDiff, Nat.reduceLeDiff, Nat.reduceLT, Nat.reduceSub, ↓reduceIte, forall_const, implies_true, ne_eq, reduceCtorEq, Int.reduceToNat, forall_eq]) trivial ?_
  rintro i hi
  by_cases hlt : i < l.length
  · have e := getD_map av l i .top hlt
    rw [av_int] at e
    simp +contextual -dsimp (maxSteps := 2000000) only [↓SD, SU, SB, Nat.reduceAdd, Nat.reduceBEq, Nat.reduceEqDiff, Nat.reduceLeDiff, Nat.reduceLT, Nat.reduceSub, ↓reduceIte, forall_const, implies_true, ne_eq, reduceCtorEq, Int.reduceToNat, forall_eq, Int.reduceEq, Int.reduceLT, Int.reduceLE, Int.reduceNeg, Int.reduceAdd, Int.reduceSub, hlt, map_len, e]
    exact ⟨by omega, Goes.le ⟨i + 1, ⟨hlt, (by first | omega | (simp only; omega))⟩, rfl⟩ (by simp +contextual -dsimp (maxSteps := 2000000) only [↓SD, SU, SB, Nat.reduceAdd, Nat.reduceBEq, Nat.reduceEqDiff, Nat.reduceLeDiff, Nat.reduceLT, Nat.reduceSub, ↓reduceIte, forall_const, implies_true, ne_eq, reduceCtorEq, Int.reduceToNat, forall_eq, Int.natCast_add]) trivial⟩
  · obtain rfl : i = l.length := by omega
    simp +contextual -dsimp (maxSteps := 2000000) only [↓SD, SU, SB, Nat.reduceAdd, Nat.reduceBEq, Nat.reduceEqDiff, Nat.reduceLeDiff, Nat.reduceLT, Nat.reduceSub, ↓reduceIte, forall_const, implies_true, ne_eq, reduceCtorEq, Int.reduceToNat, forall_eq, Int.reduceEq, Int.reduceLT, Int.reduceLE, Int.reduceNeg, Int.reduceAdd, Int.reduceSub, Nat.lt_irrefl, map_len]
end Go.Proofs.YtpnnhgminiihnaaDoor
