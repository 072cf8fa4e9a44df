/-
  TextNum, of the program and of the reference, by abstract texts. Conditions: none.
-/
import Derived.Test.YtpnnhgminiihnaaDoorTextP
import Derived.Test.YtpnnhgminiihnaaDoorNumI
import Derived.Test.YtpnnhgminiihnaaDoorIrText
set_option linter.unusedVariables false
set_option linter.unusedSimpArgs false
set_option maxRecDepth 100000
namespace Go.Proofs.YtpnnhgminiihnaaDoor
open Go.RowKit Go.Proofs.YtpnnhgminiihnaaDoor.Av Go.Proofs.YtpnnhgminiihnaaDoor.Ml
open Go.Proofs.YtpnnhgminiihnaaDoor.Av.AVal (av)

theorem isDigit_ok (b : UInt8) : CallsF Tryd.prog 49 [.int .u8 (b.toNat : Int)] (.bool (decide (48 ≤ b.toNat ∧ b.toNat ≤ 57))) := by
  refine fun_impl_isDigit rfl (by simp; exact pu8 _) (AvPure.bool _) ?_
  by_cases h1 : (48 : Int) ≤ b.toNat
  · by_cases h2 : (b.toNat : Int) ≤ 57
    · rw [decide_eq_true (p := 48 ≤ b.toNat ∧ b.toNat ≤ 57) (by omega)]
      simp +contextual -dsimp (maxSteps := 2000000) only [↓SD, SU, SB, Nat.reduceAdd, Nat.reduceBEq, Nat.reduceEqDiff, Nat.reduceLeDiff, Nat.reduceLT, Nat.reduceSub, ↓reduceIte, forall_const, implies_true, ne_eq, reduceCtorEq, Int.reduceToNat, forall_eq, Int.reduceEq, Int.reduceLT, Int.reduceLE, Int.reduceNeg, Int.reduceAdd, Int.reduceSub, ir_impl_isDigit, rs_impl_isDigit, h1, h2]
    · rw [decide_eq_false (p := 48 ≤ b.toNat ∧ b.toNat ≤ 57) (by omega)]
      simp +contextual -dsimp (maxSteps := 2000000) only [↓SD, SU, SB, Nat.reduceAdd, Nat.reduceBEq, Nat.reduceEqDiff, Nat.reduceLeDiff, Nat.reduceLT, Nat.reduceSub, ↓reduceIte, forall_const, implies_true, ne_eq, reduceCtorEq, Int.reduceToNat, forall_eq, Int.reduceEq, Int.reduceLT, Int.reduceLE, Int.reduceNeg, Int.reduceAdd, Int.reduceSub, ir_impl_isDigit, rs_impl_isDigit, h1, h2]
  · rw [decide_eq_false (p := 48 ≤ b.toNat ∧ b.toNat ≤ 57) (by omega)]
    simp +contextual -dsimp (maxSteps := 2000000) only [↓SD, SU, SB, Nat.reduceAdd, Nat.reduceBEq, Nat.reduceEqDiff, Nat.reduceLeDiff, Nat.reduceLT, Nat.reduceSub, ↓reduceIte, forall_const, implies_true, ne_eq, reduceCtorEq, Int.reduceToNat, forall_eq, Int.reduceEq, Int.reduceLT, Int.reduceLE, Int.reduceNeg, Int.reduceAdd, Int.reduceSub, ir_impl_isDigit, rs_impl_isDigit, h1]
theorem implTextNum_ok (s : ByteArray) : CallsF Tryd.prog 31 [.str s] (textR s) := by
  refine fun_impl_TextNum rfl (by simp; exact AvPure.str _) (textR_pure s) ?_
  by_cases h0 : (s.size : Int) = 0
  · rw [textR_no s (textN_size s (.inl (by omega)))]
    simp +contextual -dsimp (maxSteps := 2000000) only [↓SD, SU, SB, Nat.reduceAdd, Nat.reduceBEq, Nat.reduceEqDiff, Nat.reduceLeDiff, Nat.reduceLT, Nat.reduceSub, ↓reduceIte, forall_const, implies_true, ne_eq, reduceCtorEq, Int.reduceToNat, forall_eq, Int.reduceEq, Int.reduceLT, Int.reduceLE, Int.reduceNeg, Int.reduceAdd, Int.reduceSub, ir_impl_TextNum, rs_impl_TextNum, h0]
  by_cases h20 : (20 : Int) < s.size
  · rw [textR_no s (textN_size s (.inr (by omega)))]
    simp +contextual -dsimp (maxSteps := 2000000) only [↓SD, SU, SB, Nat.reduceAdd, Nat.reduceBEq, Nat.reduceEqDiff, Nat.reduceLeDiff, Nat.reduceLT, Nat.reduceSub, ↓reduceIte, forall_const, implies_true, ne_eq, reduceCtorEq, Int.reduceToNat, forall_eq, Int.reduceEq, Int.reduceLT, Int.reduceLE, Int.reduceNeg, Int.reduceAdd, Int.reduceSub, ir_impl_TextNum, rs_impl_TextNum, h0, h20]
  have hz : ¬ (s.size = 0 ∨ 20 < s.size) := by omega
  have hs0 : (0 : Int) < s.size := by omega
  have hm := minus_le s
  have key : (minus s = 1 ∧ ((byteAt s 0).toNat : Int) = 45) ∨ (minus s = 0 ∧ ¬ ((byteAt s 0).toNat : Int) = 45) := by unfold minus; split <;> omega
  rcases key with ⟨hm1, h45⟩ | ⟨hm1, h45⟩
  all_goals
    simp +contextual -dsimp (maxSteps := 2000000) only [↓SD, SU, SB, Nat.reduceAdd, Nat.reduceBEq, Nat.reduceEqDiff, Nat.reduceLeDiff, Nat.reduceLT, Nat.reduceSub, ↓reduceIte, forall_const, implies_true, ne_eq, reduceCtorEq, Int.reduceToNat, forall_eq, Int.reduceEq, Int.reduceLT, Int.reduceLE, Int.reduceNeg, Int.reduceAdd, Int.reduceSub, ir_impl_TextNum, rs_impl_TextNum, h0, h20, h45, hs0]
    refine aLoop_of (X := Nat × Nat) (fun x => ⟨[(0, .str s), (4, .int .i64 (minus s : Int)), (5, .int .i64 x.2), (6, .int .i64 x.1)], []⟩) (fun x => TPre s x.1 x.2) (fun x => s.size - x.1) (minus s, 0) (TPre_start s (by omega)) (by simp +contextual -dsimp (maxSteps := 2000000) only [↓SD, SU, SB, Nat.reduceAdd, Nat.reduceBEq, Nat.reduceEqDiff, Nat.reduceLeDiff, Nat.reduceLT, Nat.reduceSub, ↓reduceIte, forall_const, implies_true, ne_eq, reduceCtorEq, Int.reduceToNat, forall_eq, hm1]) (by simp +contextual -dsimp (maxSteps := 2000000) only [↓SD, SU, SB, Nat.reduceAdd, Nat.reduceBEq, Nat.reduceEqDiff, Nat.reduceLeDiff, Nat.reduceLT, Nat.reduceSub, ↓reduceIte, forall_const, implies_true, ne_eq, reduceCtorEq, Int.reduceToNat, forall_eq]) ?_
    rintro ⟨i, n⟩ hp
    have hp' := hp
    obtain ⟨p1, p2, p3, p4⟩ := hp'
    simp only at hp p1 p2 p3 p4
    by_cases hlt : i < s.size
    · have C := isDigit_ok (byteAt s i)
      have hnx := TPre_next s hp hlt
      have hbad := TPre_bad s hp hlt
      have hb := b8 s i
      obtain ⟨b, hbe⟩ : ∃ b, b = byteAt s i := ⟨_, rfl⟩
      rw [← hbe] at C hnx hbad hb
      simp +contextual -dsimp (maxSteps := 2000000) only [↓SD, SU, SB, Nat.reduceAdd, Nat.reduceBEq, Nat.reduceEqDiff, Nat.reduceLeDiff, Nat.reduceLT, Nat.reduceSub, ↓reduceIte, forall_const, implies_true, ne_eq, reduceCtorEq, Int.reduceToNat, forall_eq, Int.reduceEq, Int.reduceLT, Int.reduceLE, Int.reduceNeg, Int.reduceAdd, Int.reduceSub, hlt, ← hbe]
      by_cases hd : 48 ≤ b.toNat ∧ b.toNat ≤ 57
      · rw [decide_eq_true hd] at C
        refine aCallK_of _ C ?_
        have hsub : ((b.toNat : Int) - 48) = ((b.toNat - 48 : Nat) : Int) := by omega
        by_cases hn : (500000000000000000 : Int) < n
        · have hno := hbad (by omega)
          rw [hno]
          simp +contextual -dsimp (maxSteps := 2000000) only [↓SD, SU, SB, Nat.reduceAdd, Nat.reduceBEq, Nat.reduceEqDiff, Nat.reduceLeDiff, Nat.reduceLT, Nat.reduceSub, ↓reduceIte, forall_const, implies_true, ne_eq, reduceCtorEq, Int.reduceToNat, forall_eq, Int.reduceEq, Int.reduceLT, Int.reduceLE, Int.reduceNeg, Int.reduceAdd, Int.reduceSub, hlt, ← hbe, hn]
        · have hy := hnx hd (by omega)
          simp +contextual -dsimp (maxSteps := 2000000) only [↓SD, SU, SB, Nat.reduceAdd, Nat.reduceBEq, Nat.reduceEqDiff, Nat.reduceLeDiff, Nat.reduceLT, Nat.reduceSub, ↓reduceIte, forall_const, implies_true, ne_eq, reduceCtorEq, Int.reduceToNat, forall_eq, Int.reduceEq, Int.reduceLT, Int.reduceLE, Int.reduceNeg, Int.reduceAdd, Int.reduceSub, hlt, ← hbe, hn, hsub]
          refine ⟨⟨by omega, by omega⟩, by omega, ⟨by omega, by omega⟩, ⟨by omega, by omega⟩, ⟨by omega, by omega⟩, Goes.le ⟨(i + 1, 10 * n + (b.toNat - 48)), ⟨hy, (by first | omega | (simp only; omega))⟩, rfl⟩ (by simp +contextual -dsimp (maxSteps := 2000000) only [↓SD, SU, SB, Nat.reduceAdd, Nat.reduceBEq, Nat.reduceEqDiff, Nat.reduceLeDiff, Nat.reduceLT, Nat.reduceSub, ↓reduceIte, forall_const, implies_true, ne_eq, reduceCtorEq, Int.reduceToNat, forall_eq, Int.natCast_add, Int.natCast_mul]) (by simp +contextual -dsimp (maxSteps := 2000000) only [↓SD, SU, SB, Nat.reduceAdd, Nat.reduceBEq, Nat.reduceEqDiff, Nat.reduceLeDiff, Nat.reduceLT, Nat.reduceSub, ↓reduceIte, forall_const, implies_true, ne_eq, reduceCtorEq, Int.reduceToNat, forall_eq])⟩
      · rw [decide_eq_false hd] at C
        rw [hbad (by omega)]
        refine aCallK_of _ C ?_
        simp +contextual -dsimp (maxSteps := 2000000) only [↓SD, SU, SB, Nat.reduceAdd, Nat.reduceBEq, Nat.reduceEqDiff, Nat.reduceLeDiff, Nat.reduceLT, Nat.reduceSub, ↓reduceIte, forall_const, implies_true, ne_eq, reduceCtorEq, Int.reduceToNat, forall_eq, Int.reduceEq, Int.reduceLT, Int.reduceLE, Int.reduceNeg, Int.reduceAdd, Int.reduceSub, hlt, ← hbe]
    · obtain rfl : i = s.size := by omega
      have he := TPre_end s hp hz
      rw [hm1] at he
      simp only [show ((1 : Nat) = 1) = True from by simp, show ((0 : Nat) = 1) = False from by simp, if_true, if_false] at he
      simp +contextual -dsimp (maxSteps := 2000000) only [↓SD, SU, SB, Nat.reduceAdd, Nat.reduceBEq, Nat.reduceEqDiff, Nat.reduceLeDiff, Nat.reduceLT, Nat.reduceSub, ↓reduceIte, forall_const, implies_true, ne_eq, reduceCtorEq, Int.reduceToNat, forall_eq, Int.reduceEq, Int.reduceLT, Int.reduceLE, Int.reduceNeg, Int.reduceAdd, Int.reduceSub, Nat.lt_irrefl, hm1]
      first
        | refine ⟨⟨by omega, by omega⟩, aCallK_of _ (implNumText_ok (-(n : Int)) (by omega)) ?_⟩
        | refine aCallK_of _ (implNumText_ok (n : Int) (by omega)) ?_
      first
        | (by_cases hs : numS (-(n : Int)) = s
           · rw [if_pos hs] at he
             rw [he]
             simp +contextual -dsimp (maxSteps := 2000000) only [↓SD, SU, SB, Nat.reduceAdd, Nat.reduceBEq, Nat.reduceEqDiff, Nat.reduceLeDiff, Nat.reduceLT, Nat.reduceSub, ↓reduceIte, forall_const, implies_true, ne_eq, reduceCtorEq, Int.reduceToNat, forall_eq, Int.reduceEq, Int.reduceLT, Int.reduceLE, Int.reduceNeg, Int.reduceAdd, Int.reduceSub, hs]
           · rw [if_neg hs] at he
             rw [he]
             simp +contextual -dsimp (maxSteps := 2000000) only [↓SD, SU, SB, Nat.reduceAdd, Nat.reduceBEq, Nat.reduceEqDiff, Nat.reduceLeDiff, Nat.reduceLT, Nat.reduceSub, ↓reduceIte, forall_const, implies_true, ne_eq, reduceCtorEq, Int.reduceToNat, forall_eq, Int.reduceEq, Int.reduceLT, Int.reduceLE, Int.reduceNeg, Int.reduceAdd, Int.reduceSub, hs])
        | (by_cases hs : numS (n : Int) = s
           · rw [if_pos hs] at he
             rw [he]
             simp +contextual -dsimp (maxSteps := 2000000) only [↓SD, SU, SB, Nat.reduceAdd, Nat.reduceBEq, Nat.reduceEqDiff, Nat.reduceLeDiff, Nat.reduceLT, Nat.reduceSub, ↓reduceIte, forall_const, implies_true, ne_eq, reduceCtorEq, Int.reduceToNat, forall_eq, Int.reduceEq, Int.reduceLT, Int.reduceLE, Int.reduceNeg, Int.reduceAdd, Int.reduceSub, hs]
           · rw [if_neg hs] at he
             rw [he]
             simp +contextual -dsimp (maxSteps := 2000000) only [↓SD, SU, SB, Nat.reduceAdd, Nat.reduceBEq, Nat.reduceEqDiff, Nat.reduceLeDiff, Nat.reduceLT, Nat.reduceSub, ↓reduceIte, forall_const, implies_true, ne_eq, reduceCtorEq, Int.reduceToNat, forall_eq, Int.reduceEq, Int.reduceLT, Int.reduceLE, Int.reduceNeg, Int.reduceAdd, Int.reduceSub, hs])
theorem specTextNum_ok (s : ByteArray) : CallsF Tryd.prog 28 [.str s] (textR s) := by
  refine fun_spec_TextNum rfl (by simp; exact AvPure.str _) (textR_pure s) ?_
  by_cases h0 : (s.size : Int) < 1
  · rw [textR_no s (textN_size s (.inl (by omega)))]
    simp +contextual -dsimp (maxSteps := 2000000) only [↓SD, SU, SB, Nat.reduceAdd, Nat.reduceBEq, Nat.reduceEqDiff, Nat.reduceLeDiff, Nat.reduceLT, Nat.reduceSub, ↓reduceIte, forall_const, implies_true, ne_eq, reduceCtorEq, Int.reduceToNat, forall_eq, Int.reduceEq, Int.reduceLT, Int.reduceLE, Int.reduceNeg, Int.reduceAdd, Int.reduceSub, ir_spec_TextNum, rs_spec_TextNum, h0]
  by_cases h20 : (20 : Int) < s.size
  · rw [textR_no s (textN_size s (.inr (by omega)))]
    simp +contextual -dsimp (maxSteps := 2000000) only [↓SD, SU, SB, Nat.reduceAdd, Nat.reduceBEq, Nat.reduceEqDiff, Nat.reduceLeDiff, Nat.reduceLT, Nat.reduceSub, ↓reduceIte, forall_const, implies_true, ne_eq, reduceCtorEq, Int.reduceToNat, forall_eq, Int.reduceEq, Int.reduceLT, Int.reduceLE, Int.reduceNeg, Int.reduceAdd, Int.reduceSub, ir_spec_TextNum, rs_spec_TextNum, h0, h20]
  have hz : ¬ (s.size = 0 ∨ 20 < s.size) := by omega
  have hs0 : (0 : Int) < s.size := by omega
  have hm := minus_le s
  simp +contextual -dsimp (maxSteps := 2000000) only [↓SD, SU, SB, Nat.reduceAdd, Nat.reduceBEq, Nat.reduceEqDiff, Nat.reduceLeDiff, Nat.reduceLT, Nat.reduceSub, ↓reduceIte, forall_const, implies_true, ne_eq, reduceCtorEq, Int.reduceToNat, forall_eq, Int.reduceEq, Int.reduceLT, Int.reduceLE, Int.reduceNeg, Int.reduceAdd, Int.reduceSub, ir_spec_TextNum, rs_spec_TextNum, h0, h20, hs0]
  have hbt : minus s = 1 ↔ ((byteAt s 0).toNat : Int) = 45 := by unfold minus; split <;> omega
  have hst0 : (((0, 0) : Nat × Nat) = (0, 0) ∧ minus s = 1) ∨ TPre s 0 0 := by
    by_cases h : minus s = 1
    · exact .inl ⟨rfl, h⟩
    · have := TPre_start s (by omega)
      rw [show minus s = 0 by omega] at this
      exact .inr this
  refine aLoop_of (X := Nat × Nat) (fun x => ⟨[(0, .str s), (4, .int .i64 x.2), (5, .int .i64 x.1)], []⟩) (fun x => (x = (0, 0) ∧ minus s = 1) ∨ TPre s x.1 x.2) (fun x => s.size - x.1) (0, 0) (hst0) (by simp +contextual -dsimp (maxSteps := 2000000) only [↓SD, SU, SB, Nat.reduceAdd, Nat.reduceBEq, Nat.reduceEqDiff, Nat.reduceLeDiff, Nat.reduceLT, Nat.reduceSub, ↓reduceIte, forall_const, implies_true, ne_eq, reduceCtorEq, Int.reduceToNat, forall_eq]) (by simp +contextual -dsimp (maxSteps := 2000000) only [↓SD, SU, SB, Nat.reduceAdd, Nat.reduceBEq, Nat.reduceEqDiff, Nat.reduceLeDiff, Nat.reduceLT, Nat.reduceSub, ↓reduceIte, forall_const, implies_true, ne_eq, reduceCtorEq, Int.reduceToNat, forall_eq]) ?_
  rintro ⟨i, n⟩ hp
  rcases hp with ⟨hp, hm1⟩ | hp
  · cases hp
    have h45 := hbt.1 hm1
    have hlt : (0 : Nat) < s.size := by omega
    have hst := TPre_start s (by omega)
    rw [hm1] at hst
    simp +contextual -dsimp (maxSteps := 2000000) only [↓SD, SU, SB, Nat.reduceAdd, Nat.reduceBEq, Nat.reduceEqDiff, Nat.reduceLeDiff, Nat.reduceLT, Nat.reduceSub, ↓reduceIte, forall_const, implies_true, ne_eq, reduceCtorEq, Int.reduceToNat, forall_eq, Int.reduceEq, Int.reduceLT, Int.reduceLE, Int.reduceNeg, Int.reduceAdd, Int.reduceSub, hlt, hs0, h45]
    exact Goes.le ⟨(1, 0), ⟨.inr hst, (by first | omega | (simp only; omega))⟩, rfl⟩ (by simp +contextual -dsimp (maxSteps := 2000000) only [↓SD, SU, SB, Nat.reduceAdd, Nat.reduceBEq, Nat.reduceEqDiff, Nat.reduceLeDiff, Nat.reduceLT, Nat.reduceSub, ↓reduceIte, forall_const, implies_true, ne_eq, reduceCtorEq, Int.reduceToNat, forall_eq]) (by simp +contextual -dsimp (maxSteps := 2000000) only [↓SD, SU, SB, Nat.reduceAdd, Nat.reduceBEq, Nat.reduceEqDiff, Nat.reduceLeDiff, Nat.reduceLT, Nat.reduceSub, ↓reduceIte, forall_const, implies_true, ne_eq, reduceCtorEq, Int.reduceToNat, forall_eq])
  have hp' := hp
  obtain ⟨p1, p2, p3, p4⟩ := hp'
  simp only at hp p1 p2 p3 p4
  by_cases hlt : i < s.size
  · have h26 : ¬ ((i : Int) = 0 ∧ ((byteAt s i).toNat : Int) = 45) := by
      rintro ⟨ha, hb⟩
      obtain rfl : i = 0 := by omega
      have := hbt.2 hb
      omega
    have hnx := TPre_next s hp hlt
    have hbad := TPre_bad s hp hlt
    have hb := b8 s i
    obtain ⟨b, hbe⟩ : ∃ b, b = byteAt s i := ⟨_, rfl⟩
    rw [← hbe] at hnx hbad hb h26
    have hsub : 48 ≤ b.toNat → ((b.toNat : Int) - 48) = ((b.toNat - 48 : Nat) : Int) := by omega
    by_cases hi0 : (i : Int) = 0
    · obtain rfl : i = 0 := by omega
      have g45 : ¬ (b.toNat : Int) = 45 := fun h => h26 ⟨rfl, h⟩
      by_cases hd1 : (b.toNat : Int) < 48
      · rw [hbad (by omega)]
        simp +contextual -dsimp (maxSteps := 2000000) only [↓SD, SU, SB, Nat.reduceAdd, Nat.reduceBEq, Nat.reduceEqDiff, Nat.reduceLeDiff, Nat.reduceLT, Nat.reduceSub, ↓reduceIte, forall_const, implies_true, ne_eq, reduceCtorEq, Int.reduceToNat, forall_eq, Int.reduceEq, Int.reduceLT, Int.reduceLE, Int.reduceNeg, Int.reduceAdd, Int.reduceSub, hlt, hs0, ← hbe, g45, hd1]
      by_cases hd2 : (57 : Int) < b.toNat
      · rw [hbad (by omega)]
        simp +contextual -dsimp (maxSteps := 2000000) only [↓SD, SU, SB, Nat.reduceAdd, Nat.reduceBEq, Nat.reduceEqDiff, Nat.reduceLeDiff, Nat.reduceLT, Nat.reduceSub, ↓reduceIte, forall_const, implies_true, ne_eq, reduceCtorEq, Int.reduceToNat, forall_eq, Int.reduceEq, Int.reduceLT, Int.reduceLE, Int.reduceNeg, Int.reduceAdd, Int.reduceSub, hlt, hs0, ← hbe, g45, hd1, hd2]
      by_cases hn : (500000000000000000 : Int) < n
      · rw [hbad (by omega)]
        simp +contextual -dsimp (maxSteps := 2000000) only [↓SD, SU, SB, Nat.reduceAdd, Nat.reduceBEq, Nat.reduceEqDiff, Nat.reduceLeDiff, Nat.reduceLT, Nat.reduceSub, ↓reduceIte, forall_const, implies_true, ne_eq, reduceCtorEq, Int.reduceToNat, forall_eq, Int.reduceEq, Int.reduceLT, Int.reduceLE, Int.reduceNeg, Int.reduceAdd, Int.reduceSub, hlt, hs0, ← hbe, g45, hd1, hd2, hn]
      have hy := hnx (by omega) (by omega)
      have hsub := hsub (by omega)
      have hcm : (n : Int) * 10 = 10 * (n : Int) := Int.mul_comm _ _
      simp +contextual -dsimp (maxSteps := 2000000) only [↓SD, SU, SB, Nat.reduceAdd, Nat.reduceBEq, Nat.reduceEqDiff, Nat.reduceLeDiff, Nat.reduceLT, Nat.reduceSub, ↓reduceIte, forall_const, implies_true, ne_eq, reduceCtorEq, Int.reduceToNat, forall_eq, Int.reduceEq, Int.reduceLT, Int.reduceLE, Int.reduceNeg, Int.reduceAdd, Int.reduceSub, hlt, hs0, ← hbe, g45, hd1, hd2, hn, hsub, hcm]
      refine ⟨⟨by omega, by omega⟩, by omega, ⟨by omega, by omega⟩, ⟨by omega, by omega⟩, Goes.le ⟨(1, 10 * n + (b.toNat - 48)), ⟨.inr hy, (by first | omega | (simp only; omega))⟩, rfl⟩ (by simp +contextual -dsimp (maxSteps := 2000000) only [↓SD, SU, SB, Nat.reduceAdd, Nat.reduceBEq, Nat.reduceEqDiff, Nat.reduceLeDiff, Nat.reduceLT, Nat.reduceSub, ↓reduceIte, forall_const, implies_true, ne_eq, reduceCtorEq, Int.reduceToNat, forall_eq, Int.natCast_add, Int.natCast_mul]) (by simp +contextual -dsimp (maxSteps := 2000000) only [↓SD, SU, SB, Nat.reduceAdd, Nat.reduceBEq, Nat.reduceEqDiff, Nat.reduceLeDiff, Nat.reduceLT, Nat.reduceSub, ↓reduceIte, forall_const, implies_true, ne_eq, reduceCtorEq, Int.reduceToNat, forall_eq])⟩
    · by_cases hd1 : (b.toNat : Int) < 48
      · rw [hbad (by omega)]
        simp +contextual -dsimp (maxSteps := 2000000) only [↓SD, SU, SB, Nat.reduceAdd, Nat.reduceBEq, Nat.reduceEqDiff, Nat.reduceLeDiff, Nat.reduceLT, Nat.reduceSub, ↓reduceIte, forall_const, implies_true, ne_eq, reduceCtorEq, Int.reduceToNat, forall_eq, Int.reduceEq, Int.reduceLT, Int.reduceLE, Int.reduceNeg, Int.reduceAdd, Int.reduceSub, hlt, ← hbe, hi0, hd1]
      by_cases hd2 : (57 : Int) < b.toNat
      · rw [hbad (by omega)]
        simp +contextual -dsimp (maxSteps := 2000000) only [↓SD, SU, SB, Nat.reduceAdd, Nat.reduceBEq, Nat.reduceEqDiff, Nat.reduceLeDiff, Nat.reduceLT, Nat.reduceSub, ↓reduceIte, forall_const, implies_true, ne_eq, reduceCtorEq, Int.reduceToNat, forall_eq, Int.reduceEq, Int.reduceLT, Int.reduceLE, Int.reduceNeg, Int.reduceAdd, Int.reduceSub, hlt, ← hbe, hi0, hd1, hd2]
      by_cases hn : (500000000000000000 : Int) < n
      · rw [hbad (by omega)]
        simp +contextual -dsimp (maxSteps := 2000000) only [↓SD, SU, SB, Nat.reduceAdd, Nat.reduceBEq, Nat.reduceEqDiff, Nat.reduceLeDiff, Nat.reduceLT, Nat.reduceSub, ↓reduceIte, forall_const, implies_true, ne_eq, reduceCtorEq, Int.reduceToNat, forall_eq, Int.reduceEq, Int.reduceLT, Int.reduceLE, Int.reduceNeg, Int.reduceAdd, Int.reduceSub, hlt, ← hbe, hi0, hd1, hd2, hn]
      have hy := hnx (by omega) (by omega)
      have hsub := hsub (by omega)
      have hcm : (n : Int) * 10 = 10 * (n : Int) := Int.mul_comm _ _
      simp +contextual -dsimp (maxSteps := 2000000) only [↓SD, SU, SB, Nat.reduceAdd, Nat.reduceBEq, Nat.reduceEqDiff, Nat.reduceLeDiff, Nat.reduceLT, Nat.reduceSub, ↓reduceIte, forall_const, implies_true, ne_eq, reduceCtorEq, Int.reduceToNat, forall_eq, Int.reduceEq, Int.reduceLT, Int.reduceLE, Int.reduceNeg, Int.reduceAdd, Int.reduceSub, hlt, ← hbe, hi0, hd1, hd2, hn, hsub, hcm]
      refine ⟨⟨by omega, by omega⟩, by omega, ⟨by omega, by omega⟩, ⟨by omega, by omega⟩, ⟨by omega, by omega⟩, Goes.le ⟨(i + 1, 10 * n + (b.toNat - 48)), ⟨.inr hy, (by first | omega | (simp only; omega))⟩, rfl⟩ (by simp +contextual -dsimp (maxSteps := 2000000) only [↓SD, SU, SB, Nat.reduceAdd, Nat.reduceBEq, Nat.reduceEqDiff, Nat.reduceLeDiff, Nat.reduceLT, Nat.reduceSub, ↓reduceIte, forall_const, implies_true, ne_eq, reduceCtorEq, Int.reduceToNat, forall_eq, Int.natCast_add, Int.natCast_mul]) (by simp +contextual -dsimp (maxSteps := 2000000) only [↓SD, SU, SB, Nat.reduceAdd, Nat.reduceBEq, Nat.reduceEqDiff, Nat.reduceLeDiff, Nat.reduceLT, Nat.reduceSub, ↓reduceIte, forall_const, implies_true, ne_eq, reduceCtorEq, Int.reduceToNat, forall_eq])⟩
  · obtain rfl : i = s.size := by omega
    have he := TPre_end s hp hz
    by_cases hm1 : minus s = 1
    · have h45 := hbt.1 hm1
      rw [hm1] at he
      simp only [if_true] at he
      simp +contextual -dsimp (maxSteps := 2000000) only [↓SD, SU, SB, Nat.reduceAdd, Nat.reduceBEq, Nat.reduceEqDiff, Nat.reduceLeDiff, Nat.reduceLT, Nat.reduceSub, ↓reduceIte, forall_const, implies_true, ne_eq, reduceCtorEq, Int.reduceToNat, forall_eq, Int.reduceEq, Int.reduceLT, Int.reduceLE, Int.reduceNeg, Int.reduceAdd, Int.reduceSub, Nat.lt_irrefl, hs0, h45]
      refine ⟨⟨by omega, by omega⟩, aCallK_of _ (specNumText_ok (-(n : Int)) (by omega)) ?_⟩
      by_cases hs : numS (-(n : Int)) = s
      · rw [if_pos hs] at he
        rw [he]
        simp +contextual -dsimp (maxSteps := 2000000) only [↓SD, SU, SB, Nat.reduceAdd, Nat.reduceBEq, Nat.reduceEqDiff, Nat.reduceLeDiff, Nat.reduceLT, Nat.reduceSub, ↓reduceIte, forall_const, implies_true, ne_eq, reduceCtorEq, Int.reduceToNat, forall_eq, Int.reduceEq, Int.reduceLT, Int.reduceLE, Int.reduceNeg, Int.reduceAdd, Int.reduceSub, hs]
      · rw [if_neg hs] at he
        rw [he]
        simp +contextual -dsimp (maxSteps := 2000000) only [↓SD, SU, SB, Nat.reduceAdd, Nat.reduceBEq, Nat.reduceEqDiff, Nat.reduceLeDiff, Nat.reduceLT, Nat.reduceSub, ↓reduceIte, forall_const, implies_true, ne_eq, reduceCtorEq, Int.reduceToNat, forall_eq, Int.reduceEq, Int.reduceLT, Int.reduceLE, Int.reduceNeg, Int.reduceAdd, Int.reduceSub, hs]
    · have h45 : ¬ ((byteAt s 0).toNat : Int) = 45 := fun h => hm1 (hbt.2 h)
      simp only [if_neg hm1] at he
      simp +contextual -dsimp (maxSteps := 2000000) only [↓SD, SU, SB, Nat.reduceAdd, Nat.reduceBEq, Nat.reduceEqDiff, Nat.reduceLeDiff, Nat.reduceLT, Nat.reduceSub, ↓reduceIte, forall_const, implies_true, ne_eq, reduceCtorEq, Int.reduceToNat, forall_eq, Int.reduceEq, Int.reduceLT, Int.reduceLE, Int.reduceNeg, Int.reduceAdd, Int.reduceSub, Nat.lt_irrefl, hs0, h45]
      refine aCallK_of _ (specNumText_ok (n : Int) (by omega)) ?_
      by_cases hs : numS (n : Int) = s
      · rw [if_pos hs] at he
        rw [he]
        simp +contextual -dsimp (maxSteps := 2000000) only [↓SD, SU, SB, Nat.reduceAdd, Nat.reduceBEq, Nat.reduceEqDiff, Nat.reduceLeDiff, Nat.reduceLT, Nat.reduceSub, ↓reduceIte, forall_const, implies_true, ne_eq, reduceCtorEq, Int.reduceToNat, forall_eq, Int.reduceEq, Int.reduceLT, Int.reduceLE, Int.reduceNeg, Int.reduceAdd, Int.reduceSub, hs]
      · rw [if_neg hs] at he
        rw [he]
        simp +contextual -dsimp (maxSteps := 2000000) only [↓SD, SU, SB, Nat.reduceAdd, Nat.reduceBEq, Nat.reduceEqDiff, Nat.reduceLeDiff, Nat.reduceLT, Nat.reduceSub, ↓reduceIte, forall_const, implies_true, ne_eq, reduceCtorEq, Int.reduceToNat, forall_eq, Int.reduceEq, Int.reduceLT, Int.reduceLE, Int.reduceNeg, Int.reduceAdd, Int.reduceSub, hs]
end Go.Proofs.YtpnnhgminiihnaaDoor
