/-
  ReadInputs of the reference, by its abstract text. Conditions: none.
-/
import Derived.Test.YtpnnhgminiihnaaDoorInputP
import Derived.Test.YtpnnhgminiihnaaDoorIrInputs
set_option linter.unusedVariables false
set_option linter.unusedSimpArgs false
set_option maxRecDepth 100000
namespace Go.Proofs.YtpnnhgminiihnaaDoor
open Go.RowKit Go.Proofs.YtpnnhgminiihnaaDoor.Av Go.Proofs.YtpnnhgminiihnaaDoor.Ml
open Go.Proofs.YtpnnhgminiihnaaDoor.Av.AVal (av)

theorem inputs_no {s : ByteArray} (h : inputsO s = none) : inputsR s = .tup [.nils, .bool false] := by unfold inputsR; rw [h]
theorem inputs_yes {s : ByteArray} {l : List Int} (h : inputsO s = some l) : inputsR s = .tup [.sl (l.map av), .bool true] := by unfold inputsR; rw [h]
structure IS where
  i : Nat
  a : Nat
  out : List Int
  v : Nat
theorem specReadInputs_ok (s : ByteArray) (hs : s.size ≤ 1048576) : CallsF Tryd.prog 8 [.str s] (inputsR s) := by
  refine fun_spec_ReadInputs rfl (by simp; exact AvPure.str _) (inputsR_pure s) ?_
  have hbs : bs [] = (⟨#[]⟩ : ByteArray) := rfl
  by_cases h0 : s = ⟨#[]⟩
  · rw [inputs_yes (l := []) (by rw [h0]; rfl)]
    simp +contextual -dsimp (maxSteps := 2000000) only [↓SD, SU, SB, Nat.reduceAdd, Nat.reduceBEq, Nat.reduceEqDiff, Nat.reduceLeDiff, Nat.reduceLT, Nat.reduceSub, ↓reduceIte, forall_const, implies_true, ne_eq, reduceCtorEq, Int.reduceToNat, forall_eq, Int.reduceEq, Int.reduceLT, Int.reduceLE, Int.reduceNeg, Int.reduceAdd, Int.reduceSub, ir_spec_ReadInputs, rs_spec_ReadInputs, hbs, h0]
  have hz : s.size ≠ 0 := by
    intro h
    apply h0
    cases s with
    | mk d =>
      have : d.size = 0 := h
      rw [Array.size_eq_zero_iff] at this
      rw [this]
  simp +contextual -dsimp (maxSteps := 2000000) only [↓SD, SU, SB, Nat.reduceAdd, Nat.reduceBEq, Nat.reduceEqDiff, Nat.reduceLeDiff, Nat.reduceLT, Nat.reduceSub, ↓reduceIte, forall_const, implies_true, ne_eq, reduceCtorEq, Int.reduceToNat, forall_eq, Int.reduceEq, Int.reduceLT, Int.reduceLE, Int.reduceNeg, Int.reduceAdd, Int.reduceSub, ir_spec_ReadInputs, rs_spec_ReadInputs, hbs, h0]
  intro u
  refine aLoop_of (X := IS) (fun x => ⟨[(0, .str s), (4, .row 9 x.v x.out.length), (5, .int .i64 x.a), (6, .int .i64 x.i)], [(9, ⟨x.v, false, 3, 1, x.out.map av⟩)]⟩) (fun x => x.i ≤ s.size + 1 ∧ IPre s x.i x.a x.out) (fun x => s.size + 1 - x.i) ⟨0, 0, [], u⟩ ⟨by simp, IPre_start s hz⟩ (by simp +contextual -dsimp (maxSteps := 2000000) only [↓SD, SU, SB, Nat.reduceAdd, Nat.reduceBEq, Nat.reduceEqDiff, Nat.reduceLeDiff, Nat.reduceLT, Nat.reduceSub, ↓reduceIte, forall_const, implies_true, ne_eq, reduceCtorEq, Int.reduceToNat, forall_eq]) (by simp +contextual -dsimp (maxSteps := 2000000) only [↓SD, SU, SB, Nat.reduceAdd, Nat.reduceBEq, Nat.reduceEqDiff, Nat.reduceLeDiff, Nat.reduceLT, Nat.reduceSub, ↓reduceIte, forall_const, implies_true, ne_eq, reduceCtorEq, Int.reduceToNat, forall_eq]) ?_
  rintro ⟨i, a, out, v⟩ ⟨hi, hp⟩
  simp only at hi hp
  have hol := hp.1
  have ht : List.take out.length (out.map (av : Int → AV)) = out.map av := List.take_of_length_le (by simp)
  by_cases hle : i ≤ s.size
  · by_cases hlt : i < s.size
    · have hon := IPre_on s hp hlt
      have hwd := IPre_word s hp hle
      have hnx := fun out' hl' => IPre_next s (i := i) (out := out') hl' hle
      obtain ⟨b, hbe⟩ : ∃ b, b = byteAt s i := ⟨_, rfl⟩
      rw [← hbe] at hon hwd
      by_cases h10 : (b.toNat : Int) = 10
      · obtain ⟨hai, hw⟩ := hwd fun _ => .inl (by omega)
        have C := specTextNum_ok (s.extract a i)
        cases hx : textN (s.extract a i) with
        | none =>
          rw [textR_no _ hx] at C
          rw [hx] at hw
          rw [inputs_no hw]
          simp +contextual -dsimp (maxSteps := 2000000) only [↓SD, SU, SB, Nat.reduceAdd, Nat.reduceBEq, Nat.reduceEqDiff, Nat.reduceLeDiff, Nat.reduceLT, Nat.reduceSub, ↓reduceIte, forall_const, implies_true, ne_eq, reduceCtorEq, Int.reduceToNat, forall_eq, Int.reduceEq, Int.reduceLT, Int.reduceLE, Int.reduceNeg, Int.reduceAdd, Int.reduceSub, hle, hlt, ← hbe, h10]
          refine ⟨by omega, aCallK_of _ C ?_⟩
          simp +contextual -dsimp (maxSteps := 2000000) only [↓SD, SU, SB, Nat.reduceAdd, Nat.reduceBEq, Nat.reduceEqDiff, Nat.reduceLeDiff, Nat.reduceLT, Nat.reduceSub, ↓reduceIte, forall_const, implies_true, ne_eq, reduceCtorEq, Int.reduceToNat, forall_eq, Int.reduceEq, Int.reduceLT, Int.reduceLE, Int.reduceNeg, Int.reduceAdd, Int.reduceSub]
        | some n =>
          rw [textR_yes _ n hx] at C
          rw [hx] at hw
          by_cases h50 : (out.length : Int) = 50
          · dsimp only at hw
            rw [if_pos (by omega)] at hw
            rw [inputs_no hw]
            simp +contextual -dsimp (maxSteps := 2000000) only [↓SD, SU, SB, Nat.reduceAdd, Nat.reduceBEq, Nat.reduceEqDiff, Nat.reduceLeDiff, Nat.reduceLT, Nat.reduceSub, ↓reduceIte, forall_const, implies_true, ne_eq, reduceCtorEq, Int.reduceToNat, forall_eq, Int.reduceEq, Int.reduceLT, Int.reduceLE, Int.reduceNeg, Int.reduceAdd, Int.reduceSub, hle, hlt, ← hbe, h10]
            refine ⟨by omega, aCallK_of _ C ?_⟩
            simp +contextual -dsimp (maxSteps := 2000000) only [↓SD, SU, SB, Nat.reduceAdd, Nat.reduceBEq, Nat.reduceEqDiff, Nat.reduceLeDiff, Nat.reduceLT, Nat.reduceSub, ↓reduceIte, forall_const, implies_true, ne_eq, reduceCtorEq, Int.reduceToNat, forall_eq, Int.reduceEq, Int.reduceLT, Int.reduceLE, Int.reduceNeg, Int.reduceAdd, Int.reduceSub, h50]
          · dsimp only at hw
            rw [if_neg (by omega)] at hw
            have hy := hnx (out ++ [n]) (by simp; omega) hw
            simp +contextual -dsimp (maxSteps := 2000000) only [↓SD, SU, SB, Nat.reduceAdd, Nat.reduceBEq, Nat.reduceEqDiff, Nat.reduceLeDiff, Nat.reduceLT, Nat.reduceSub, ↓reduceIte, forall_const, implies_true, ne_eq, reduceCtorEq, Int.reduceToNat, forall_eq, Int.reduceEq, Int.reduceLT, Int.reduceLE, Int.reduceNeg, Int.reduceAdd, Int.reduceSub, hle, hlt, ← hbe, h10]
            refine ⟨by omega, aCallK_of _ C ?_⟩
            simp +contextual -dsimp (maxSteps := 2000000) only [↓SD, SU, SB, Nat.reduceAdd, Nat.reduceBEq, Nat.reduceEqDiff, Nat.reduceLeDiff, Nat.reduceLT, Nat.reduceSub, ↓reduceIte, forall_const, implies_true, ne_eq, reduceCtorEq, Int.reduceToNat, forall_eq, Int.reduceEq, Int.reduceLT, Int.reduceLE, Int.reduceNeg, Int.reduceAdd, Int.reduceSub, h50, ht, map_len, Nat.le_refl]
            exact ⟨⟨by omega, by unfold maxLen; omega⟩, fun v' => ⟨by omega, by omega, Goes.le ⟨⟨i + 1, i + 1, out ++ [n], v'⟩, ⟨⟨by dsimp only; omega, hy⟩, by dsimp only; omega⟩, rfl⟩ (by simp +contextual -dsimp (maxSteps := 2000000) only [↓SD, SU, SB, Nat.reduceAdd, Nat.reduceBEq, Nat.reduceEqDiff, Nat.reduceLeDiff, Nat.reduceLT, Nat.reduceSub, ↓reduceIte, forall_const, implies_true, ne_eq, reduceCtorEq, Int.reduceToNat, forall_eq, Int.natCast_add, List.length_append]) (by simp +contextual -dsimp (maxSteps := 2000000) only [↓SD, SU, SB, Nat.reduceAdd, Nat.reduceBEq, Nat.reduceEqDiff, Nat.reduceLeDiff, Nat.reduceLT, Nat.reduceSub, ↓reduceIte, forall_const, implies_true, ne_eq, reduceCtorEq, Int.reduceToNat, forall_eq, List.map_append, av_int])⟩⟩
      · by_cases h32 : (b.toNat : Int) = 32
        · obtain ⟨hai, hw⟩ := hwd fun _ => .inr (by omega)
          have C := specTextNum_ok (s.extract a i)
          cases hx : textN (s.extract a i) with
          | none =>
            rw [textR_no _ hx] at C
            rw [hx] at hw
            rw [inputs_no hw]
            simp +contextual -dsimp (maxSteps := 2000000) only [↓SD, SU, SB, Nat.reduceAdd, Nat.reduceBEq, Nat.reduceEqDiff, Nat.reduceLeDiff, Nat.reduceLT, Nat.reduceSub, ↓reduceIte, forall_const, implies_true, ne_eq, reduceCtorEq, Int.reduceToNat, forall_eq, Int.reduceEq, Int.reduceLT, Int.reduceLE, Int.reduceNeg, Int.reduceAdd, Int.reduceSub, hle, hlt, ← hbe, h10, h32]
            refine ⟨by omega, aCallK_of _ C ?_⟩
            simp +contextual -dsimp (maxSteps := 2000000) only [↓SD, SU, SB, Nat.reduceAdd, Nat.reduceBEq, Nat.reduceEqDiff, Nat.reduceLeDiff, Nat.reduceLT, Nat.reduceSub, ↓reduceIte, forall_const, implies_true, ne_eq, reduceCtorEq, Int.reduceToNat, forall_eq, Int.reduceEq, Int.reduceLT, Int.reduceLE, Int.reduceNeg, Int.reduceAdd, Int.reduceSub]
          | some n =>
            rw [textR_yes _ n hx] at C
            rw [hx] at hw
            by_cases h50 : (out.length : Int) = 50
            · dsimp only at hw
              rw [if_pos (by omega)] at hw
              rw [inputs_no hw]
              simp +contextual -dsimp (maxSteps := 2000000) only [↓SD, SU, SB, Nat.reduceAdd, Nat.reduceBEq, Nat.reduceEqDiff, Nat.reduceLeDiff, Nat.reduceLT, Nat.reduceSub, ↓reduceIte, forall_const, implies_true, ne_eq, reduceCtorEq, Int.reduceToNat, forall_eq, Int.reduceEq, Int.reduceLT, Int.reduceLE, Int.reduceNeg, Int.reduceAdd, Int.reduceSub, hle, hlt, ← hbe, h10, h32]
              refine ⟨by omega, aCallK_of _ C ?_⟩
              simp +contextual -dsimp (maxSteps := 2000000) only [↓SD, SU, SB, Nat.reduceAdd, Nat.reduceBEq, Nat.reduceEqDiff, Nat.reduceLeDiff, Nat.reduceLT, Nat.reduceSub, ↓reduceIte, forall_const, implies_true, ne_eq, reduceCtorEq, Int.reduceToNat, forall_eq, Int.reduceEq, Int.reduceLT, Int.reduceLE, Int.reduceNeg, Int.reduceAdd, Int.reduceSub, h50]
            · dsimp only at hw
              rw [if_neg (by omega)] at hw
              have hy := hnx (out ++ [n]) (by simp; omega) hw
              simp +contextual -dsimp (maxSteps := 2000000) only [↓SD, SU, SB, Nat.reduceAdd, Nat.reduceBEq, Nat.reduceEqDiff, Nat.reduceLeDiff, Nat.reduceLT, Nat.reduceSub, ↓reduceIte, forall_const, implies_true, ne_eq, reduceCtorEq, Int.reduceToNat, forall_eq, Int.reduceEq, Int.reduceLT, Int.reduceLE, Int.reduceNeg, Int.reduceAdd, Int.reduceSub, hle, hlt, ← hbe, h10, h32]
              refine ⟨by omega, aCallK_of _ C ?_⟩
              simp +contextual -dsimp (maxSteps := 2000000) only [↓SD, SU, SB, Nat.reduceAdd, Nat.reduceBEq, Nat.reduceEqDiff, Nat.reduceLeDiff, Nat.reduceLT, Nat.reduceSub, ↓reduceIte, forall_const, implies_true, ne_eq, reduceCtorEq, Int.reduceToNat, forall_eq, Int.reduceEq, Int.reduceLT, Int.reduceLE, Int.reduceNeg, Int.reduceAdd, Int.reduceSub, h50, ht, map_len, Nat.le_refl]
              exact ⟨⟨by omega, by unfold maxLen; omega⟩, fun v' => ⟨by omega, by omega, Goes.le ⟨⟨i + 1, i + 1, out ++ [n], v'⟩, ⟨⟨by dsimp only; omega, hy⟩, by dsimp only; omega⟩, rfl⟩ (by simp +contextual -dsimp (maxSteps := 2000000) only [↓SD, SU, SB, Nat.reduceAdd, Nat.reduceBEq, Nat.reduceEqDiff, Nat.reduceLeDiff, Nat.reduceLT, Nat.reduceSub, ↓reduceIte, forall_const, implies_true, ne_eq, reduceCtorEq, Int.reduceToNat, forall_eq, Int.natCast_add, List.length_append]) (by simp +contextual -dsimp (maxSteps := 2000000) only [↓SD, SU, SB, Nat.reduceAdd, Nat.reduceBEq, Nat.reduceEqDiff, Nat.reduceLeDiff, Nat.reduceLT, Nat.reduceSub, ↓reduceIte, forall_const, implies_true, ne_eq, reduceCtorEq, Int.reduceToNat, forall_eq, List.map_append, av_int])⟩⟩
        · have hy := hon (by omega)
          simp +contextual -dsimp (maxSteps := 2000000) only [↓SD, SU, SB, Nat.reduceAdd, Nat.reduceBEq, Nat.reduceEqDiff, Nat.reduceLeDiff, Nat.reduceLT, Nat.reduceSub, ↓reduceIte, forall_const, implies_true, ne_eq, reduceCtorEq, Int.reduceToNat, forall_eq, Int.reduceEq, Int.reduceLT, Int.reduceLE, Int.reduceNeg, Int.reduceAdd, Int.reduceSub, hle, hlt, ← hbe, h10, h32]
          exact ⟨by omega, Goes.le ⟨⟨i + 1, a, out, v⟩, ⟨⟨by dsimp only; omega, hy⟩, by dsimp only; omega⟩, rfl⟩ (by simp +contextual -dsimp (maxSteps := 2000000) only [↓SD, SU, SB, Nat.reduceAdd, Nat.reduceBEq, Nat.reduceEqDiff, Nat.reduceLeDiff, Nat.reduceLT, Nat.reduceSub, ↓reduceIte, forall_const, implies_true, ne_eq, reduceCtorEq, Int.reduceToNat, forall_eq, Int.natCast_add]) (by simp +contextual -dsimp (maxSteps := 2000000) only [↓SD, SU, SB, Nat.reduceAdd, Nat.reduceBEq, Nat.reduceEqDiff, Nat.reduceLeDiff, Nat.reduceLT, Nat.reduceSub, ↓reduceIte, forall_const, implies_true, ne_eq, reduceCtorEq, Int.reduceToNat, forall_eq])⟩
    · have hnx := fun out' hl' => IPre_next s (i := i) (out := out') hl' hle
      obtain ⟨hai, hw⟩ := IPre_word s hp hle (fun h => absurd h hlt)
      have C := specTextNum_ok (s.extract a i)
      cases hx : textN (s.extract a i) with
      | none =>
        rw [textR_no _ hx] at C
        rw [hx] at hw
        rw [inputs_no hw]
        simp +contextual -dsimp (maxSteps := 2000000) only [↓SD, SU, SB, Nat.reduceAdd, Nat.reduceBEq, Nat.reduceEqDiff, Nat.reduceLeDiff, Nat.reduceLT, Nat.reduceSub, ↓reduceIte, forall_const, implies_true, ne_eq, reduceCtorEq, Int.reduceToNat, forall_eq, Int.reduceEq, Int.reduceLT, Int.reduceLE, Int.reduceNeg, Int.reduceAdd, Int.reduceSub, hle, hlt]
        refine ⟨by omega, aCallK_of _ C ?_⟩
        simp +contextual -dsimp (maxSteps := 2000000) only [↓SD, SU, SB, Nat.reduceAdd, Nat.reduceBEq, Nat.reduceEqDiff, Nat.reduceLeDiff, Nat.reduceLT, Nat.reduceSub, ↓reduceIte, forall_const, implies_true, ne_eq, reduceCtorEq, Int.reduceToNat, forall_eq, Int.reduceEq, Int.reduceLT, Int.reduceLE, Int.reduceNeg, Int.reduceAdd, Int.reduceSub]
      | some n =>
        rw [textR_yes _ n hx] at C
        rw [hx] at hw
        by_cases h50 : (out.length : Int) = 50
        · dsimp only at hw
          rw [if_pos (by omega)] at hw
          rw [inputs_no hw]
          simp +contextual -dsimp (maxSteps := 2000000) only [↓SD, SU, SB, Nat.reduceAdd, Nat.reduceBEq, Nat.reduceEqDiff, Nat.reduceLeDiff, Nat.reduceLT, Nat.reduceSub, ↓reduceIte, forall_const, implies_true, ne_eq, reduceCtorEq, Int.reduceToNat, forall_eq, Int.reduceEq, Int.reduceLT, Int.reduceLE, Int.reduceNeg, Int.reduceAdd, Int.reduceSub, hle, hlt]
          refine ⟨by omega, aCallK_of _ C ?_⟩
          simp +contextual -dsimp (maxSteps := 2000000) only [↓SD, SU, SB, Nat.reduceAdd, Nat.reduceBEq, Nat.reduceEqDiff, Nat.reduceLeDiff, Nat.reduceLT, Nat.reduceSub, ↓reduceIte, forall_const, implies_true, ne_eq, reduceCtorEq, Int.reduceToNat, forall_eq, Int.reduceEq, Int.reduceLT, Int.reduceLE, Int.reduceNeg, Int.reduceAdd, Int.reduceSub, h50]
        · dsimp only at hw
          rw [if_neg (by omega)] at hw
          have hy := hnx (out ++ [n]) (by simp; omega) hw
          simp +contextual -dsimp (maxSteps := 2000000) only [↓SD, SU, SB, Nat.reduceAdd, Nat.reduceBEq, Nat.reduceEqDiff, Nat.reduceLeDiff, Nat.reduceLT, Nat.reduceSub, ↓reduceIte, forall_const, implies_true, ne_eq, reduceCtorEq, Int.reduceToNat, forall_eq, Int.reduceEq, Int.reduceLT, Int.reduceLE, Int.reduceNeg, Int.reduceAdd, Int.reduceSub, hle, hlt]
          refine ⟨by omega, aCallK_of _ C ?_⟩
          simp +contextual -dsimp (maxSteps := 2000000) only [↓SD, SU, SB, Nat.reduceAdd, Nat.reduceBEq, Nat.reduceEqDiff, Nat.reduceLeDiff, Nat.reduceLT, Nat.reduceSub, ↓reduceIte, forall_const, implies_true, ne_eq, reduceCtorEq, Int.reduceToNat, forall_eq, Int.reduceEq, Int.reduceLT, Int.reduceLE, Int.reduceNeg, Int.reduceAdd, Int.reduceSub, h50, ht, map_len, Nat.le_refl]
          exact ⟨⟨by omega, by unfold maxLen; omega⟩, fun v' => ⟨by omega, by omega, Goes.le ⟨⟨i + 1, i + 1, out ++ [n], v'⟩, ⟨⟨by dsimp only; omega, hy⟩, by dsimp only; omega⟩, rfl⟩ (by simp +contextual -dsimp (maxSteps := 2000000) only [↓SD, SU, SB, Nat.reduceAdd, Nat.reduceBEq, Nat.reduceEqDiff, Nat.reduceLeDiff, Nat.reduceLT, Nat.reduceSub, ↓reduceIte, forall_const, implies_true, ne_eq, reduceCtorEq, Int.reduceToNat, forall_eq, Int.natCast_add, List.length_append]) (by simp +contextual -dsimp (maxSteps := 2000000) only [↓SD, SU, SB, Nat.reduceAdd, Nat.reduceBEq, Nat.reduceEqDiff, Nat.reduceLeDiff, Nat.reduceLT, Nat.reduceSub, ↓reduceIte, forall_const, implies_true, ne_eq, reduceCtorEq, Int.reduceToNat, forall_eq, List.map_append, av_int])⟩⟩
  · obtain rfl : i = s.size + 1 := by omega
    rcases hp with ⟨_, ⟨h1, _⟩ | ⟨_, h2⟩⟩
    · omega
    rw [inputs_yes h2.symm]
    have hgt : ¬ ((s.size : Int) + 1 ≤ s.size) := by omega
    simp +contextual -dsimp (maxSteps := 2000000) only [↓SD, SU, SB, Nat.reduceAdd, Nat.reduceBEq, Nat.reduceEqDiff, Nat.reduceLeDiff, Nat.reduceLT, Nat.reduceSub, ↓reduceIte, forall_const, implies_true, ne_eq, reduceCtorEq, Int.reduceToNat, forall_eq, Int.reduceEq, Int.reduceLT, Int.reduceLE, Int.reduceNeg, Int.reduceAdd, Int.reduceSub, Int.natCast_add, hgt, ht, map_len, map_nop, Nat.le_refl]
end Go.Proofs.YtpnnhgminiihnaaDoor
