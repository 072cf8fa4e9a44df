/-
  ReadInputs of the program, by its abstract text. Conditions: block 0 holds an int (MaxLen's cell), as its contract says.
-/
import Derived.Test.YtpnnhgminiihnaaDoorInputQ
import Derived.Test.YtpnnhgminiihnaaDoorLibI
import Derived.Test.YtpnnhgminiihnaaDoorIrInputs
set_option linter.unusedVariables false
set_option linter.unusedSimpArgs false
set_option maxRecDepth 100000
namespace Go.Proofs.YtpnnhgminiihnaaDoor
open Go.RowKit Go.Proofs.YtpnnhgminiihnaaDoor.Av Go.Proofs.YtpnnhgminiihnaaDoor.Ml
open Go.Proofs.YtpnnhgminiihnaaDoor.Av.AVal (av)

theorem pcsC_len (c : UInt8) (l : List UInt8) : ∀ acc, (pcsC c acc l).length ≤ l.length + 1 := by
  induction l with
  | nil => intro acc; simp [pcsC]
  | cons b t ih =>
    intro acc
    rw [pcsC]
    split
    · have := ih []; simp; omega
    · have := ih (acc ++ [b]); simp; omega
theorem countB_le (c : UInt8) (s : ByteArray) : Lib.countB s ⟨#[c]⟩ ≤ s.size := by
  have h1 := linesC_len c s
  have h2 := pcsC_len c s.data.toList []
  rw [linesC, List.length_map] at h1
  have h3 : s.data.toList.length = s.size := by simp
  omega
theorem ReplaceNl_ok (s : ByteArray) (m : Int) (ty : Nat) (hs : s.size ≤ 1048576) :
    CallsH Tryd.prog 30 [.str s, .str (bs [10]), .str (bs [32])] [gint 0 ty m] (GPost (.str (spaced s)) (gint 0 ty m)) := by
  have hc := countB_le 10 s
  have e : (⟨(Lib.replaceAll s.data.toList (bs [10]).data.toList (bs [32]).data.toList).toArray⟩ : ByteArray) = spaced s := by
    show (⟨(Lib.replaceAll s.data.toList [10] [32]).toArray⟩ : ByteArray) = _
    rw [replaceAll_swap 10 32 (by decide)]; rfl
  have hz := spaced_size s
  have := ReplaceAll_ok s (bs [10]) (bs [32]) m ty (by omega) (by decide +kernel) (by
    have e1 : (bs [32]).size = 1 := rfl
    have e2 : bs [10] = ⟨#[10]⟩ := rfl
    rw [e1, e2]; omega) (by rw [e, hz]; unfold maxLen; omega)
  rw [e] at this
  exact this
theorem SplitSp_ok (s : ByteArray) (m : Int) (ty : Nat) (hs : s.size ≤ 1048576) :
    CallsH Tryd.prog 29 [.str (spaced s), .str (bs [32])] [gint 0 ty m] (GPost (.sl ((wordsB s).map AV.str)) (gint 0 ty m)) := by
  have hz := spaced_size s
  have hw := wordsB_len s
  have e2 : bs [32] = ⟨#[32]⟩ := rfl
  have := Split_ok (spaced s) (bs [32]) m ty (by omega) (by decide +kernel) (by rw [e2, split_words]; exact hw.1) (by rw [e2, ← hw.1]; unfold maxLen; omega)
    (by rw [e2, split_words]; intro x hx; have := wordsB_piece s x hx; unfold maxLen; omega)
  rw [e2, split_words] at this
  exact this
/-- the words from number k on are to be read. -/
def JPre (s : ByteArray) (k : Nat) (out : List Int) : Prop := out.length ≤ 50 ∧ k ≤ (wordsB s).length ∧ readL ((words [] s.data.toList).drop k) out = inputsO s
theorem JPre_step (s : ByteArray) {k : Nat} {out : List Int} (h : JPre s k out) (hk : k < (wordsB s).length) : inputsO s = match textN ((wordsB s)[k]) with
    | none => none
    | some n => if 50 ≤ out.length then none else readL ((words [] s.data.toList).drop (k + 1)) (out ++ [n]) := by
  obtain ⟨h1, h2, h3⟩ := h
  have hk' : k < (words [] s.data.toList).length := by simpa [wordsB] using hk
  rw [← h3, List.drop_eq_getElem_cons hk', readL]
  have e : (wordsB s)[k] = ⟨((words [] s.data.toList)[k]).toArray⟩ := by simp [wordsB]
  rw [e]
  cases textN ⟨((words [] s.data.toList)[k]).toArray⟩ <;> rfl
def InputsPost (s : ByteArray) (x : Nat × Box) (r : AV) (hp' : Hp) : Prop :=
  (inputsO s = none ∧ r = .tup [.nils, .bool false] ∧ hp' = [x]) ∨ ∃ l v, inputsO s = some l ∧ r = .tup [.row 9 v l.length, .bool true] ∧ hp' = [(9, ⟨v, false, 3, 1, l.map av⟩), x]
structure JS where
  k : Nat
  out : List Int
  v : Nat
theorem implReadInputs_ok (s : ByteArray) (m : Int) (ty : Nat) (hs : s.size ≤ 1048576) : CallsH Tryd.prog 9 [.str s] [gint 0 ty m] (InputsPost s (gint 0 ty m)) := by
  have hbs : bs [] = (⟨#[]⟩ : ByteArray) := rfl
  have C1 := ReplaceNl_ok s m ty hs
  have C2 := SplitSp_ok s m ty hs
  obtain ⟨hw1, hw2⟩ := wordsB_len s
  obtain ⟨G, hG⟩ : ∃ G : Box, G = (gint 0 ty m).2 := ⟨_, rfl⟩
  have hG5 : gint 0 ty m = (5000, G) := by rw [hG]; rfl
  rw [hG5] at C1 C2 ⊢
  refine funH_impl_ReadInputs rfl ?_
  by_cases h0 : s = ⟨#[]⟩
  · have hi : inputsO s = some [] := by rw [h0]; rfl
    simp +contextual -dsimp (maxSteps := 2000000) only [↓SD, SU, SB, Nat.reduceAdd, Nat.reduceBEq, Nat.reduceEqDiff, Nat.reduceLeDiff, Nat.reduceLT, Nat.reduceSub, ↓reduceIte, forall_const, implies_true, ne_eq, reduceCtorEq, Int.reduceToNat, forall_eq, Int.reduceEq, Int.reduceLT, Int.reduceLE, Int.reduceNeg, Int.reduceAdd, Int.reduceSub, ir_impl_ReadInputs, rs_impl_ReadInputs, hbs, h0]
    intro u
    refine Goes.post ([(9, ⟨u, false, 3, 1, []⟩), (5000, G)]) ?_
    simp +contextual -dsimp (maxSteps := 2000000) only [↓SD, SU, SB, Nat.reduceAdd, Nat.reduceBEq, Nat.reduceEqDiff, Nat.reduceLeDiff, Nat.reduceLT, Nat.reduceSub, ↓reduceIte, forall_const, implies_true, ne_eq, reduceCtorEq, Int.reduceToNat, forall_eq]
    exact .inr ⟨[], u, by rw [← h0]; exact hi, rfl, rfl⟩
  simp +contextual -dsimp (maxSteps := 2000000) only [↓SD, SU, SB, Nat.reduceAdd, Nat.reduceBEq, Nat.reduceEqDiff, Nat.reduceLeDiff, Nat.reduceLT, Nat.reduceSub, ↓reduceIte, forall_const, implies_true, ne_eq, reduceCtorEq, Int.reduceToNat, forall_eq, Int.reduceEq, Int.reduceLT, Int.reduceLE, Int.reduceNeg, Int.reduceAdd, Int.reduceSub, ir_impl_ReadInputs, rs_impl_ReadInputs, hbs, h0]
  intro u
  refine aCallH_of [5000] C1 (by simp +contextual -dsimp (maxSteps := 2000000) only [↓SD, SU, SB, Nat.reduceAdd, Nat.reduceBEq, Nat.reduceEqDiff, Nat.reduceLeDiff, Nat.reduceLT, Nat.reduceSub, ↓reduceIte, forall_const, implies_true, ne_eq, reduceCtorEq, Int.reduceToNat, forall_eq]) ?_
  rintro r hp' ⟨rfl, rfl⟩
  simp +contextual -dsimp (maxSteps := 2000000) only [↓SD, SU, SB, Nat.reduceAdd, Nat.reduceBEq, Nat.reduceEqDiff, Nat.reduceLeDiff, Nat.reduceLT, Nat.reduceSub, ↓reduceIte, forall_const, implies_true, ne_eq, reduceCtorEq, Int.reduceToNat, forall_eq, Int.reduceEq, Int.reduceLT, Int.reduceLE, Int.reduceNeg, Int.reduceAdd, Int.reduceSub]
  refine aCallH_of [5000] C2 (by simp +contextual -dsimp (maxSteps := 2000000) only [↓SD, SU, SB, Nat.reduceAdd, Nat.reduceBEq, Nat.reduceEqDiff, Nat.reduceLeDiff, Nat.reduceLT, Nat.reduceSub, ↓reduceIte, forall_const, implies_true, ne_eq, reduceCtorEq, Int.reduceToNat, forall_eq]) ?_
  rintro r hp' ⟨rfl, rfl⟩
  simp +contextual -dsimp (maxSteps := 2000000) only [↓SD, SU, SB, Nat.reduceAdd, Nat.reduceBEq, Nat.reduceEqDiff, Nat.reduceLeDiff, Nat.reduceLT, Nat.reduceSub, ↓reduceIte, forall_const, implies_true, ne_eq, reduceCtorEq, Int.reduceToNat, forall_eq, Int.reduceEq, Int.reduceLT, Int.reduceLE, Int.reduceNeg, Int.reduceAdd, Int.reduceSub, map_len]
  have hz : s.size ≠ 0 := by
    intro h
    apply h0
    cases s with
    | mk d =>
      have : d.size = 0 := h
      rw [Array.size_eq_zero_iff] at this
      rw [this]
  have hj0 : JPre s 0 [] := ⟨by simp, Nat.zero_le _, by rw [List.drop_zero, inputsO, if_neg hz]⟩
  refine aLoop_of (X := JS) (fun x => ⟨[(4, .row 9 x.v x.out.length), (15, .sl ((wordsB s).map AV.str)), (16, .int .i64 ((wordsB s).length : Int)), (17, .int .i64 x.k)], [(9, ⟨x.v, false, 3, 1, x.out.map av⟩), (5000, G)]⟩) (fun x => JPre s x.k x.out) (fun x => (wordsB s).length - x.k) ⟨0, [], u⟩ hj0 (by simp +contextual -dsimp (maxSteps := 2000000) only [↓SD, SU, SB, Nat.reduceAdd, Nat.reduceBEq, Nat.reduceEqDiff, Nat.reduceLeDiff, Nat.reduceLT, Nat.reduceSub, ↓reduceIte, forall_const, implies_true, ne_eq, reduceCtorEq, Int.reduceToNat, forall_eq]) (by simp +contextual -dsimp (maxSteps := 2000000) only [↓SD, SU, SB, Nat.reduceAdd, Nat.reduceBEq, Nat.reduceEqDiff, Nat.reduceLeDiff, Nat.reduceLT, Nat.reduceSub, ↓reduceIte, forall_const, implies_true, ne_eq, reduceCtorEq, Int.reduceToNat, forall_eq]) ?_
  rintro ⟨k, out, v⟩ hp
  simp only at hp
  have hol := hp.1
  have ht : List.take out.length (out.map (av : Int → AV)) = out.map av := List.take_of_length_le (by simp)
  have hkl := hp.2.1
  by_cases hlt : k < (wordsB s).length
  · have hw := JPre_step s hp hlt
    have e : ((wordsB s).map AV.str).getD k .top = .str ((wordsB s)[k]) := by simp [List.getD_eq_getElem?_getD, hlt]
    generalize (wordsB s)[k] = x at *
    have C := implTextNum_ok x
    cases hx : textN x with
    | none =>
      rw [textR_no _ hx] at C
      rw [hx] at hw
      simp +contextual -dsimp (maxSteps := 2000000) only [↓SD, SU, SB, Nat.reduceAdd, Nat.reduceBEq, Nat.reduceEqDiff, Nat.reduceLeDiff, Nat.reduceLT, Nat.reduceSub, ↓reduceIte, forall_const, implies_true, ne_eq, reduceCtorEq, Int.reduceToNat, forall_eq, Int.reduceEq, Int.reduceLT, Int.reduceLE, Int.reduceNeg, Int.reduceAdd, Int.reduceSub, hlt, map_len, e]
      refine aCallK_of _ C ?_
      simp +contextual -dsimp (maxSteps := 2000000) only [↓SD, SU, SB, Nat.reduceAdd, Nat.reduceBEq, Nat.reduceEqDiff, Nat.reduceLeDiff, Nat.reduceLT, Nat.reduceSub, ↓reduceIte, forall_const, implies_true, ne_eq, reduceCtorEq, Int.reduceToNat, forall_eq, Int.reduceEq, Int.reduceLT, Int.reduceLE, Int.reduceNeg, Int.reduceAdd, Int.reduceSub]
      refine Goes.post ([(5000, G)]) ?_
      simp +contextual -dsimp (maxSteps := 2000000) only [↓SD, SU, SB, Nat.reduceAdd, Nat.reduceBEq, Nat.reduceEqDiff, Nat.reduceLeDiff, Nat.reduceLT, Nat.reduceSub, ↓reduceIte, forall_const, implies_true, ne_eq, reduceCtorEq, Int.reduceToNat, forall_eq]
      exact .inl ⟨hw, rfl, rfl⟩
    | some n =>
      rw [textR_yes _ n hx] at C
      rw [hx] at hw
      dsimp only at hw
      by_cases h50 : (50 : Int) ≤ out.length
      · rw [if_pos (by omega)] at hw
        simp +contextual -dsimp (maxSteps := 2000000) only [↓SD, SU, SB, Nat.reduceAdd, Nat.reduceBEq, Nat.reduceEqDiff, Nat.reduceLeDiff, Nat.reduceLT, Nat.reduceSub, ↓reduceIte, forall_const, implies_true, ne_eq, reduceCtorEq, Int.reduceToNat, forall_eq, Int.reduceEq, Int.reduceLT, Int.reduceLE, Int.reduceNeg, Int.reduceAdd, Int.reduceSub, hlt, map_len, e]
        refine aCallK_of _ C ?_
        simp +contextual -dsimp (maxSteps := 2000000) only [↓SD, SU, SB, Nat.reduceAdd, Nat.reduceBEq, Nat.reduceEqDiff, Nat.reduceLeDiff, Nat.reduceLT, Nat.reduceSub, ↓reduceIte, forall_const, implies_true, ne_eq, reduceCtorEq, Int.reduceToNat, forall_eq, Int.reduceEq, Int.reduceLT, Int.reduceLE, Int.reduceNeg, Int.reduceAdd, Int.reduceSub, h50]
        refine Goes.post ([(5000, G)]) ?_
        simp +contextual -dsimp (maxSteps := 2000000) only [↓SD, SU, SB, Nat.reduceAdd, Nat.reduceBEq, Nat.reduceEqDiff, Nat.reduceLeDiff, Nat.reduceLT, Nat.reduceSub, ↓reduceIte, forall_const, implies_true, ne_eq, reduceCtorEq, Int.reduceToNat, forall_eq]
        exact .inl ⟨hw, rfl, rfl⟩
      · rw [if_neg (by omega)] at hw
        have hy : JPre s (k + 1) (out ++ [n]) := ⟨by simp; omega, hlt, hw.symm⟩
        simp +contextual -dsimp (maxSteps := 2000000) only [↓SD, SU, SB, Nat.reduceAdd, Nat.reduceBEq, Nat.reduceEqDiff, Nat.reduceLeDiff, Nat.reduceLT, Nat.reduceSub, ↓reduceIte, forall_const, implies_true, ne_eq, reduceCtorEq, Int.reduceToNat, forall_eq, Int.reduceEq, Int.reduceLT, Int.reduceLE, Int.reduceNeg, Int.reduceAdd, Int.reduceSub, hlt, map_len, e]
        refine aCallK_of _ C ?_
        simp +contextual -dsimp (maxSteps := 2000000) only [↓SD, SU, SB, Nat.reduceAdd, Nat.reduceBEq, Nat.reduceEqDiff, Nat.reduceLeDiff, Nat.reduceLT, Nat.reduceSub, ↓reduceIte, forall_const, implies_true, ne_eq, reduceCtorEq, Int.reduceToNat, forall_eq, Int.reduceEq, Int.reduceLT, Int.reduceLE, Int.reduceNeg, Int.reduceAdd, Int.reduceSub, h50, ht, map_len, Nat.le_refl]
        exact ⟨⟨by omega, by unfold maxLen; omega⟩, fun v' => ⟨by omega, Goes.le ⟨⟨k + 1, out ++ [n], v'⟩, ⟨hy, by dsimp only; omega⟩, rfl⟩ (by simp +contextual -dsimp (maxSteps := 2000000) only [↓SD, SU, SB, Nat.reduceAdd, Nat.reduceBEq, Nat.reduceEqDiff, Nat.reduceLeDiff, Nat.reduceLT, Nat.reduceSub, ↓reduceIte, forall_const, implies_true, ne_eq, reduceCtorEq, Int.reduceToNat, forall_eq, Int.natCast_add, List.length_append]) (by simp +contextual -dsimp (maxSteps := 2000000) only [↓SD, SU, SB, Nat.reduceAdd, Nat.reduceBEq, Nat.reduceEqDiff, Nat.reduceLeDiff, Nat.reduceLT, Nat.reduceSub, ↓reduceIte, forall_const, implies_true, ne_eq, reduceCtorEq, Int.reduceToNat, forall_eq, List.map_append, av_int])⟩⟩
  · obtain rfl : k = (wordsB s).length := by omega
    have hd := hp.2.2
    have hwl : (wordsB s).length = (words [] s.data.toList).length := by simp [wordsB]
    rw [hwl, List.drop_length, readL] at hd
    simp +contextual -dsimp (maxSteps := 2000000) only [↓SD, SU, SB, Nat.reduceAdd, Nat.reduceBEq, Nat.reduceEqDiff, Nat.reduceLeDiff, Nat.reduceLT, Nat.reduceSub, ↓reduceIte, forall_const, implies_true, ne_eq, reduceCtorEq, Int.reduceToNat, forall_eq, Int.reduceEq, Int.reduceLT, Int.reduceLE, Int.reduceNeg, Int.reduceAdd, Int.reduceSub, Nat.lt_irrefl, map_len]
    refine Goes.post ([(9, ⟨v, false, 3, 1, out.map av⟩), (5000, G)]) ?_
    simp +contextual -dsimp (maxSteps := 2000000) only [↓SD, SU, SB, Nat.reduceAdd, Nat.reduceBEq, Nat.reduceEqDiff, Nat.reduceLeDiff, Nat.reduceLT, Nat.reduceSub, ↓reduceIte, forall_const, implies_true, ne_eq, reduceCtorEq, Int.reduceToNat, forall_eq]
    exact .inr ⟨out, v, hd.symm, rfl, rfl⟩
end Go.Proofs.YtpnnhgminiihnaaDoor
