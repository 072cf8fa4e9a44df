/-
  What ReadInputs answers, in plain Lean. Conditions: none.
-/
import Derived.Test.YtpnnhgminiihnaaDoorTextW
set_option linter.unusedVariables false
set_option linter.unusedSimpArgs false
set_option maxRecDepth 100000
namespace Go.Proofs.YtpnnhgminiihnaaDoor
open Go.RowKit Go.Proofs.YtpnnhgminiihnaaDoor.Av Go.Proofs.YtpnnhgminiihnaaDoor.Ml
open Go.Proofs.YtpnnhgminiihnaaDoor.Av.AVal (av)

/-- the words of a text: what stands between its spaces and line ends. -/
def words (acc : List UInt8) : List UInt8 → List (List UInt8)
  | [] => [acc]
  | b :: t => if b.toNat = 10 ∨ b.toNat = 32 then acc :: words [] t else words (acc ++ [b]) t
def readL : List (List UInt8) → List Int → Option (List Int)
  | [], out => some out
  | w :: r, out => match textN ⟨w.toArray⟩ with
    | none => none
    | some n => if 50 ≤ out.length then none else readL r (out ++ [n])
def inputsO (s : ByteArray) : Option (List Int) := if s.size = 0 then some [] else readL (words [] s.data.toList) []
def inputsR (s : ByteArray) : AV := match inputsO s with
  | some l => .tup [.sl (l.map av), .bool true]
  | none => .tup [.nils, .bool false]
theorem inputsR_pure (s : ByteArray) : AvPure (inputsR s) := by
  unfold inputsR; split
  · exact AvPure.tup (by simp; exact ⟨lav_clean _, AvPure.bool _⟩)
  · exact AvPure.tup (by simp; exact ⟨AvPure.nils, AvPure.bool _⟩)
def cut (s : ByteArray) (a i : Nat) : List UInt8 := (s.extract a i).data.toList
theorem cut_self (s : ByteArray) (a : Nat) : cut s a a = [] := by simp [cut]
theorem cut_next (s : ByteArray) {a i : Nat} (ha : a ≤ i) (hi : i < s.size) : cut s a (i + 1) = cut s a i ++ [byteAt s i] := by
  simp only [cut, ByteArray.data_extract, Array.toList_extract, List.extract]
  rw [show i + 1 - a = (i - a) + 1 by omega]
  have hi' : i < s.data.toList.length := by simpa using hi
  rw [List.take_add_one, List.getElem?_drop, show a + (i - a) = i by omega, List.getElem?_eq_getElem hi']
  have h2 : i < s.data.size := hi
  simp only [Option.toList, byteAt, Array.getD_eq_getD_getElem?, Array.getElem?_eq_getElem h2, Option.getD_some, Array.getElem_toList]
theorem cut_arr (s : ByteArray) (a i : Nat) : (⟨(cut s a i).toArray⟩ : ByteArray) = s.extract a i := rfl
/-- where the reference stands: at letter i, a word begins at a, out has been read. -/
def IPre (s : ByteArray) (i a : Nat) (out : List Int) : Prop :=
  out.length ≤ 50 ∧ ((i ≤ s.size ∧ a ≤ i ∧ readL (words (cut s a i) (s.data.toList.drop i)) out = inputsO s) ∨ (i = s.size + 1 ∧ some out = inputsO s))
theorem IPre_start (s : ByteArray) (h : s.size ≠ 0) : IPre s 0 0 [] := by
  refine ⟨by simp, .inl ⟨by omega, by omega, ?_⟩⟩
  rw [cut_self, List.drop_zero, inputsO, if_neg h]
theorem IPre_on (s : ByteArray) {i a : Nat} {out : List Int} (h : IPre s i a out) (hi : i < s.size) (hb : ¬ ((byteAt s i).toNat = 10 ∨ (byteAt s i).toNat = 32)) : IPre s (i + 1) a out := by
  obtain ⟨hl, ⟨h1, h2, h3⟩ | ⟨h1, _⟩⟩ := h
  · refine ⟨hl, .inl ⟨by omega, by omega, ?_⟩⟩
    rw [← h3, bytes_drop s hi, words, if_neg hb, cut_next s h2 hi]
  · omega
/-- the word that ends at letter i is read. -/
def rest (s : ByteArray) (i : Nat) : List (List UInt8) := if i < s.size then words [] (s.data.toList.drop (i + 1)) else []
theorem IPre_word (s : ByteArray) {i a : Nat} {out : List Int} (h : IPre s i a out) (hi : i ≤ s.size) (hb : i < s.size → ((byteAt s i).toNat = 10 ∨ (byteAt s i).toNat = 32)) : a ≤ i ∧ inputsO s = match textN (s.extract a i) with
    | none => none
    | some n => if 50 ≤ out.length then none else readL (rest s i) (out ++ [n]) := by
  obtain ⟨hl, ⟨h1, h2, h3⟩ | ⟨h1, _⟩⟩ := h
  · refine ⟨h2, ?_⟩
    rw [← h3]
    by_cases hlt : i < s.size
    · rw [bytes_drop s hlt, words, if_pos (hb hlt), readL, cut_arr, rest, if_pos hlt]
    · rw [bytes_end s (by omega), words, readL, cut_arr, rest, if_neg hlt]
  · omega
theorem IPre_next (s : ByteArray) {i : Nat} {out : List Int} (hl : out.length ≤ 50) (hi : i ≤ s.size) (h : inputsO s = readL (rest s i) out) : IPre s (i + 1) (i + 1) out := by
  refine ⟨hl, ?_⟩
  by_cases hlt : i < s.size
  · refine .inl ⟨hlt, by omega, ?_⟩
    rw [h, rest, if_pos hlt, cut_self]
  · refine .inr ⟨by omega, ?_⟩
    rw [h, rest, if_neg hlt, readL]
end Go.Proofs.YtpnnhgminiihnaaDoor
