/-
  Cutting a string at one letter, in plain Lean. Conditions: none.
-/
import Derived.Test.YtpnnhgminiihnaaDoorShelfI
set_option linter.unusedVariables false
set_option linter.unusedSimpArgs false
namespace Go.Proofs.YtpnnhgminiihnaaDoor
open Go.RowKit

/-- the pieces; the first lies in the hand so far -/
def pcsC (c : UInt8) : List UInt8 → List UInt8 → List (List UInt8)
  | acc, [] => [acc]
  | acc, b :: t => if b = c then acc :: pcsC c [] t else pcsC c (acc ++ [b]) t

theorem pcsC_ne (c : UInt8) (acc l : List UInt8) : pcsC c acc l ≠ [] := by
  induction l generalizing acc with
  | nil => simp [pcsC]
  | cons b t ih =>
    unfold pcsC
    split
    · simp
    · exact ih _

def handC (acc : List UInt8) : List (List UInt8) → List (List UInt8)
  | [] => []
  | p :: ps => (acc ++ p) :: ps

theorem handC_nil (L : List (List UInt8)) : handC [] L = L := by cases L <;> simp [handC]

theorem index_c (c : UInt8) (b : UInt8) (t : List UInt8) : Lib.index (b :: t) [c] = if b = c then 0 else if Lib.index t [c] = -1 then -1 else Lib.index t [c] + 1 := by
  unfold Lib.index
  by_cases h : b = c
  · subst h; simp [List.isPrefixOf]
  · have h' : ([c] : List UInt8).isPrefixOf (b :: t) = false := by simp [List.isPrefixOf]; exact fun e => h e.symm
    rw [h', if_neg h]
    cases t <;> simp [Lib.index]

theorem split_pcsC (c : UInt8) (l : List UInt8) : ∀ (acc : List UInt8) (k : Nat), Lib.count l [c] ≤ k → pcsC c acc l = handC acc (Lib.splitK [c] 0 k l) := by
  induction l with
  | nil =>
    intro acc k _
    cases k <;> simp [pcsC, Lib.splitK, handC, Lib.index]
  | cons b t ih =>
    intro acc k hk
    have hi := index_c c b t
    have hge := Lib.index_ge t [c]
    by_cases hb : b = c
    · rw [if_pos hb] at hi
      have hc := Lib.count_hit (s := b :: t) (sub := [c]) (i := 0) (by simp) (by rw [hi] <;> rfl)
      simp only [List.length_cons, List.length_nil, Nat.zero_add, List.drop_succ_cons, List.drop_zero] at hc
      obtain ⟨k, rfl⟩ : ∃ k', k = k' + 1 := ⟨k - 1, by omega⟩
      rw [pcsC, if_pos hb, ih [] k (by omega), handC_nil, Lib.splitK, hi]
      simp [handC]
    · rw [if_neg hb] at hi
      by_cases hm : Lib.index t [c] = -1
      · rw [if_pos hm] at hi
        have hc : Lib.count t [c] = 0 := Lib.count_miss hm
        rw [pcsC, if_neg hb, ih (acc ++ [b]) 0 (by omega), Lib.splitK]
        cases k with
        | zero => simp [Lib.splitK, handC]
        | succ k => simp [Lib.splitK, hi, handC]
      · rw [if_neg hm] at hi
        obtain ⟨i, hi2⟩ : ∃ i : Nat, Lib.index t [c] = i := ⟨(Lib.index t [c]).toNat, by omega⟩
        rw [hi2] at hi
        have hc := Lib.count_hit (s := b :: t) (sub := [c]) (i := i + 1) (by simp) (by rw [hi] <;> rfl)
        have hc2 := Lib.count_hit (s := t) (sub := [c]) (i := i) (by simp) hi2
        simp only [List.length_cons, List.length_nil, Nat.zero_add, List.drop_succ_cons] at hc hc2
        obtain ⟨k, rfl⟩ : ∃ k', k = k' + 1 := ⟨k - 1, by omega⟩
        rw [pcsC, if_neg hb, ih (acc ++ [b]) (k + 1) (by omega), Lib.splitK, Lib.splitK, hi, hi2]
        have e1 : (((i : Int) + 1) == -1) = false := by first | (simp; done) | (simp; omega)
        have e2 : ((i : Int) == -1) = false := by first | (simp; done) | (simp; omega)
        have e3 : ((i : Int) + 1).toNat = i + 1 := by omega
        simp [e1, e2, e3, handC]

/-- the lines of a string -/
def linesC (c : UInt8) (s : ByteArray) : List ByteArray := (pcsC c [] s.data.toList).map fun l => ⟨l.toArray⟩

theorem splitB_c (c : UInt8) (s : ByteArray) : Lib.splitB ⟨#[c]⟩ 0 (Lib.countB s ⟨#[c]⟩) s = linesC c s := by
  have h := Lib.splitB_data ⟨#[c]⟩ 0 (Lib.countB s ⟨#[c]⟩) s
  have h2 := split_pcsC c s.data.toList [] (Lib.countB s ⟨#[c]⟩) (Nat.le_refl _)
  rw [handC_nil] at h2
  unfold linesC
  rw [h2]
  have h3 : Lib.splitK [c] 0 (Lib.countB s ⟨#[c]⟩) s.data.toList = (Lib.splitB ⟨#[c]⟩ 0 (Lib.countB s ⟨#[c]⟩) s).map (·.data.toList) := h.symm
  rw [h3, List.map_map]
  have e : ((fun l : List UInt8 => (⟨l.toArray⟩ : ByteArray)) ∘ fun x : ByteArray => x.data.toList) = id := by funext x; simp
  rw [e, List.map_id]

theorem linesC_len (c : UInt8) (s : ByteArray) : (linesC c s).length = Lib.countB s ⟨#[c]⟩ + 1 := by
  rw [← splitB_c]; exact Lib.splitB_all ⟨#[c]⟩ (by show 0 < 1; decide) 0 _ s rfl

/-- one letter for another. -/
def swapL (a b : UInt8) (l : List UInt8) : List UInt8 := l.map fun x => if x = a then b else x
theorem replaceK_swap (a b : UInt8) (l : List UInt8) : ∀ (k : Nat), Lib.count l [a] ≤ k → Lib.replaceK [a] [b] k l = swapL a b l := by
  induction l with
  | nil =>
    intro k _
    cases k <;> simp [Lib.replaceK, Lib.index, swapL]
  | cons x t ih =>
    intro k hk
    have hi := index_c a x t
    have hge := Lib.index_ge t [a]
    by_cases hb : x = a
    · rw [if_pos hb] at hi
      have hc := Lib.count_hit (s := x :: t) (sub := [a]) (i := 0) (by simp) (by rw [hi] <;> rfl)
      simp only [List.length_cons, List.length_nil, Nat.zero_add, List.drop_succ_cons, List.drop_zero] at hc
      obtain ⟨k, rfl⟩ : ∃ k', k = k' + 1 := ⟨k - 1, by omega⟩
      rw [Lib.replaceK_hit [a] [b] k (x :: t) 0 (by rw [hi]; rfl)]
      have := ih k (by omega)
      simp only [swapL] at this ⊢
      simp [this, hb]
    · rw [if_neg hb] at hi
      by_cases hm : Lib.index t [a] = -1
      · rw [if_pos hm] at hi
        have hc : Lib.count t [a] = 0 := Lib.count_miss hm
        have h0 := ih 0 (by omega)
        simp only [swapL, Lib.replaceK] at h0 ⊢
        cases k with
        | zero => simp [Lib.replaceK, hb, ← h0]
        | succ k => simp [Lib.replaceK, hi, hb, ← h0]
      · rw [if_neg hm] at hi
        obtain ⟨i, hi2⟩ : ∃ i : Nat, Lib.index t [a] = i := ⟨(Lib.index t [a]).toNat, by omega⟩
        rw [hi2] at hi
        have hc := Lib.count_hit (s := x :: t) (sub := [a]) (i := i + 1) (by simp) (by rw [hi] <;> rfl)
        have hc2 := Lib.count_hit (s := t) (sub := [a]) (i := i) (by simp) hi2
        simp only [List.length_cons, List.length_nil, Nat.zero_add, List.drop_succ_cons] at hc hc2
        obtain ⟨k, rfl⟩ : ∃ k', k = k' + 1 := ⟨k - 1, by omega⟩
        have h1 := ih (k + 1) (by omega)
        rw [Lib.replaceK_hit [a] [b] k t i hi2] at h1
        rw [Lib.replaceK_hit [a] [b] k (x :: t) (i + 1) (by rw [hi]; rfl)]
        have e : swapL a b (x :: t) = x :: swapL a b t := by simp [swapL, hb]
        rw [e, ← h1]
        simp [show i + 1 + 1 = (i + 1) + 1 from rfl]
theorem replaceAll_swap (a b : UInt8) (h : a ≠ b) (l : List UInt8) : Lib.replaceAll l [a] [b] = swapL a b l := by
  have h1 : ¬ (([a] : List UInt8) == [b]) = true := by simp; exact h
  have h2 : Lib.replaceNum l [a] (-1) = Lib.count l [a] := by unfold Lib.replaceNum; rw [if_pos (.inl (by omega))]
  rw [Lib.replaceAll, Lib.replace, if_neg h1, h2]
  exact replaceK_swap a b l _ (Nat.le_refl _)
end Go.Proofs.YtpnnhgminiihnaaDoor
