/-
  The words of a text are what Split leaves of it behind ReplaceAll, in plain Lean. Conditions: none.
-/
import Derived.Test.YtpnnhgminiihnaaDoorInputP
import Derived.Test.YtpnnhgminiihnaaDoorPiecesC
set_option linter.unusedVariables false
set_option linter.unusedSimpArgs false
namespace Go.Proofs.YtpnnhgminiihnaaDoor
open Go.RowKit Go.Proofs.YtpnnhgminiihnaaDoor.Av Go.Proofs.YtpnnhgminiihnaaDoor.Ml
open Go.Proofs.YtpnnhgminiihnaaDoor.Av.AVal (av)

theorem words_pcs (l : List UInt8) : ∀ acc, pcsC 32 acc (swapL 10 32 l) = words acc l := by
  induction l with
  | nil => intro acc; rfl
  | cons b t ih =>
    intro acc
    have e : swapL 10 32 (b :: t) = (if b = 10 then 32 else b) :: swapL 10 32 t := rfl
    rw [e, words, pcsC]
    by_cases h10 : b = 10
    · subst h10
      rw [if_pos rfl, if_pos rfl, if_pos (.inl rfl), ih]
    · have g10 : ¬ b.toNat = 10 := fun h => h10 (UInt8.toNat_inj.1 h)
      rw [if_neg h10]
      by_cases h32 : b = 32
      · subst h32
        rw [if_pos rfl, if_pos (.inr rfl), ih]
      · have g32 : ¬ b.toNat = 32 := fun h => h32 (UInt8.toNat_inj.1 h)
        rw [if_neg h32, if_neg (by omega), ih]
theorem words_len (l : List UInt8) : ∀ acc, (words acc l).length ≤ l.length + 1 := by
  induction l with
  | nil => intro acc; simp [words]
  | cons b t ih =>
    intro acc
    rw [words]
    split
    · have := ih []; simp; omega
    · have := ih (acc ++ [b]); simp; omega
theorem words_piece (l : List UInt8) : ∀ acc, ∀ p ∈ words acc l, p.length ≤ acc.length + l.length := by
  induction l with
  | nil => intro acc p hp; simp [words] at hp; simp [hp]
  | cons b t ih =>
    intro acc p hp
    rw [words] at hp
    split at hp
    · rcases List.mem_cons.1 hp with rfl | hp
      · simp
      · have := ih [] p hp; simp at this ⊢; omega
    · have := ih (acc ++ [b]) p hp; simp at this ⊢; omega
/-- the text with spaces for line ends -/
def spaced (s : ByteArray) : ByteArray := ⟨(swapL 10 32 s.data.toList).toArray⟩
theorem spaced_size (s : ByteArray) : (spaced s).size = s.size := by
  show (swapL 10 32 s.data.toList).toArray.size = s.data.size
  simp [swapL]
def wordsB (s : ByteArray) : List ByteArray := (words [] s.data.toList).map fun l => ⟨l.toArray⟩
theorem split_words (s : ByteArray) : Lib.splitB ⟨#[32]⟩ 0 (Lib.countB (spaced s) ⟨#[32]⟩) (spaced s) = wordsB s := by
  rw [splitB_c, linesC, wordsB]
  congr 1
  exact words_pcs _ _
theorem wordsB_len (s : ByteArray) : (wordsB s).length = Lib.countB (spaced s) ⟨#[32]⟩ + 1 ∧ (wordsB s).length ≤ s.size + 1 := by
  refine ⟨by rw [← split_words, splitB_c]; exact linesC_len 32 _, ?_⟩
  rw [wordsB, List.length_map]
  have := words_len s.data.toList []
  simpa using this
theorem wordsB_piece (s : ByteArray) : ∀ x ∈ wordsB s, x.size ≤ s.size := by
  intro x hx
  obtain ⟨p, hp, rfl⟩ := List.mem_map.1 hx
  have := words_piece s.data.toList [] p hp
  show p.toArray.size ≤ s.data.size
  simpa using this
end Go.Proofs.YtpnnhgminiihnaaDoor
