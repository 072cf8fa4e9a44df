/-
  NUMBERS BELOW A BOUND, elements of lists. Conditions: none.
-/
import Derived.Test.YtfkchfdbaikccaaAVal
set_option linter.unusedVariables false
namespace Go.Proofs.Ytfkchfdbaikccaa
open Go.RowKit Go.Proofs.Ytfkchfdbaikccaa.Av
open Go.Proofs.Ytfkchfdbaikccaa.Av.AVal (av)
open AVal (av)

theorem getD_at {α : Type} {l : List α} {k : Nat} (h : k < l.length) (d : α) : l.getD k d = l[k] := by simp [List.getD_eq_getElem?_getD, h]
theorem av_getD {α : Type} [AVal α] (d : List α) (z : α) {j : Nat} (h : j < d.length) : (d.map av).getD j .top = av (d.getD j z) := by
  rw [getD_map av d j .top h, getD_at h]
theorem take_map {α β : Type} (f : α → β) (l : List α) : (l.map f).take l.length = l.map f := by rw [List.take_of_length_le]; simp
/-- every number below n has the property -/
def allI (p : Nat → Bool) (n : Nat) : Bool := (List.range n).all p
theorem allI_true {p : Nat → Bool} {n : Nat} (h : ∀ i, i < n → p i = true) : allI p n = true := by
  unfold allI; rw [List.all_eq_true]; intro i hi; exact h i (List.mem_range.1 hi)
theorem allI_false {p : Nat → Bool} {n i : Nat} (hi : i < n) (h : p i = false) : allI p n = false := by
  unfold allI; rw [List.all_eq_false]; exact ⟨i, List.mem_range.2 hi, by simp [h]⟩
theorem allI_iff {p : Nat → Bool} {n : Nat} : allI p n = true ↔ ∀ i, i < n → p i = true := by
  unfold allI; rw [List.all_eq_true]; exact ⟨fun h i hi => h i (List.mem_range.2 hi), fun h i hi => h i (List.mem_range.1 hi)⟩
end Go.Proofs.Ytfkchfdbaikccaa
