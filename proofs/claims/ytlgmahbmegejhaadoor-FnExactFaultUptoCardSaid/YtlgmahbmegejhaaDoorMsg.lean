/-
  Message: the program's, the reference's and the law's walk. Conditions: none.
-/
import Derived.Test.YtlgmahbmegejhaaDoorRows
import Derived.Test.YtlgmahbmegejhaaDoorBase
import Derived.Test.YtlgmahbmegejhaaDoorWithin
set_option linter.unusedVariables false
set_option linter.unusedSimpArgs false
set_option maxRecDepth 100000
namespace Go.Proofs.YtlgmahbmegejhaaDoor
open Go.RowKit Go.Proofs.YtlgmahbmegejhaaDoor.Ml

def messageS (c : Int) : ByteArray :=
  if c = 1 then ⟨#[116, 111, 111, 32, 108, 111, 110, 103]⟩ else
  if c = 2 then ⟨#[115, 116, 114, 97, 110, 103, 101, 32, 98, 121, 116, 101]⟩ else
  if c = 3 then ⟨#[98, 97, 100, 32, 110, 117, 109, 98, 101, 114]⟩ else
  if c = 4 then ⟨#[98, 97, 100, 32, 116, 101, 120, 116]⟩ else
  if c = 5 then ⟨#[98, 97, 100, 32, 119, 111, 114, 100]⟩ else
  if c = 6 then ⟨#[111, 112, 101, 110, 32, 114, 101, 109, 97, 114, 107]⟩ else
  if c = 7 then ⟨#[117, 110, 101, 120, 112, 101, 99, 116, 101, 100]⟩ else
  if c = 8 then ⟨#[110, 97, 109, 101, 32, 116, 119, 105, 99, 101]⟩ else
  if c = 9 then ⟨#[116, 111, 111, 32, 100, 101, 101, 112]⟩ else
  if c = 10 then ⟨#[116, 111, 111, 32, 108, 97, 114, 103, 101]⟩ else
  if c = 11 then ⟨#[116, 121, 112, 101, 32, 116, 119, 105, 99, 101]⟩ else
  if c = 12 then ⟨#[99, 111, 110, 115, 116, 114, 117, 99, 116, 111, 114, 32, 116, 119, 105, 99, 101]⟩ else
  if c = 13 then ⟨#[117, 110, 107, 110, 111, 119, 110, 32, 116, 121, 112, 101]⟩ else
  if c = 21 then ⟨#[117, 110, 107, 110, 111, 119, 110, 32, 110, 97, 109, 101]⟩ else
  if c = 22 then ⟨#[117, 110, 107, 110, 111, 119, 110, 32, 99, 111, 110, 115, 116, 114, 117, 99, 116, 111, 114]⟩ else
  if c = 23 then ⟨#[97, 114, 103, 117, 109, 101, 110, 116]⟩ else
  if c = 24 then ⟨#[99, 108, 97, 115, 104, 32, 111, 102, 32, 116, 121, 112, 101, 115]⟩ else
  if c = 25 then ⟨#[101, 110, 100, 108, 101, 115, 115, 32, 116, 121, 112, 101]⟩ else
  if c = 26 then ⟨#[116, 121, 112, 101, 32, 116, 111, 111, 32, 108, 97, 114, 103, 101]⟩ else
  if c = 30 then ⟨#[99, 111, 100, 101, 32, 116, 111, 111, 32, 108, 111, 110, 103]⟩ else
  if c = 31 then ⟨#[98, 97, 100, 32, 105, 110, 112, 117, 116, 115]⟩ else
  ⟨#[]⟩

set_option maxHeartbeats 4000000 in
theorem spec_Message {w : World} (c : Int) : Calls Tryd.prog 22 #[.int .i64 c] w fun e w' => e = .returned (.string (messageS c)) ∧ Below w.heap.size w w' := by
  have q : ∀ k : Nat, (k = 1) → True := fun _ _ => trivial
  clear q
  by_cases hin : c = 1 ∨ c = 2 ∨ c = 3 ∨ c = 4 ∨ c = 5 ∨ c = 6 ∨ c = 7 ∨ c = 8 ∨ c = 9 ∨ c = 10 ∨ c = 11 ∨ c = 12 ∨ c = 13 ∨ c = 21 ∨ c = 22 ∨ c = 23 ∨ c = 24 ∨ c = 25 ∨ c = 26 ∨ c = 30 ∨ c = 31
  · rcases hin with rfl | rfl | rfl | rfl | rfl | rfl | rfl | rfl | rfl | rfl | rfl | rfl | rfl | rfl | rfl | rfl | rfl | rfl | rfl | rfl | rfl
    all_goals (go_enter Tryd.func22, Tryd.ntmps22; go_wp2_with fail; go_ret; exact ⟨rfl, bel0 _⟩)
  · have hm : messageS c = ⟨#[]⟩ := by simp only [not_or] at hin; simp [messageS, hin]
    simp only [not_or] at hin
    obtain ⟨h1, h2, h3, h4, h5, h6, h7, h8, h9, h10, h11, h12, h13, h21, h22, h23, h24, h25, h26, h30, h31⟩ := hin
    rw [hm]; clear hm
    go_enter Tryd.func22, Tryd.ntmps22
    go_wp2_with fail
    go_ret
    exact ⟨rfl, bel0 _⟩

set_option maxHeartbeats 4000000 in
theorem impl_Message {w : World} (c : Int) : Calls Tryd.prog 26 #[.int .i64 c] w fun e w' => e = .returned (.string (messageS c)) ∧ Below w.heap.size w w' := by
  have bA : Below w.heap.size w ((w.alloc (Obj.cells #[.string ⟨#[]⟩, .string ⟨#[116, 111, 111, 32, 108, 111, 110, 103]⟩, .string ⟨#[115, 116, 114, 97, 110, 103, 101, 32, 98, 121, 116, 101]⟩, .string ⟨#[98, 97, 100, 32, 110, 117, 109, 98, 101, 114]⟩, .string ⟨#[98, 97, 100, 32, 116, 101, 120, 116]⟩, .string ⟨#[98, 97, 100, 32, 119, 111, 114, 100]⟩, .string ⟨#[111, 112, 101, 110, 32, 114, 101, 109, 97, 114, 107]⟩, .string ⟨#[117, 110, 101, 120, 112, 101, 99, 116, 101, 100]⟩, .string ⟨#[110, 97, 109, 101, 32, 116, 119, 105, 99, 101]⟩, .string ⟨#[116, 111, 111, 32, 100, 101, 101, 112]⟩, .string ⟨#[116, 111, 111, 32, 108, 97, 114, 103, 101]⟩, .string ⟨#[116, 121, 112, 101, 32, 116, 119, 105, 99, 101]⟩, .string ⟨#[99, 111, 110, 115, 116, 114, 117, 99, 116, 111, 114, 32, 116, 119, 105, 99, 101]⟩, .string ⟨#[117, 110, 107, 110, 111, 119, 110, 32, 116, 121, 112, 101]⟩] 9)).alloc (Obj.cells #[.string ⟨#[117, 110, 107, 110, 111, 119, 110, 32, 110, 97, 109, 101]⟩, .string ⟨#[117, 110, 107, 110, 111, 119, 110, 32, 99, 111, 110, 115, 116, 114, 117, 99, 116, 111, 114]⟩, .string ⟨#[97, 114, 103, 117, 109, 101, 110, 116]⟩, .string ⟨#[99, 108, 97, 115, 104, 32, 111, 102, 32, 116, 121, 112, 101, 115]⟩, .string ⟨#[101, 110, 100, 108, 101, 115, 115, 32, 116, 121, 112, 101]⟩, .string ⟨#[116, 121, 112, 101, 32, 116, 111, 111, 32, 108, 97, 114, 103, 101]⟩] 9)) := belA (belA (bel0 _) (Nat.le_refl _) _) (Nat.le_refl _) _
  by_cases hin : c = 1 ∨ c = 2 ∨ c = 3 ∨ c = 4 ∨ c = 5 ∨ c = 6 ∨ c = 7 ∨ c = 8 ∨ c = 9 ∨ c = 10 ∨ c = 11 ∨ c = 12 ∨ c = 13 ∨ c = 21 ∨ c = 22 ∨ c = 23 ∨ c = 24 ∨ c = 25 ∨ c = 26 ∨ c = 30 ∨ c = 31
  · rcases hin with rfl | rfl | rfl | rfl | rfl | rfl | rfl | rfl | rfl | rfl | rfl | rfl | rfl | rfl | rfl | rfl | rfl | rfl | rfl | rfl | rfl
    · go_enter Tryd.func26, Tryd.ntmps26
      go_wp2_with fail
      refine (impl_within3 _ _ _).mono ?_; rintro e w1 ⟨rfl, rfl⟩
      go_wp2_with fail
      go_ret
      exact ⟨rfl, bA⟩
    · go_enter Tryd.func26, Tryd.ntmps26
      go_wp2_with fail
      refine (impl_within3 _ _ _).mono ?_; rintro e w1 ⟨rfl, rfl⟩
      go_wp2_with fail
      go_ret
      exact ⟨rfl, bA⟩
    · go_enter Tryd.func26, Tryd.ntmps26
      go_wp2_with fail
      refine (impl_within3 _ _ _).mono ?_; rintro e w1 ⟨rfl, rfl⟩
      go_wp2_with fail
      go_ret
      exact ⟨rfl, bA⟩
    · go_enter Tryd.func26, Tryd.ntmps26
      go_wp2_with fail
      refine (impl_within3 _ _ _).mono ?_; rintro e w1 ⟨rfl, rfl⟩
      go_wp2_with fail
      go_ret
      exact ⟨rfl, bA⟩
    · go_enter Tryd.func26, Tryd.ntmps26
      go_wp2_with fail
      refine (impl_within3 _ _ _).mono ?_; rintro e w1 ⟨rfl, rfl⟩
      go_wp2_with fail
      go_ret
      exact ⟨rfl, bA⟩
    · go_enter Tryd.func26, Tryd.ntmps26
      go_wp2_with fail
      refine (impl_within3 _ _ _).mono ?_; rintro e w1 ⟨rfl, rfl⟩
      go_wp2_with fail
      go_ret
      exact ⟨rfl, bA⟩
    · go_enter Tryd.func26, Tryd.ntmps26
      go_wp2_with fail
      refine (impl_within3 _ _ _).mono ?_; rintro e w1 ⟨rfl, rfl⟩
      go_wp2_with fail
      go_ret
      exact ⟨rfl, bA⟩
    · go_enter Tryd.func26, Tryd.ntmps26
      go_wp2_with fail
      refine (impl_within3 _ _ _).mono ?_; rintro e w1 ⟨rfl, rfl⟩
      go_wp2_with fail
      go_ret
      exact ⟨rfl, bA⟩
    · go_enter Tryd.func26, Tryd.ntmps26
      go_wp2_with fail
      refine (impl_within3 _ _ _).mono ?_; rintro e w1 ⟨rfl, rfl⟩
      go_wp2_with fail
      go_ret
      exact ⟨rfl, bA⟩
    · go_enter Tryd.func26, Tryd.ntmps26
      go_wp2_with fail
      refine (impl_within3 _ _ _).mono ?_; rintro e w1 ⟨rfl, rfl⟩
      go_wp2_with fail
      go_ret
      exact ⟨rfl, bA⟩
    · go_enter Tryd.func26, Tryd.ntmps26
      go_wp2_with fail
      refine (impl_within3 _ _ _).mono ?_; rintro e w1 ⟨rfl, rfl⟩
      go_wp2_with fail
      go_ret
      exact ⟨rfl, bA⟩
    · go_enter Tryd.func26, Tryd.ntmps26
      go_wp2_with fail
      refine (impl_within3 _ _ _).mono ?_; rintro e w1 ⟨rfl, rfl⟩
      go_wp2_with fail
      go_ret
      exact ⟨rfl, bA⟩
    · go_enter Tryd.func26, Tryd.ntmps26
      go_wp2_with fail
      refine (impl_within3 _ _ _).mono ?_; rintro e w1 ⟨rfl, rfl⟩
      go_wp2_with fail
      go_ret
      exact ⟨rfl, bA⟩
    · go_enter Tryd.func26, Tryd.ntmps26
      go_wp2_with fail
      refine (impl_within3 _ _ _).mono ?_; rintro e w1 ⟨rfl, rfl⟩
      go_wp2_with fail
      refine (impl_within3 _ _ _).mono ?_; rintro e w1 ⟨rfl, rfl⟩
      go_wp2_with fail
      go_ret
      exact ⟨rfl, bA⟩
    · go_enter Tryd.func26, Tryd.ntmps26
      go_wp2_with fail
      refine (impl_within3 _ _ _).mono ?_; rintro e w1 ⟨rfl, rfl⟩
      go_wp2_with fail
      refine (impl_within3 _ _ _).mono ?_; rintro e w1 ⟨rfl, rfl⟩
      go_wp2_with fail
      go_ret
      exact ⟨rfl, bA⟩
    · go_enter Tryd.func26, Tryd.ntmps26
      go_wp2_with fail
      refine (impl_within3 _ _ _).mono ?_; rintro e w1 ⟨rfl, rfl⟩
      go_wp2_with fail
      refine (impl_within3 _ _ _).mono ?_; rintro e w1 ⟨rfl, rfl⟩
      go_wp2_with fail
      go_ret
      exact ⟨rfl, bA⟩
    · go_enter Tryd.func26, Tryd.ntmps26
      go_wp2_with fail
      refine (impl_within3 _ _ _).mono ?_; rintro e w1 ⟨rfl, rfl⟩
      go_wp2_with fail
      refine (impl_within3 _ _ _).mono ?_; rintro e w1 ⟨rfl, rfl⟩
      go_wp2_with fail
      go_ret
      exact ⟨rfl, bA⟩
    · go_enter Tryd.func26, Tryd.ntmps26
      go_wp2_with fail
      refine (impl_within3 _ _ _).mono ?_; rintro e w1 ⟨rfl, rfl⟩
      go_wp2_with fail
      refine (impl_within3 _ _ _).mono ?_; rintro e w1 ⟨rfl, rfl⟩
      go_wp2_with fail
      go_ret
      exact ⟨rfl, bA⟩
    · go_enter Tryd.func26, Tryd.ntmps26
      go_wp2_with fail
      refine (impl_within3 _ _ _).mono ?_; rintro e w1 ⟨rfl, rfl⟩
      go_wp2_with fail
      refine (impl_within3 _ _ _).mono ?_; rintro e w1 ⟨rfl, rfl⟩
      go_wp2_with fail
      go_ret
      exact ⟨rfl, bA⟩
    · go_enter Tryd.func26, Tryd.ntmps26
      go_wp2_with fail
      refine (impl_within3 _ _ _).mono ?_; rintro e w1 ⟨rfl, rfl⟩
      go_wp2_with fail
      refine (impl_within3 _ _ _).mono ?_; rintro e w1 ⟨rfl, rfl⟩
      go_wp2_with fail
      go_ret
      exact ⟨rfl, bA⟩
    · go_enter Tryd.func26, Tryd.ntmps26
      go_wp2_with fail
      refine (impl_within3 _ _ _).mono ?_; rintro e w1 ⟨rfl, rfl⟩
      go_wp2_with fail
      refine (impl_within3 _ _ _).mono ?_; rintro e w1 ⟨rfl, rfl⟩
      go_wp2_with fail
      go_ret
      exact ⟨rfl, bA⟩
  · have hm : messageS c = ⟨#[]⟩ := by simp only [not_or] at hin; simp [messageS, hin]
    have h1 : (decide ((1 : Int) ≤ c) && decide (c ≤ 13)) = false := by simp; omega
    have h2 : (decide ((21 : Int) ≤ c) && decide (c ≤ 26)) = false := by simp; omega
    have h3 : ¬ c = 30 := by omega
    have h4 : ¬ c = 31 := by omega
    clear hin
    rw [hm]; clear hm
    go_enter Tryd.func26, Tryd.ntmps26
    go_wp2_with fail
    refine (impl_within3 _ _ _).mono ?_; rintro e w1 ⟨rfl, rfl⟩
    go_wp2_with fail
    refine (impl_within3 _ _ _).mono ?_; rintro e w1 ⟨rfl, rfl⟩
    go_wp2_with fail
    go_ret
    exact ⟨rfl, bA⟩

end Go.Proofs.YtlgmahbmegejhaaDoor
