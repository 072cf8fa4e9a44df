/-
  NODES IN THE WALK's ORDER, told plainly: the place behind the tree that begins at a place. Conditions: none.
-/
import Derived.Test.YtfkchfdbaikccaaAvSimp
namespace Go.Proofs.Ytfkchfdbaikccaa

/-- the children one after the other: each stands where the one ahead ends -/
def kidsF (e : Nat → Option Nat) : List Int → Nat → Option Nat
  | [], nx => some nx
  | k :: ks, nx => if k = nx then (match e nx with | some m => kidsF e ks m | none => none) else none
/-- the place behind the tree at a place -/
def endF (K : Nat → List Int) (n : Nat) : Nat → Nat → Option Nat
  | 0, _ => none
  | f + 1, i => if i < n then kidsF (endF K n f) (K i) (i + 1) else none
/-- a walk's step: the tree at i, where next is due -/
def walkF (K : Nat → List Int) (n f : Nat) (i : Int) (nx : Nat) : Option Nat := if i = nx then endF K n f nx else none

theorem kids_le {e : Nat → Option Nat} {n : Nat} (he : ∀ a m, e a = some m → a < m ∧ m ≤ n) : ∀ {ks : List Int} {a m : Nat}, kidsF e ks a = some m → a ≤ n → a ≤ m ∧ m ≤ n
  | [], a, m, h, ha => by cases h; exact ⟨Nat.le_refl _, ha⟩
  | k :: ks, a, m, h, ha => by
    unfold kidsF at h
    split at h
    · split at h
      · rename_i m' hm'
        have h1 := he _ _ hm'
        have h2 := kids_le he h h1.2
        omega
      · cases h
    · cases h
theorem end_le (K : Nat → List Int) (n : Nat) : ∀ (f a m : Nat), endF K n f a = some m → a < m ∧ m ≤ n
  | 0, a, m, h => by cases h
  | f + 1, a, m, h => by
    unfold endF at h
    split at h
    · have := kids_le (end_le K n f) h (by omega)
      omega
    · cases h
/-- more steps give no less -/
theorem kids_mono {e e' : Nat → Option Nat} (he : ∀ a m, e a = some m → e' a = some m) : ∀ {ks : List Int} {a m : Nat}, kidsF e ks a = some m → kidsF e' ks a = some m
  | [], a, m, h => h
  | k :: ks, a, m, h => by
    unfold kidsF at h ⊢
    split at h
    · rename_i hk
      rw [if_pos hk]
      split at h
      · rename_i m' hm'
        rw [he _ _ hm']
        exact kids_mono he h
      · cases h
    · cases h
theorem end_mono (K : Nat → List Int) (n : Nat) : ∀ (f a m : Nat), endF K n f a = some m → endF K n (f + 1) a = some m
  | 0, a, m, h => by cases h
  | f + 1, a, m, h => by
    unfold endF at h ⊢
    split at h
    · rename_i hl; rw [if_pos hl]; exact kids_mono (end_mono K n f) h
    · cases h
theorem end_more (K : Nat → List Int) (n : Nat) {f a m : Nat} (h : endF K n f a = some m) : ∀ g, f ≤ g → endF K n g a = some m := by
  intro g hg
  induction g with
  | zero => obtain rfl : f = 0 := by omega
            exact h
  | succ g ih =>
    rcases Nat.lt_or_ge g f with h1 | h1
    · obtain rfl : f = g + 1 := by omega
      exact h
    · exact end_mono K n g a m (ih h1)
/-- enough steps are all -/
theorem kids_enough {e e' : Nat → Option Nat} {n b : Nat} (hle : ∀ a m, e a = some m → a < m ∧ m ≤ n) (he : ∀ a, b ≤ a → e a = e' a) : ∀ {ks : List Int} {a : Nat}, b ≤ a → kidsF e ks a = kidsF e' ks a
  | [], a, _ => rfl
  | k :: ks, a, ha => by
    unfold kidsF
    rw [he a ha]
    split
    · cases hm : e' a with
      | none => rfl
      | some m =>
        have := hle a m (by rw [he a ha]; exact hm)
        exact kids_enough hle he (by omega)
    · rfl
theorem end_enough (K : Nat → List Int) (n : Nat) : ∀ (f a : Nat), n - a < f → endF K n f a = endF K n (f + 1) a
  | 0, a, h => by omega
  | f + 1, a, h => by
    rw [endF, endF]
    split
    · refine kids_enough (b := a + 1) (end_le K n f) (fun c hc => ?_) (Nat.le_refl _)
      exact end_enough K n f c (by omega)
    · rfl
theorem end_any (K : Nat → List Int) (n : Nat) {f a : Nat} (h : n - a < f) : ∀ g, f ≤ g → endF K n g a = endF K n f a := by
  intro g hg
  induction g with
  | zero => omega
  | succ g ih =>
    rcases Nat.lt_or_ge g f with h1 | h1
    · obtain rfl : f = g + 1 := by omega
      rfl
    · rw [← end_enough K n g a (by omega)]; exact ih h1
/-- the children of what lies within lie within, behind it -/
theorem kids_in {K : Nat → List Int} {n : Nat} {e : Nat → Option Nat} (hle : ∀ a m, e a = some m → a < m ∧ m ≤ n) (he : ∀ a m, e a = some m → ∀ i, a ≤ i → i < m → ∀ k ∈ K i, (i : Int) < k ∧ k < n) :
    ∀ {ks : List Int} {a m : Nat}, a ≤ n → kidsF e ks a = some m → (∀ k ∈ ks, (a : Int) ≤ k ∧ k < m) ∧ ∀ i, a ≤ i → i < m → ∀ k ∈ K i, (i : Int) < k ∧ k < n
  | [], a, m, _, h => by cases h; exact ⟨fun k hk => (by cases hk), fun i h1 h2 => by omega⟩
  | k :: ks, a, m, ha, h => by
    unfold kidsF at h
    split at h
    · rename_i hk
      split at h
      · rename_i m' hm'
        have h1 := hle _ _ hm'
        have h2 := kids_in hle he h1.2 h
        have h3 := kids_le hle h h1.2
        refine ⟨fun x hx => ?_, fun i h4 h5 => ?_⟩
        · rcases List.mem_cons.1 hx with rfl | hx
          · omega
          · have := h2.1 x hx; omega
        · rcases Nat.lt_or_ge i m' with h6 | h6
          · exact he _ _ hm' i h4 h6
          · exact h2.2 i h6 h5
      · cases h
    · cases h
theorem end_in (K : Nat → List Int) (n : Nat) : ∀ (f a m : Nat), endF K n f a = some m → ∀ i, a ≤ i → i < m → ∀ k ∈ K i, (i : Int) < k ∧ k < n
  | 0, a, m, h => by cases h
  | f + 1, a, m, h => by
    have hm := end_le K n (f + 1) a m h
    unfold endF at h
    split at h
    · rename_i hl
      have h1 := kids_in (end_le K n f) (end_in K n f) (by omega) h
      intro i hi him k hk
      rcases Nat.lt_or_ge a i with h2 | h2
      · exact h1.2 i (by omega) him k hk
      · obtain rfl : i = a := by omega
        have := h1.1 k hk
        omega
    · cases h
/-- whether n nodes are one tree, in the walk's order -/
def treeB (K : Nat → List Int) (n : Nat) : Bool := decide (endF K n (n + 1) 0 = some n)
theorem tree_in {K : Nat → List Int} {n : Nat} (h : treeB K n = true) {i : Nat} (hi : i < n) {k : Int} (hk : k ∈ K i) : (i : Int) < k ∧ k < n :=
  end_in K n _ 0 n (of_decide_eq_true h) i (Nat.zero_le _) hi k hk
end Go.Proofs.Ytfkchfdbaikccaa
