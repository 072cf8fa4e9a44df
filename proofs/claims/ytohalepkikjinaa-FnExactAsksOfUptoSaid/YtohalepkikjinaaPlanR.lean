/-
  HOW LARGE A TREE OF QUESTIONS IS. Conditions: none.
-/
import Derived.Test.YtohalepkikjinaaPackU
set_option linter.unusedVariables false
namespace Go.Proofs.Ytohalepkikjinaa
open Go.RowKit Go.Proofs.Ytohalepkikjinaa.Av Go.Proofs.Ytohalepkikjinaa.Ml
open Go.Proofs.Ytohalepkikjinaa.Av.AVal (av)

def TOk (t : Tst) : Prop := t.path.length ≤ 600 ∧ t.s.size ≤ 12
def ROk (rows : List TRow) : Prop := ∀ r ∈ rows, ∀ t ∈ r.tests, TOk t
theorem ROk.yes {rows : List TRow} (h : ROk rows) (t : Tst) : ROk (yesR rows t) := fun r hr x hx => by
  unfold yesR at hr
  obtain ⟨q, hq, rfl⟩ := List.mem_map.1 hr
  exact h q (List.mem_filter.1 hq).1 x (List.mem_filter.1 hx).1
theorem ROk.no {rows : List TRow} (h : ROk rows) (t : Tst) : ROk (noR rows t) := fun r hr x hx => h r (List.mem_filter.1 hr).1 x hx
theorem plan_ok : ∀ (f base : Nat) (rows : List TRow), ROk rows → ∀ x ∈ planX f base rows, x.path.length ≤ 600 ∧ x.s.size ≤ 12
  | 0, base, rows, h, x, hx => by rw [planX] at hx; cases hx
  | f + 1, base, rows, h, x, hx => by
    rw [planX] at hx
    split at hx
    · cases hx
    · cases rows with
      | nil =>
        rw [planS] at hx
        rw [List.mem_singleton.1 hx]
        exact ⟨Nat.zero_le _, Nat.zero_le _⟩
      | cons r rs =>
        rw [planS] at hx
        cases ht : r.tests with
        | nil =>
          rw [ht, planT] at hx
          rw [List.mem_singleton.1 hx]
          exact ⟨Nat.zero_le _, Nat.zero_le _⟩
        | cons t ts =>
          rw [ht, planT] at hx
          rcases List.mem_cons.1 hx with rfl | hx
          · exact h r (by simp) t (by rw [ht]; simp)
          · rcases List.mem_append.1 hx with hx | hx
            · exact plan_ok f _ _ (h.yes t) x hx
            · exact plan_ok f _ _ (h.no t) x hx
theorem testsXs_mem : ∀ (ks : List Px) (p : List Int) (i : Nat) (t : Tst), t ∈ testsXs ks p i → ∃ k ∈ ks, ∃ p', t ∈ testsX k p'
  | [], p, i, t, h => by rw [testsXs] at h; cases h
  | k :: ks, p, i, t, h => by
    rw [testsXs, List.mem_append] at h
    rcases h with h | h
    · exact ⟨k, by simp, _, h⟩
    · obtain ⟨k', h1, p', h2⟩ := testsXs_mem ks p (i + 1) t h
      exact ⟨k', List.mem_cons_of_mem _ h1, p', h2⟩
theorem word_size {c : Int} {s : ByteArray} (h : wordB c s = true) : s.size ≤ 12 := by
  unfold wordB at h
  simp only [Bool.and_eq_true, decide_eq_true_eq] at h
  omega
theorem pnode_s {Q : List PNode} {n : PNode} (h : pnodeB Q n = true) : n.s.size ≤ 12 := by
  unfold pnodeB at h
  have e : ∀ l : List Nat, n.s = bs l → l.length ≤ 12 → n.s.size ≤ 12 := fun l hs hl => by rw [hs]; simpa [bs, ByteArray.size] using hl
  split at h
  · simp only [Bool.and_eq_true, decide_eq_true_eq] at h
    exact e [] h.2 (by decide)
  · split at h
    · simp only [Bool.and_eq_true, decide_eq_true_eq] at h
      have h2 := h.2
      unfold nameB at h2
      simp only [Bool.and_eq_true] at h2
      exact word_size h2.1
    · split at h
      · simp only [Bool.and_eq_true, decide_eq_true_eq] at h
        exact e [] h.1.2 (by decide)
      · split at h
        · simp only [Bool.and_eq_true] at h
          have h2 := h.2
          unfold shapeB at h2
          split at h2
          · rename_i hs
            rcases hs with hs | hs | hs
            · exact e _ hs (by decide)
            · exact e _ hs (by decide)
            · exact e _ hs (by decide)
          · split at h2
            · rename_i hs
              exact e _ hs (by decide)
            · simp only [Bool.and_eq_true] at h2
              exact word_size h2.1
        · split at h
          · simp only [Bool.and_eq_true, decide_eq_true_eq] at h
            exact e [] h.2 (by decide)
          · cases h
theorem tests_s {Q : List PNode} (hq : patB Q = true) : ∀ (f i : Nat) (p : List Int) (t : Tst), i < Q.length → t ∈ testsX (growX (phd Q) (pkids Q) f i) p → t.s.size ≤ 12 := by
  obtain ⟨pl, pt, pn⟩ := patB_at hq
  have hn : ∀ i, i < Q.length → (phd Q i).s.size ≤ 12 := fun i hi => by
    have := pn i hi
    unfold patIB at this
    simp only [Bool.and_eq_true] at this
    exact pnode_s this.1
  intro f
  induction f with
  | zero =>
    intro i p t hi h
    rw [growX, testsX] at h
    split at h
    · cases h
    · rw [testsXs] at h
      rw [List.mem_singleton.1 h]
      exact hn i hi
  | succ f ih =>
    intro i p t hi h
    rw [growX, testsX] at h
    split at h
    · cases h
    · rcases List.mem_cons.1 h with rfl | h
      · exact hn i hi
      · obtain ⟨k, hk, p', h2⟩ := testsXs_mem _ _ _ _ h
        obtain ⟨j, hj, rfl⟩ := List.mem_map.1 hk
        have := tree_in pt hi hj
        exact ih j.toNat p' t (by omega) h2
theorem rows_ok {l : List Pat} (i : Nat) (h : ∀ q ∈ l, patB q.nodes = true) : ROk (rowsP i (l.map fun q => ptree q.nodes 0)) := fun r hr t ht => by
  obtain ⟨q, hq, he⟩ := rowsP_mem i _ r hr
  obtain ⟨p, hp, rfl⟩ := List.mem_map.1 hq
  rw [he] at ht
  have h1 := testsX_path _ _ t ht
  have h2 := pat_size (h p hp)
  simp only [List.length_nil] at h1
  exact ⟨by omega, tests_s (h p hp) _ 0 [] t h2.2.2.1 ht⟩
theorem bulk_le {α : Type} [Bulk α] (n : Nat) : ∀ (l : List α), (∀ x ∈ l, Bulk.bulk x ≤ n) → Bulk.bulk l ≤ l.length * n + 1
  | [], _ => by simp [Bulk.bulk]
  | x :: l, h => by
    have h1 := bulk_le n l (fun y hy => h y (List.mem_cons_of_mem _ hy))
    have h2 := h x (by simp)
    simp only [Bulk.bulk, List.map_cons, List.sum_cons, List.length_cons] at h1 ⊢
    rw [Nat.add_mul]
    omega
theorem asksO_bulk (l : List Pat) : Bulk.bulk (⟨(asksO l).getD []⟩ : Asks) ≤ 400000 := by
  have hnone : Bulk.bulk (⟨[]⟩ : Asks) ≤ 400000 := by simp [Bulk.bulk]
  unfold asksO
  split
  · exact hnone
  · rename_i hc
    dsimp only
    split
    · exact hnone
    · rename_i hb
      rw [Option.getD_some]
      have hall : ∀ q ∈ l, patB q.nodes = true := fun q hq => by
        by_cases h : patB q.nodes = true
        · exact h
        · exact absurd (.inr (List.any_eq_true.2 ⟨q, hq, by simpa using h⟩)) hc
      have ho := plan_ok (wtR (rowsP 0 (l.map fun q => ptree q.nodes 0)) + 1) 0 _ (rows_ok 0 hall)
      generalize planX (wtR (rowsP 0 (l.map fun q => ptree q.nodes 0)) + 1) 0 (rowsP 0 (l.map fun q => ptree q.nodes 0)) = P at *
      have h1 := bulk_le 900 P (fun x hx => by
        have h1 := ho x hx
        have h2 := bulk_len_int x.path
        simp only [Bulk.bulk] at h2 ⊢
        omega)
      have h2 : P.length * 900 ≤ 400 * 900 := Nat.mul_le_mul_right _ (by omega)
      show Bulk.bulk P + 1 ≤ 400000
      omega
end Go.Proofs.Ytohalepkikjinaa
