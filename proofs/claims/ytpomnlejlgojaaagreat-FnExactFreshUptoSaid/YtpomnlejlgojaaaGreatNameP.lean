/-
  THE NAMES OF A PROGRAM, and the first that is free, told plainly. Conditions: none.
-/
import Derived.Test.YtpomnlejlgojaaaGreatNumP
import Derived.Test.YtpomnlejlgojaaaGreatBindsW
set_option linter.unusedVariables false
set_option linter.unusedSimpArgs false
namespace Go.Proofs.YtpomnlejlgojaaaGreat
open Go.RowKit Go.Proofs.YtpomnlejlgojaaaGreat.Av Go.Proofs.YtpomnlejlgojaaaGreat.Ml
open Go.Proofs.YtpomnlejlgojaaaGreat.Av.AVal (av)

def nodeNames (n : Node) : List ByteArray := (if n.kind = 3 ∨ bindB n.kind = true then [n.s] else []) ++ n.pats.flatMap fun q => varsOf q.nodes
def allNames (l : List Node) : List ByteArray := l.flatMap nodeNames
theorem flat_take {α β : Type} (f : α → List β) {l : List α} {k : Nat} (h : k < l.length) : (l.take (k + 1)).flatMap f = (l.take k).flatMap f ++ f l[k] := by
  rw [List.take_succ_eq_append_getElem h, List.flatMap_append]; simp
theorem flat_len {α β : Type} (f : α → List β) (l : List α) : (l.flatMap f).length = (l.map fun x => (f x).length).sum := by
  rw [List.length_flatMap]
theorem pats_names (l : List Pat) (k : Nat) : ((l.take k).flatMap fun q => varsOf q.nodes).length ≤ Bulk.bulk l := by
  rw [flat_len]; exact patsN_bulk l k
theorem node_names (n : Node) : (nodeNames n).length ≤ Bulk.bulk n := by
  have h := pats_names n.pats n.pats.length
  rw [List.take_length] at h
  have hb : Bulk.bulk n = Bulk.bulk n.kind + Bulk.bulk n.pos + Bulk.bulk n.n + Bulk.bulk n.s + Bulk.bulk n.kids + Bulk.bulk n.pats + 1 := rfl
  unfold nodeNames
  rw [List.length_append]
  split <;> simp only [List.length_cons, List.length_nil] <;> omega
theorem all_names (l : List Node) (k : Nat) : (allNames (l.take k)).length ≤ Bulk.bulk l := by
  unfold allNames
  rw [flat_len]; exact sum_le_bulk _ node_names l k

/-- the name of a binding by its depth -/
def nmK (k : Nat) : ByteArray := ⟨#[118]⟩ ++ digS k
def valL (l : List UInt8) : Nat := l.foldl (fun a b => 10 * a + (b.toNat - 48)) 0
theorem val_dig : ∀ k, valL (dig k) = k := by
  intro k
  induction k using Nat.strongRecOn with
  | _ k ih =>
    by_cases h : k < 10
    · rw [dig_small h]
      simp only [valL, List.foldl_cons, List.foldl_nil, UInt8.toNat_ofNat']
      omega
    · rw [dig_great h, valL, List.foldl_append]
      have := ih (k / 10) (by omega)
      rw [valL] at this
      rw [this]
      simp only [List.foldl_cons, List.foldl_nil, UInt8.toNat_ofNat']
      omega
theorem nmK_inj {a b : Nat} (h : nmK a = nmK b) : a = b := by
  have h1 : (nmK a).data.toList = (nmK b).data.toList := by rw [h]
  simp only [nmK, digS, ByteArray.data_append, Array.toList_append, List.append_cancel_left_eq] at h1
  have := congrArg valL h1
  rwa [val_dig, val_dig] at this
theorem sub_len' {α : Type} [DecidableEq α] : ∀ {l m : List α}, l.Nodup → (∀ x ∈ l, x ∈ m) → l.length ≤ m.length
  | [], m, _, _ => Nat.zero_le _
  | x :: l, m, hn, hs => by
    have hx : x ∈ m := hs x (by simp)
    have h2 := List.nodup_cons.1 hn
    have h1 := sub_len' (l := l) (m := m.erase x) h2.2 (fun y hy => (List.mem_erase_of_ne (fun e => h2.1 (by rw [← e]; exact hy))).2 (hs y (by simp [hy])))
    rw [List.length_erase_of_mem hx] at h1
    have := List.length_pos_of_mem hx
    simp only [List.length_cons]
    omega
theorem range_nm (k : Nat) : ((List.range k).map nmK).Nodup := by
  rw [List.nodup_iff_pairwise_ne, List.pairwise_map]
  exact List.Pairwise.imp (fun {a b} h e => h (nmK_inj e)) List.nodup_range
/-- K is the first number whose name is none of l -/
def FirstK (l : List ByteArray) (K : Nat) : Prop := (∀ j, j < K → nmK j ∈ l) ∧ nmK K ∉ l
theorem FirstK.le {l : List ByteArray} {K : Nat} (h : FirstK l K) : K ≤ l.length := by
  have := sub_len' (range_nm K) (m := l) (fun x hx => by
    obtain ⟨j, hj, rfl⟩ := List.mem_map.1 hx
    exact h.1 j (List.mem_range.1 hj))
  simpa using this
theorem firstK_step {l : List ByteArray} {n k : Nat} (hn : n + k = l.length + 1) (hk : ∀ j, j < k → nmK j ∈ l) : ∃ K, FirstK l K := by
  induction n generalizing k with
  | zero =>
    have := sub_len' (range_nm k) (m := l) (fun x hx => by
      obtain ⟨j, hj, rfl⟩ := List.mem_map.1 hx
      exact hk j (List.mem_range.1 hj))
    simp at this; omega
  | succ n ih =>
    by_cases h : nmK k ∈ l
    · exact ih (k := k + 1) (by omega) (fun j hj => by
        by_cases hjk : j = k
        · subst hjk; exact h
        · exact hk j (by omega))
    · exact ⟨k, hk, h⟩
theorem firstK_ex (l : List ByteArray) : ∃ K, FirstK l K := firstK_step (n := l.length + 1) (k := 0) (by omega) (fun j hj => by omega)

/-- a name put into a rising list -/
def lessS (a b : ByteArray) : Bool := Op.bytesLess a.toList b.toList
def insG (s : ByteArray) : List ByteArray → List ByteArray
  | [] => []
  | x :: r => if lessS s x = true then s :: x :: r else x :: insG s r
def putS (l : List ByteArray) (s : ByteArray) : List ByteArray := if l.any (fun x => decide (x = s)) = true then l else if l.any (lessS s) = true then insG s l else l ++ [s]
theorem insG_snoc (s x : ByteArray) : ∀ a, insG s (a ++ [x]) = insG s a ++ (if a.any (lessS s) = false ∧ lessS s x = true then [s, x] else [x])
  | [] => by
    by_cases h : lessS s x = true <;> simp [insG, h]
  | y :: r => by
    simp only [List.cons_append, insG, List.any_cons]
    split
    · rename_i h; simp [h]
    · rename_i h
      rw [insG_snoc s x r]
      simp [h]
theorem insG_none (s : ByteArray) : ∀ {a}, a.any (lessS s) = false → insG s a = a
  | [], _ => rfl
  | y :: r, h => by
    simp only [List.any_cons, Bool.or_eq_false_iff] at h
    simp only [insG]
    rw [if_neg (by rw [h.1]; decide), insG_none s h.2]
theorem insG_len (s : ByteArray) : ∀ a, (insG s a).length = a.length + (if a.any (lessS s) = true then 1 else 0)
  | [] => rfl
  | y :: r => by
    have ih := insG_len s r
    by_cases h : lessS s y = true
    · simp [insG, h]
    · simp only [insG, if_neg h, List.length_cons, ih]
      simp only [Bool.not_eq_true] at h
      simp only [List.any_cons, h, Bool.false_or]
      omega
theorem insG_mem (s y : ByteArray) : ∀ {a}, a.any (lessS s) = true → (y ∈ insG s a ↔ y = s ∨ y ∈ a)
  | [], h => by simp at h
  | x :: r, h => by
    simp only [insG]
    by_cases hx : lessS s x = true
    · rw [if_pos hx]; simp
    · rw [if_neg hx]
      simp only [List.any_cons, hx, Bool.false_or] at h
      simp only [List.mem_cons, insG_mem s y h]
      constructor
      · rintro (h | h | h) <;> simp [h]
      · rintro (h | h | h) <;> simp [h]
theorem putS_mem (s y : ByteArray) (l : List ByteArray) : y ∈ putS l s ↔ y = s ∨ y ∈ l := by
  unfold putS
  split
  · rename_i h
    simp only [List.any_eq_true, decide_eq_true_eq] at h
    obtain ⟨x, hx, rfl⟩ := h
    constructor
    · exact .inr
    · rintro (rfl | h)
      · exact hx
      · exact h
  · split
    · rename_i h; exact insG_mem s y h
    · simp [or_comm]
theorem putS_len (l : List ByteArray) (s : ByteArray) : (putS l s).length ≤ l.length + 1 := by
  unfold putS
  split
  · omega
  · split
    · rename_i h; rw [insG_len, if_pos h]; omega
    · simp
theorem fold_put (m : List ByteArray) : ∀ (l : List ByteArray) (y : ByteArray), y ∈ m.foldl putS l ↔ y ∈ m ∨ y ∈ l := by
  induction m with
  | nil => intro l y; simp
  | cons s m ih =>
    intro l y
    rw [List.foldl_cons, ih, putS_mem]
    simp only [List.mem_cons]
    constructor
    · rintro (h | h | h) <;> simp [h]
    · rintro ((h | h) | h) <;> simp [h]
theorem fold_len (m : List ByteArray) : ∀ (l : List ByteArray), (m.foldl putS l).length ≤ l.length + m.length := by
  induction m with
  | nil => intro l; simp
  | cons s m ih =>
    intro l
    rw [List.foldl_cons]
    have h1 := ih (putS l s)
    have h2 := putS_len l s
    simp only [List.length_cons]
    omega
end Go.Proofs.YtpomnlejlgojaaaGreat
