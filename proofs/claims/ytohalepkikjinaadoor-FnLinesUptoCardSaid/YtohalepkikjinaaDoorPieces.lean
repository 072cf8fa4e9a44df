/-
  THE LINES OF A TEXT (plain law, no program): cut at each byte 10, by one pass; that strings.Split's plain function gives the same; that the pass gives them piece by piece. Conditions: none.
-/
import Derived.Lib.Split
import Derived.Lib.SplitLaws
namespace Go.Proofs.YtohalepkikjinaaDoor
open Go

/-- the pieces; the first lies in the hand so far -/
def pcs : List UInt8 → List UInt8 → List (List UInt8)
  | acc, [] => [acc]
  | acc, b :: t => if b = 10 then acc :: pcs [] t else pcs (acc ++ [b]) t

theorem pcs_ne (acc l : List UInt8) : pcs acc l ≠ [] := by
  induction l generalizing acc with
  | nil => simp [pcs]
  | cons b t ih =>
    unfold pcs
    split
    · simp
    · exact ih _

def hand (acc : List UInt8) : List (List UInt8) → List (List UInt8)
  | [] => []
  | p :: ps => (acc ++ p) :: ps

theorem hand_nil (L : List (List UInt8)) : hand [] L = L := by cases L <;> simp [hand]

theorem index_ten (b : UInt8) (t : List UInt8) : Lib.index (b :: t) [10] = if b = 10 then 0 else if Lib.index t [10] = -1 then -1 else Lib.index t [10] + 1 := by
  unfold Lib.index
  by_cases h : b = 10
  · subst h; simp [List.isPrefixOf]
  · have h' : ([10] : List UInt8).isPrefixOf (b :: t) = false := by simp [List.isPrefixOf]; exact fun e => h e.symm
    rw [h', if_neg h]
    cases t <;> simp [Lib.index]

theorem split_pcs (l : List UInt8) : ∀ (acc : List UInt8) (k : Nat), Lib.count l [10] ≤ k → pcs acc l = hand acc (Lib.splitK [10] 0 k l) := by
  induction l with
  | nil =>
    intro acc k _
    cases k <;> simp [pcs, Lib.splitK, hand, Lib.index]
  | cons b t ih =>
    intro acc k hk
    have hi := index_ten b t
    have hge := Lib.index_ge t [10]
    by_cases hb : b = 10
    · rw [if_pos hb] at hi
      have hc := Lib.count_hit (s := b :: t) (sub := [10]) (i := 0) (by simp) (by rw [hi] <;> rfl)
      simp only [List.length_cons, List.length_nil, Nat.zero_add, List.drop_succ_cons, List.drop_zero] at hc
      obtain ⟨k, rfl⟩ : ∃ k', k = k' + 1 := ⟨k - 1, by omega⟩
      rw [pcs, if_pos hb, ih [] k (by omega), hand_nil, Lib.splitK, hi]
      simp [hand]
    · rw [if_neg hb] at hi
      by_cases hm : Lib.index t [10] = -1
      · rw [if_pos hm] at hi
        have hc : Lib.count t [10] = 0 := Lib.count_miss hm
        rw [pcs, if_neg hb, ih (acc ++ [b]) 0 (by omega), Lib.splitK]
        cases k with
        | zero => simp [Lib.splitK, hand]
        | succ k => simp [Lib.splitK, hi, hand]
      · rw [if_neg hm] at hi
        obtain ⟨i, hi2⟩ : ∃ i : Nat, Lib.index t [10] = i := ⟨(Lib.index t [10]).toNat, by omega⟩
        rw [hi2] at hi
        have hc := Lib.count_hit (s := b :: t) (sub := [10]) (i := i + 1) (by simp) (by rw [hi] <;> rfl)
        have hc2 := Lib.count_hit (s := t) (sub := [10]) (i := i) (by simp) hi2
        simp only [List.length_cons, List.length_nil, Nat.zero_add, List.drop_succ_cons] at hc hc2
        obtain ⟨k, rfl⟩ : ∃ k', k = k' + 1 := ⟨k - 1, by omega⟩
        rw [pcs, if_neg hb, ih (acc ++ [b]) (k + 1) (by omega), Lib.splitK, Lib.splitK, hi, hi2]
        have e1 : (((i : Int) + 1) == -1) = false := by first | (simp; done) | (simp; omega)
        have e2 : ((i : Int) == -1) = false := by first | (simp; done) | (simp; omega)
        have e3 : ((i : Int) + 1).toNat = i + 1 := by omega
        simp [e1, e2, e3, hand]

/-- the lines of a string -/
def linesB (s : ByteArray) : List ByteArray := (pcs [] s.data.toList).map fun l => ⟨l.toArray⟩

theorem splitB_lines (s : ByteArray) : Lib.splitB ⟨#[10]⟩ 0 (Lib.countB s ⟨#[10]⟩) s = linesB s := by
  have h := Lib.splitB_data ⟨#[10]⟩ 0 (Lib.countB s ⟨#[10]⟩) s
  have h2 := split_pcs s.data.toList [] (Lib.countB s ⟨#[10]⟩) (Nat.le_refl _)
  rw [hand_nil] at h2
  unfold linesB
  rw [h2]
  have h3 : Lib.splitK [10] 0 (Lib.countB s ⟨#[10]⟩) s.data.toList = (Lib.splitB ⟨#[10]⟩ 0 (Lib.countB s ⟨#[10]⟩) s).map (·.data.toList) := h.symm
  rw [h3, List.map_map]
  have e : ((fun l : List UInt8 => (⟨l.toArray⟩ : ByteArray)) ∘ fun x : ByteArray => x.data.toList) = id := by funext x; simp
  rw [e, List.map_id]

theorem linesB_len (s : ByteArray) : (linesB s).length = Lib.countB s ⟨#[10]⟩ + 1 := by
  rw [← splitB_lines]; exact Lib.splitB_all ⟨#[10]⟩ (by decide) 0 _ s rfl

theorem pcs_count (l : List UInt8) : ∀ acc, (pcs acc l).length = l.count 10 + 1 := by
  induction l with
  | nil => intro acc; rfl
  | cons b t ih =>
    intro acc
    unfold pcs
    by_cases h : b = 10
    · rw [if_pos h, List.length_cons, ih, h]; simp
    · rw [if_neg h, ih, List.count_cons]; simp [h]

/-- one step of the pass: the hand is text[from:i] -/
theorem pcs_step {l : List UInt8} {a i : Nat} (ha : a ≤ i) (hi : i < l.length) :
    pcs ((l.take i).drop a) (l.drop i) = if l[i] = 10 then (l.take i).drop a :: pcs ((l.take (i + 1)).drop (i + 1)) (l.drop (i + 1)) else pcs ((l.take (i + 1)).drop a) (l.drop (i + 1)) := by
  rw [List.drop_eq_getElem_cons hi, pcs]
  by_cases h : l[i] = 10
  · have e : (l.take (i + 1)).drop (i + 1) = [] := List.drop_of_length_le (by rw [List.length_take]; omega)
    rw [if_pos h, if_pos h, e]
  · rw [if_neg h, if_neg h, List.take_succ_eq_append_getElem hi, List.drop_append_of_le_length (by rw [List.length_take]; omega)]

end Go.Proofs.YtohalepkikjinaaDoor
