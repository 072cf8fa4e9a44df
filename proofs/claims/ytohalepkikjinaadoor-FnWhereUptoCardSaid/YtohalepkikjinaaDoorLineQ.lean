/-
  LINES PUT TOGETHER AGAIN, AND A PLACE FOUND AGAIN BY ITS LINE AND COLUMN, told plainly. Conditions: none.
-/
import Derived.Test.YtohalepkikjinaaDoorTextAt
import Derived.Test.YtohalepkikjinaaDoorScal
import Derived.Test.YtohalepkikjinaaDoorLineOf
set_option linter.unusedVariables false
namespace Go.Proofs.YtohalepkikjinaaDoor
open Go.RowKit Go.Proofs.YtohalepkikjinaaDoor.Av Go.Proofs.YtohalepkikjinaaDoor.Ml
open Go.Proofs.YtohalepkikjinaaDoor.Av.AVal (av)

def joinL : List (List UInt8) → List UInt8
  | [] => []
  | [p] => p
  | p :: q :: r => p ++ 10 :: joinL (q :: r)
theorem joinL_cons (p : List UInt8) {r : List (List UInt8)} (h : r ≠ []) : joinL (p :: r) = p ++ 10 :: joinL r := by
  cases r with
  | nil => exact absurd rfl h
  | cons q r => rfl
theorem join_pcs : ∀ (l acc : List UInt8), joinL (pcs acc l) = acc ++ l
  | [], acc => by rw [pcs]; simp [joinL]
  | b :: t, acc => by
    rw [pcs]
    split
    · rename_i hb
      rw [joinL_cons _ (pcs_ne _ _), join_pcs t [], hb]; simp
    · rw [join_pcs t (acc ++ [b])]; simp
theorem joinL_snoc : ∀ (L : List (List UInt8)) (p : List UInt8), L ≠ [] → joinL (L ++ [p]) = joinL L ++ 10 :: p
  | [], p, h => absurd rfl h
  | [q], p, _ => rfl
  | q :: r :: L, p, _ => by
    have h := joinL_snoc (r :: L) p (by simp)
    rw [List.cons_append, joinL_cons q (r := r :: L ++ [p]) (by simp), h, joinL_cons q (r := r :: L) (by simp)]
    simp
/-- the first lines put together -/
def outB (s : ByteArray) (k : Nat) : ByteArray := mkB (joinL ((pcs [] s.data.toList).take k))
theorem mkB_app (a b : List UInt8) : mkB a ++ mkB b = mkB (a ++ b) := by
  apply ByteArray.ext
  simp [mkB]
theorem mkB_size (l : List UInt8) : (mkB l).size = l.length := by
  show (List.toArray _).size = _; simp
theorem mkB_data (s : ByteArray) : mkB s.data.toList = s := by
  apply ByteArray.ext; simp [mkB]
theorem lineOf_eq (s : ByteArray) {j : Nat} (hj : j < (pcs [] s.data.toList).length) : lineOfB s ((j : Int) + 1) = mkB ((pcs [] s.data.toList)[j]) := by
  have hl : (linesB s).length = (pcs [] s.data.toList).length := by simp [linesB]
  unfold lineOfB
  rw [if_pos (by omega)]
  have hn : ((j : Int) + 1 - 1).toNat = j := by omega
  rw [hn, List.getElem?_eq_getElem (by omega), Option.getD_some]
  simp [linesB, mkB]
theorem outB_zero (s : ByteArray) : outB s 0 = bs [] := rfl
theorem outB_step (s : ByteArray) {k : Nat} (hk : k < (pcs [] s.data.toList).length) : outB s (k + 1) = (if k = 0 then outB s k else outB s k ++ bs [10]) ++ lineOfB s ((k : Int) + 1) := by
  rw [lineOf_eq s hk]
  unfold outB
  rw [List.take_succ_eq_append_getElem hk]
  have h10 : bs [10] = mkB [10] := rfl
  by_cases h0 : k = 0
  · subst h0
    rw [if_pos rfl, mkB_app]
    rw [List.take_zero]
    rfl
  · rw [if_neg h0, joinL_snoc _ _ (fun e => by
      have : ((pcs [] s.data.toList).take k).length = 0 := by rw [e]; rfl
      rw [List.length_take] at this; omega), h10, mkB_app, mkB_app]
    simp
theorem outB_full (s : ByteArray) : outB s (pcs [] s.data.toList).length = s := by
  unfold outB
  rw [List.take_length, join_pcs, List.nil_append, mkB_data]
theorem joinL_len : ∀ (L : List (List UInt8)) (k : Nat), (joinL (L.take k)).length ≤ (joinL L).length
  | [], k => by simp
  | p :: L, 0 => by simp [joinL]
  | [p], k + 1 => by simp
  | p :: q :: L, k + 1 => by
    have h := joinL_len (q :: L) k
    rw [List.take_succ_cons, joinL_cons p (r := q :: L) (by simp)]
    cases k with
    | zero => simp [joinL]
    | succ k =>
      rw [joinL_cons p (r := List.take (k + 1) (q :: L)) (by simp)]
      simp only [List.length_append, List.length_cons] at h ⊢
      omega
theorem outB_size (s : ByteArray) (k : Nat) : (outB s k).size ≤ s.size := by
  unfold outB
  rw [mkB_size]
  have h := joinL_len (pcs [] s.data.toList) k
  rw [join_pcs, List.nil_append] at h
  have : s.data.toList.length = s.size := by simp
  omega
theorem linesI_pcs (s : ByteArray) : linesI s = (pcs [] s.data.toList).length := by
  unfold linesI lineN
  rw [pcs_count]; omega
/-- the line and the column of a place further on come later -/
theorem place_lt (l : List UInt8) : ∀ (d k : Nat), k + d + 1 ≤ l.length → lineN (l.take k) < lineN (l.take (k + d + 1)) ∨ (lineN (l.take k) = lineN (l.take (k + d + 1)) ∧ colN (l.take k) < colN (l.take (k + d + 1)))
  | 0, k, h => by
    rw [Nat.add_zero, lineN_take (by omega), colN_take (by omega)]
    by_cases hb : l[k] = 10
    · rw [if_pos hb]; exact .inl (by omega)
    · rw [if_neg hb, if_neg hb]; exact .inr ⟨rfl, by omega⟩
  | d + 1, k, h => by
    have ih := place_lt l d k (by omega)
    rw [show k + (d + 1) + 1 = (k + d + 1) + 1 by omega, lineN_take (k := k + d + 1) (by omega), colN_take (k := k + d + 1) (by omega)]
    by_cases hb : l[k + d + 1] = 10
    · rw [if_pos hb]; exact .inl (by omega)
    · rw [if_neg hb, if_neg hb]
      rcases ih with h1 | ⟨h1, h2⟩
      · exact .inl (by omega)
      · exact .inr ⟨h1, by omega⟩
theorem find_place (l : List UInt8) (a : Nat) (ha : a ≤ l.length) : find (lineN (l.take a)) (colN (l.take a)) l 1 1 = some (a : Int) := by
  have key : ∀ k, k ≤ a → find (lineN (l.take a)) (colN (l.take a)) l 1 1 = (find (lineN (l.take a)) (colN (l.take a)) (l.drop k) (lineN (l.take k)) (colN (l.take k))).map (· + (k : Int)) := by
    intro k
    induction k with
    | zero =>
      intro _
      rw [List.drop_zero, List.take_zero]
      show _ = (find _ _ l 1 1).map _
      cases find (lineN (l.take a)) (colN (l.take a)) l 1 1 <;> simp
    | succ k ih =>
      intro hk
      have hne : ¬ ((lineN (l.take k) : Int) = lineN (l.take a) ∧ (colN (l.take k) : Int) = colN (l.take a)) := by
        have := place_lt l (a - k - 1) k (by omega)
        rw [show k + (a - k - 1) + 1 = a by omega] at this
        omega
      exact find_step (by omega) hne (ih (by omega))
  rw [key a (Nat.le_refl _), find_hit ⟨rfl, rfl⟩]
  simp
theorem pick_le {ps : List (List UInt8)} {j : Nat} {C : Int} {x : Int} (h : pick ps j C = some x) : ∃ hj : j < ps.length, 1 ≤ C ∧ C ≤ ps[j].length + 1 := by
  unfold pick at h
  split at h
  · rename_i p hp
    obtain ⟨hj, rfl⟩ := List.getElem?_eq_some_iff.1 hp
    split at h
    · rename_i hc; exact ⟨hj, hc⟩
    · cases h
  · cases h
theorem where_back (s : ByteArray) (a : Int) (h0 : 0 ≤ a) (h1 : a ≤ s.size) :
    textAtN s (whereL s a) (whereC s a) = a ∧ textAtB s (whereL s a) (whereC s a) = true ∧ lineOk s (whereL s a) = true ∧ whereC s a ≤ (lineOfB s (whereL s a)).size + 1 ∧ whereL s a ≤ linesI s ∧ ¬ whereL s a = 0 := by
  obtain ⟨k, rfl⟩ := Int.eq_ofNat_of_zero_le h0
  have hk : k ≤ s.size := by omega
  have hl : s.data.toList.length = s.size := by simp
  obtain ⟨w1, w2⟩ := where_at hk
  have hf := find_place s.data.toList k (by omega)
  have hL : (1 : Int) ≤ lineN (s.data.toList.take k) := by unfold lineN; omega
  have hC : (1 : Int) ≤ colN (s.data.toList.take k) := by have := colN_pos s.data.toList k (by omega); omega
  rw [atO_find hL hC] at hf
  have ht : textAt s (whereL s k) (whereC s k) = some (k : Int) := by
    unfold textAt
    rw [w1, w2, if_pos hC, hf]
  have hp := hf
  unfold atO at hp
  rw [if_pos hL] at hp
  obtain ⟨hj, c1, c2⟩ := pick_le hp
  have hidx : ((((lineN (s.data.toList.take k) : Int) - 1).toNat : Nat) : Int) + 1 = (lineN (s.data.toList.take k) : Int) := by omega
  obtain ⟨_, h3, h4⟩ := linesB_at s hj
  rw [hidx] at h3 h4
  refine ⟨by unfold textAtN; rw [ht]; rfl, by unfold textAtB; rw [ht]; rfl, by rw [w1]; exact h4, by rw [w1, w2, h3]; exact c2, ?_, by rw [w1]; omega⟩
  rw [w1, linesI_pcs]
  omega
end Go.Proofs.YtohalepkikjinaaDoor
