/-
  Sort AND Compact OF STRINGS, as contracts over own rows. Conditions: none.
-/
import Derived.Test.YtbcifdnfhoikiaaGreatRowH
import Derived.Test.YtbcifdnfhoikiaaGreatShelfSort
set_option linter.unusedVariables false
set_option linter.unusedSimpArgs false
namespace Go.Proofs.YtbcifdnfhoikiaaGreat
open Go.RowKit Go.Proofs.YtbcifdnfhoikiaaGreat.Av Go.Proofs.YtbcifdnfhoikiaaGreat.Ml
open Go.Proofs.YtbcifdnfhoikiaaGreat.Av.AVal (av)
open Go.Sort (putRow putCells Holds grow mapBlock onCells)

def toL (l : List ByteArray) : List (List UInt8) := l.map fun s => s.data.toList
def ofL (l : List (List UInt8)) : List ByteArray := l.map fun s => ⟨s.toArray⟩
theorem ofL_toL (l : List ByteArray) : ofL (toL l) = l := by
  unfold ofL toL; rw [List.map_map]; exact (List.map_congr_left fun s _ => rfl).trans (List.map_id l)
theorem toL_ofL (l : List (List UInt8)) : toL (ofL l) = l := by
  unfold ofL toL; rw [List.map_map]; exact (List.map_congr_left fun s _ => by simp).trans (List.map_id l)
theorem toL_ax (l : List ByteArray) : (toL l).map encS.ax = l.map av := encS_map l
theorem ax_ofL (l : List (List UInt8)) : l.map encS.ax = (ofL l).map av := by rw [← toL_ax, toL_ofL]
theorem toL_len (l : List ByteArray) : (toL l).length = l.length := by simp [toL]
theorem ofL_len (l : List (List UInt8)) : (ofL l).length = l.length := by simp [ofL]
def sortS (l : List ByteArray) : List ByteArray := ofL ((toL l).mergeSort fun x y => decide (x ≤ y))
def dedS (l : List ByteArray) : List ByteArray := ofL (Lib.compact (toL l))
def restS (l : List ByteArray) : List ByteArray := List.replicate (l.length - (dedS l).length) ⟨#[]⟩
theorem sortS_len (l : List ByteArray) : (sortS l).length = l.length := by simp [sortS, ofL_len, toL_len]
theorem sortS_mem (l : List ByteArray) (s : ByteArray) : s ∈ sortS l ↔ s ∈ l := by
  have h : s ∈ sortS l ↔ s ∈ ofL (toL l) := by simp [sortS, ofL]
  rw [h, ofL_toL]
def SortPost (k v : Nat) (l : List ByteArray) (r : AV) (hp' : Hp) : Prop := r = .tup [] ∧ hp' = [(k, ⟨v, false, 9, 1, (sortS l).map av⟩)]
def CompPost (k v : Nat) (l : List ByteArray) (r : AV) (hp' : Hp) : Prop := r = .row k v (dedS l).length ∧ hp' = [(k, ⟨v, false, 9, 1, (dedS l ++ restS l).map av⟩)]
theorem callsH_as {P : Go.Program} {f : FuncId} {args args' : List AV} {hp hp' : Hp} {Post Post' : AV → Hp → Prop} (h : CallsH P f args hp Post) (ha : args = args') (hh : hp = hp') (hp2 : ∀ r h, Post r h → Post' r h) : CallsH P f args' hp' Post' := by
  subst ha hh
  exact ⟨h.1, fun S w μ vs hw hv => (h.2 S w μ vs hw hv).mono fun e w' ⟨v, r, hq, S', μ', a, b, c⟩ => ⟨v, r, hq, S', μ', a, hp2 _ _ b, c⟩⟩
theorem SortStr_ok (k v : Nat) (l : List ByteArray) (hl : l.length ≤ 1099511627776) : CallsH Tryz.prog 29 [.row k v l.length] [(k, ⟨v, false, 9, 1, l.map av⟩)] (SortPost k v l) := by
  refine callsH_as (turn_tup encS (k := k) (v := v) (ty := 9) (l := toL l) (l' := (toL l).mergeSort fun x y => decide (x ≤ y)) (by kernel_rfl) (by simp) (fun h x hx => h x (by simpa using hx)) ?_ ?_) (by rw [toL_len]) (by rw [toL_ax]) ?_
  · intro blk cap w hne hH hb hc hm
    refine (slices_Sort_string blk 0 cap (toL l) w hH hb (by rw [toL_len]; omega)).mono ?_
    rintro e w' ⟨rfl, n, os, rfl⟩
    exact ⟨rfl, n, os, rfl⟩
  · intro a cap w _
    refine (slices_Sort_string_none a cap w).mono ?_
    rintro e w' ⟨rfl, rfl⟩
    exact ⟨rfl, 0, #[], by simp⟩
  · rintro r h ⟨rfl, rfl⟩
    exact ⟨rfl, by rw [ax_ofL]; rfl⟩
theorem compact_mem {α : Type} [Inhabited α] [DecidableEq α] (l : List α) (x : α) : x ∈ Lib.compact l ↔ x ∈ l := by
  have hget : ∀ i, (h : i < l.length) → l.toArray[i]! = l[i] := fun i h => by simp [h]
  unfold Lib.compact Lib.compactUpTo
  simp only [List.mem_map, List.mem_filter, List.mem_range]
  constructor
  · rintro ⟨j, ⟨hj, _⟩, rfl⟩
    rw [hget j hj]; exact List.getElem_mem hj
  · intro hx
    obtain ⟨i, hi, rfl⟩ := List.mem_iff_getElem.1 hx
    have key : ∀ i, i < l.length → ∃ j, (j < l.length ∧ Lib.keeps l.toArray j = true) ∧ l.toArray[j]! = l.toArray[i]! := by
      intro i
      induction i with
      | zero => intro h; exact ⟨0, ⟨h, Lib.keeps_lt_one _ 0 (by omega)⟩, rfl⟩
      | succ i ih =>
        intro h
        by_cases hk : Lib.keeps l.toArray (i + 1) = true
        · exact ⟨i + 1, ⟨h, hk⟩, rfl⟩
        · obtain ⟨j, hj, he⟩ := ih (by omega)
          refine ⟨j, hj, he.trans ?_⟩
          simp only [Lib.keeps] at hk
          simp at hk
          simpa using hk.symm
    obtain ⟨j, hj, he⟩ := key i hi
    exact ⟨j, hj, by rw [he, hget i hi]⟩
theorem CompactStr_ok (k v : Nat) (l : List ByteArray) (hl : l.length ≤ 1099511627776) : CallsH Tryz.prog 30 [.row k v l.length] [(k, ⟨v, false, 9, 1, l.map av⟩)] (CompPost k v l) := by
  have hle := Lib.compact_length_le (toL l)
  rw [toL_len] at hle
  refine callsH_as (turn_sl encS (k := k) (v := v) (n' := (Lib.compact (toL l)).length) (ty := 9) (l := toL l) (l' := Lib.compact (toL l) ++ List.replicate ((toL l).length - (Lib.compact (toL l)).length) []) (by kernel_rfl) (by simp only [List.length_append, List.length_replicate, toL_len]; omega) (by rw [toL_len]; exact hle) (fun h x hx => ?_) ?_ ?_) (by rw [toL_len]) (by rw [toL_ax]) ?_
  · rcases List.mem_append.1 hx with hx | hx
    · exact h x ((compact_mem _ _).1 hx)
    · obtain ⟨_, rfl⟩ := List.mem_replicate.1 hx
      show ([] : List UInt8).length ≤ maxLen
      exact Nat.zero_le _
  · intro blk cap w hne hH hb hc hm
    refine (slices_Compact_string blk 0 cap (toL l) w hH (by rw [toL_len]; omega) hc).mono ?_
    rintro e w' ⟨rfl, n, rfl⟩
    exact ⟨rfl, n, #[], (Go.Sort.grow_empty _).symm⟩
  · intro a cap w _
    refine (slices_Compact_string_empty a cap w).mono ?_
    rintro e w' ⟨rfl, rfl⟩
    exact ⟨rfl, 0, #[], by simp⟩
  · rintro r h ⟨rfl, rfl⟩
    refine ⟨by rw [dedS, ofL_len], ?_⟩
    rw [ax_ofL]
    simp only [ofL, List.map_append, List.map_replicate, restS, dedS, List.length_map, toL_len]
end Go.Proofs.YtbcifdnfhoikiaaGreat
