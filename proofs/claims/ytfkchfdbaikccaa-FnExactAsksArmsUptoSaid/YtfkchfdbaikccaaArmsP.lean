/-
  THE ARMS OF A TREE OF QUESTIONS, told plainly; Compact OF INTS, as a contract over own rows. Conditions: none.
-/
import Derived.Test.YtfkchfdbaikccaaSortI
import Derived.Test.YtfkchfdbaikccaaSortedP
import Derived.Test.YtfkchfdbaikccaaShelfCI
set_option linter.unusedVariables false
set_option linter.unusedSimpArgs false
namespace Go.Proofs.Ytfkchfdbaikccaa
open Go.RowKit Go.Proofs.Ytfkchfdbaikccaa.Av Go.Proofs.Ytfkchfdbaikccaa.Ml
open Go.Proofs.Ytfkchfdbaikccaa.Av.AVal (av)
open Go.Sort (putRow putCells Holds grow mapBlock onCells)

def dedI (l : List Int) : List Int := Lib.compact l
def restI (l : List Int) : List Int := List.replicate (l.length - (dedI l).length) 0
def ltI (a b : Int) : Bool := decide (a < b)
theorem ltI_strict : Srt.Strict ltI := ⟨fun a => by simp [ltI], fun a b c h1 h2 => by simp [ltI] at *; omega, fun a b h => by simp [ltI]; omega⟩
theorem ded_sort (l : List Int) : dedI (sortI l) = l.foldl (Srt.put ltI) [] := by
  unfold dedI sortI
  exact Srt.sort_put ltI_strict (fun x y => decide (x ≤ y)) (fun a b => by simp [ltI]; omega) l
theorem dedI_mem (l : List Int) (x : Int) : x ∈ dedI l → x ∈ l := by
  intro hx
  unfold dedI Lib.compact Lib.compactUpTo at hx
  simp only [List.mem_map, List.mem_filter, List.mem_range] at hx
  obtain ⟨j, ⟨hj, _⟩, rfl⟩ := hx
  have : l.toArray[j]! = l[j] := by simp [hj]
  rw [this]; exact List.getElem_mem hj
theorem sortI_len (l : List Int) : (sortI l).length = l.length := by simp [sortI]
theorem dedI_le (l : List Int) : (dedI l).length ≤ l.length := by
  unfold dedI Lib.compact Lib.compactUpTo
  rw [List.length_map]
  exact Nat.le_trans (List.length_filter_le _ _) (by simp)
def CompIPost (k v : Nat) (l : List Int) (r : AV) (hp' : Hp) : Prop := r = .row k v (dedI l).length ∧ hp' = [(k, ⟨v, false, 3, 1, (dedI l ++ restI l).map av⟩)]
theorem CompactInt_ok (k v : Nat) (l : List Int) (hl : l.length ≤ 1099511627776) : CallsH Try.prog 78 [.row k v l.length] [(k, ⟨v, false, 3, 1, l.map av⟩)] (CompIPost k v l) := by
  have hle : (Lib.compact l).length ≤ l.length := dedI_le l
  refine callsH_asI (turn_sl encI (k := k) (v := v) (n' := (Lib.compact l).length) (ty := 3) (l := l) (l' := Lib.compact l ++ List.replicate (l.length - (Lib.compact l).length) 0) (by kernel_rfl) (by simp only [List.length_append, List.length_replicate]; omega) hle (fun h x hx => ?_) ?_ ?_) rfl rfl ?_
  · rcases List.mem_append.1 hx with hx | hx
    · exact h x (dedI_mem l x hx)
    · obtain ⟨_, rfl⟩ := List.mem_replicate.1 hx
      exact ⟨by decide, by decide⟩
  · intro blk cap w hne hH hb hc hm
    refine (slices_Compact_int blk 0 cap l w hH (by omega) hc).mono ?_
    rintro e w' ⟨rfl, n, rfl⟩
    exact ⟨rfl, n, #[], (Go.Sort.grow_empty _).symm⟩
  · intro a cap w _
    refine (slices_Compact_int_empty a cap w).mono ?_
    rintro e w' ⟨rfl, rfl⟩
    exact ⟨rfl, 0, #[], by simp⟩
  · rintro r h ⟨rfl, rfl⟩
    exact ⟨rfl, rfl⟩
end Go.Proofs.Ytfkchfdbaikccaa
