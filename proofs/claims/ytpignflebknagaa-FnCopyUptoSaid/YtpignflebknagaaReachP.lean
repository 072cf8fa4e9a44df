/-
  WHAT ONE COMES TO IN A HEAP, told plainly. Conditions: none.
-/
import Derived.Test.YtpignflebknagaaShowP
set_option linter.unusedVariables false
set_option linter.unusedSimpArgs false
namespace Go.Proofs.Ytpignflebknagaa
open Go.RowKit Go.Proofs.Ytpignflebknagaa.Av Go.Proofs.Ytpignflebknagaa.Ml
open Go.Proofs.Ytpignflebknagaa.Av.AVal (av)

/-- the cell that a value names -/
def cellOf (v : Val) : Option Nat := if v.kind = 6 then some v.n.toNat else none
def meetI (o : List Nat) (i : Nat) : List Nat := if i ∈ o then o else o ++ [i]
def meetO (o : List Nat) (v : Val) : List Nat := match cellOf v with
  | some i => meetI o i
  | none => o
def startO (roots : List Val) : List Nat := roots.foldl meetO []
def nextO (h : List Cell) (o : List Nat) (i : Nat) : List Nat := meetO (meetO o (h.getD i noCell).a) (h.getD i noCell).b
def bfs (h : List Cell) : Nat → Nat → List Nat → List Nat
  | 0, _, o => o
  | f + 1, k, o => if k < o.length then bfs h f (k + 1) (nextO h o (o.getD k 0)) else o
def reachO (h : List Cell) (roots : List Val) : List Nat := bfs h (h.length + 1) 0 (startO roots)

theorem sub_len'' {α : Type} [DecidableEq α] : ∀ {l m : List α}, l.Nodup → (∀ x ∈ l, x ∈ m) → l.length ≤ m.length
  | [], m, _, _ => Nat.zero_le _
  | x :: l, m, hn, hs => by
    have hx : x ∈ m := hs x (by simp)
    have h2 := List.nodup_cons.1 hn
    have h1 := sub_len'' (l := l) (m := m.erase x) h2.2 (fun y hy => (List.mem_erase_of_ne (fun e => h2.1 (by rw [← e]; exact hy))).2 (hs y (by simp [hy])))
    rw [List.length_erase_of_mem hx] at h1
    have := List.length_pos_of_mem hx
    simp only [List.length_cons]
    omega
def InO (n : Nat) (o : List Nat) : Prop := o.Nodup ∧ ∀ i ∈ o, i < n
theorem InO.len {n : Nat} {o : List Nat} (h : InO n o) : o.length ≤ n := by
  have := sub_len'' h.1 (m := List.range n) (fun i hi => List.mem_range.2 (h.2 i hi))
  simpa using this
theorem meetI_in {n i : Nat} {o : List Nat} (h : InO n o) (hi : i < n) : InO n (meetI o i) := by
  unfold meetI
  split
  · exact h
  · rename_i hn
    refine ⟨?_, ?_⟩
    · rw [List.nodup_append]
      exact ⟨h.1, by simp, fun a ha b hb => by simp at hb; subst hb; exact fun e => hn (e ▸ ha)⟩
    · intro j hj
      rcases List.mem_append.1 hj with hj | hj
      · exact h.2 j hj
      · simp at hj; omega
theorem meetI_mem {o : List Nat} {i j : Nat} : j ∈ meetI o i ↔ j ∈ o ∨ j = i := by
  unfold meetI
  split
  · rename_i hi
    exact ⟨.inl, fun h => h.elim id (fun e => e ▸ hi)⟩
  · simp
theorem meetO_mem {o : List Nat} {v : Val} {j : Nat} : j ∈ meetO o v ↔ j ∈ o ∨ cellOf v = some j := by
  unfold meetO
  split
  · rename_i i hi
    rw [meetI_mem, hi]; simp [eq_comm]
  · rename_i hi
    rw [hi]; simp
theorem cellOf_lt {v : Val} {n : Nat} (hv : valB v n = true) {i : Nat} (h : cellOf v = some i) : i < n := by
  unfold cellOf at h
  split at h
  · rename_i k
    simp [valB, k] at hv
    cases h
    omega
  · cases h
/-- a value that names no wrong cell -/
def okV (n : Nat) (v : Val) : Prop := ∀ i, cellOf v = some i → i < n
theorem meetO_in {n : Nat} {o : List Nat} {v : Val} (h : InO n o) (hv : okV n v) : InO n (meetO o v) := by
  unfold meetO
  split
  · rename_i i hi; exact meetI_in h (hv i hi)
  · exact h
theorem fold_in {n : Nat} : ∀ {r : List Val} {o : List Nat}, InO n o → (∀ v ∈ r, okV n v) → InO n (r.foldl meetO o)
  | [], o, h, _ => h
  | v :: r, o, h, hv => by
    rw [List.foldl_cons]
    exact fold_in (meetO_in h (hv v (by simp))) (fun u hu => hv u (by simp [hu]))
theorem fold_mem : ∀ {r : List Val} {o : List Nat} {j : Nat}, j ∈ r.foldl meetO o ↔ j ∈ o ∨ ∃ v ∈ r, cellOf v = some j
  | [], o, j => by simp
  | v :: r, o, j => by
    rw [List.foldl_cons, fold_mem, meetO_mem]
    simp only [List.mem_cons, exists_eq_or_imp, or_assoc]
/-- the cells of a heap are right -/
def okH (h : List Cell) : Prop := ∀ c ∈ h, okV h.length c.a ∧ okV h.length c.b
theorem okH_get {h : List Cell} (hh : okH h) (i : Nat) : okV h.length (h.getD i noCell).a ∧ okV h.length (h.getD i noCell).b := by
  rw [List.getD_eq_getElem?_getD]
  by_cases hi : i < h.length
  · rw [List.getElem?_eq_getElem hi]; exact hh _ (List.getElem_mem hi)
  · rw [List.getElem?_eq_none (by omega)]
    constructor <;> (intro j hj; simp [cellOf, noCell, noVal] at hj)
theorem nextO_in {h : List Cell} {o : List Nat} (hh : okH h) (ho : InO h.length o) (i : Nat) : InO h.length (nextO h o i) := meetO_in (meetO_in ho (okH_get hh i).1) (okH_get hh i).2
/-- j is named by cell i -/
def kid (h : List Cell) (i j : Nat) : Prop := cellOf (h.getD i noCell).a = some j ∨ cellOf (h.getD i noCell).b = some j
theorem nextO_mem {h : List Cell} {o : List Nat} {i j : Nat} : j ∈ nextO h o i ↔ j ∈ o ∨ kid h i j := by
  unfold nextO kid
  rw [meetO_mem, meetO_mem, or_assoc]
theorem meetI_pre (o : List Nat) (i : Nat) : o <+: meetI o i := by
  unfold meetI; split
  · exact List.prefix_rfl
  · exact List.prefix_append _ _
theorem meetO_pre (o : List Nat) (v : Val) : o <+: meetO o v := by
  unfold meetO; split
  · exact meetI_pre _ _
  · exact List.prefix_rfl
theorem nextO_pre (h : List Cell) (o : List Nat) (i : Nat) : o <+: nextO h o i := (meetO_pre _ _).trans (meetO_pre _ _)
theorem pre_getD {a b : List Nat} (h : a <+: b) {i : Nat} (hi : i < a.length) : b.getD i 0 = a.getD i 0 := by
  obtain ⟨t, rfl⟩ := h
  simp [List.getD_eq_getElem?_getD, List.getElem?_append_left hi]
/-- the order at its end -/
structure EndO (h : List Cell) (o0 R : List Nat) : Prop where
  inn : InO h.length R
  sub : ∀ j ∈ o0, j ∈ R
  closed : ∀ i ∈ R, ∀ j, kid h i j → j ∈ R
  least : ∀ P : Nat → Prop, (∀ j ∈ o0, P j) → (∀ i j, P i → kid h i j → P j) → ∀ i ∈ R, P i
theorem bfs_end {h : List Cell} (hh : okH h) : ∀ (f k : Nat) (o o0 : List Nat), h.length + 1 ≤ f + k → InO h.length o → (∀ j ∈ o0, j ∈ o) → (∀ i, i < k → i < o.length → ∀ j, kid h (o.getD i 0) j → j ∈ o) →
    (∀ P : Nat → Prop, (∀ j ∈ o0, P j) → (∀ i j, P i → kid h i j → P j) → ∀ i ∈ o, P i) → EndO h o0 (bfs h f k o) := by
  intro f
  induction f with
  | zero =>
    intro k o o0 hf ho hs hc hl
    have := ho.len
    rw [bfs]
    refine ⟨ho, hs, fun i hi j hj => ?_, hl⟩
    obtain ⟨a, ha, rfl⟩ := List.mem_iff_getElem.1 hi
    exact hc a (by omega) ha j (by rw [List.getD_eq_getElem?_getD, List.getElem?_eq_getElem ha]; exact hj)
  | succ f ih =>
    intro k o o0 hf ho hs hc hl
    rw [bfs]
    split
    · rename_i hk
      have hp := nextO_pre h o (o.getD k 0)
      have hlen := hp.length_le
      refine ih (k + 1) _ o0 (by omega) (nextO_in hh ho _) (fun j hj => nextO_mem.2 (.inl (hs j hj))) (fun i hi hi2 j hj => ?_) (fun P h1 h2 i hi => ?_)
      · by_cases hik : i = k
        · subst hik
          rw [pre_getD hp hk] at hj
          exact nextO_mem.2 (.inr hj)
        · have hio : i < o.length := by omega
          rw [pre_getD hp hio] at hj
          exact nextO_mem.2 (.inl (hc i (by omega) hio j hj))
      · rcases nextO_mem.1 hi with hi | hi
        · exact hl P h1 h2 i hi
        · have hm : o.getD k 0 ∈ o := by rw [List.getD_eq_getElem?_getD, List.getElem?_eq_getElem hk]; exact List.getElem_mem hk
          exact h2 _ _ (hl P h1 h2 _ hm) hi
    · rename_i hk
      refine ⟨ho, hs, fun i hi j hj => ?_, hl⟩
      obtain ⟨a, ha, rfl⟩ := List.mem_iff_getElem.1 hi
      exact hc a (by omega) ha j (by rw [List.getD_eq_getElem?_getD, List.getElem?_eq_getElem ha]; exact hj)
theorem reach_end {h : List Cell} {roots : List Val} (hh : okH h) (hr : ∀ v ∈ roots, okV h.length v) : EndO h (startO roots) (reachO h roots) :=
  bfs_end hh _ 0 _ _ (by omega) (fold_in ⟨List.nodup_nil, fun i hi => by cases hi⟩ hr) (fun _ h => h) (fun i hi => by omega) (fun P h1 _ i hi => h1 i hi)

/-- the order as ints; where the cells lie in it -/
def intsO (o : List Nat) : List Int := o.map fun (i : Nat) => (i : Int)
def atL (n : Nat) (o : List Nat) : List Int := (List.range n).map fun i => if i ∈ o then (o.idxOf i : Int) else -1
theorem intsO_len (o : List Nat) : (intsO o).length = o.length := by simp [intsO]
theorem atL_len (n : Nat) (o : List Nat) : (atL n o).length = n := by simp [atL]
theorem atL_get {n i : Nat} (o : List Nat) (hi : i < n) : (atL n o)[i]'(by rw [atL_len]; exact hi) = if i ∈ o then (o.idxOf i : Int) else -1 := by simp [atL]
theorem atL_nil (n : Nat) : atL n [] = List.replicate n (-1) := by
  apply List.ext_getElem (by simp [atL])
  intro i h1 h2
  simp [atL]
theorem atL_set {n i : Nat} {o : List Nat} (hi : i < n) (hn : i ∉ o) : (atL n o).set i (o.length : Int) = atL n (o ++ [i]) := by
  apply List.ext_getElem (by simp [atL])
  intro j h1 h2
  have hj : j < n := by simpa [atL] using h2
  rw [List.getElem_set, atL_get _ hj]
  by_cases h : i = j
  · subst h
    rw [if_pos rfl, atL_get _ hj, if_pos (by simp), List.idxOf_append, if_neg hn]
    simp
  · rw [if_neg h, atL_get _ hj]
    have hm : j ∈ o ++ [i] ↔ j ∈ o := by simp [Ne.symm h]
    by_cases hjo : j ∈ o
    · rw [if_pos hjo, if_pos (hm.2 hjo), List.idxOf_append, if_pos hjo]
    · rw [if_neg hjo, if_neg (fun x => hjo (hm.1 x))]
end Go.Proofs.Ytpignflebknagaa
