/-
  A HEAP's COPY, told plainly. Conditions: none.
-/
import Derived.Test.YtpignflebknagaaCopied
set_option linter.unusedVariables false
set_option linter.unusedSimpArgs false
namespace Go.Proofs.Ytpignflebknagaa
open Go.RowKit Go.Proofs.Ytpignflebknagaa.Av Go.Proofs.Ytpignflebknagaa.Ml
open Go.Proofs.Ytpignflebknagaa.Av.AVal (av)

def copyV (R : List Nat) (v : Val) : Val := if v.kind = 6 then ⟨v.kind, (R.idxOf v.n.toNat : Int), v.s⟩ else v
def copyC (R : List Nat) (c : Cell) : Cell := ⟨c.kind, c.n, c.s, copyV R c.a, copyV R c.b⟩
def copyH (h : List Cell) (roots : List Val) : List Cell := (reachO h roots).map fun i => copyC (reachO h roots) (h.getD i noCell)
def copyR (h : List Cell) (roots : List Val) : List Val := roots.map (copyV (reachO h roots))
theorem bfs_pre (h : List Cell) : ∀ (f k : Nat) (o : List Nat), o <+: bfs h f k o
  | 0, _, _ => List.prefix_rfl
  | f + 1, k, o => by
    rw [bfs]
    split
    · exact (nextO_pre h o _).trans (bfs_pre h f _ _)
    · exact List.prefix_rfl
theorem idx_pre {o R : List Nat} (h : o <+: R) {i : Nat} (hi : i ∈ o) : R.idxOf i = o.idxOf i := by
  obtain ⟨t, rfl⟩ := h
  rw [List.idxOf_append, if_pos hi]
theorem fold_pre : ∀ (r : List Val) (o : List Nat), o <+: r.foldl meetO o
  | [], _ => List.prefix_rfl
  | v :: r, o => by rw [List.foldl_cons]; exact (meetO_pre o v).trans (fold_pre r _)
theorem start_pre (roots : List Val) (k : Nat) : (roots.take k).foldl meetO [] <+: startO roots := by
  unfold startO
  conv => rhs; rw [← List.take_append_drop k roots, List.foldl_append]
  exact fold_pre _ _
theorem reach_pre (h : List Cell) (roots : List Val) : startO roots <+: reachO h roots := bfs_pre h _ _ _

/-- a value that may be moved -/
def MvV (n : Nat) (v : Val) : Prop := okV n v ∧ (v.kind = 6 → 0 ≤ v.n ∧ v.s = bs [])
theorem valB_mv {v : Val} {n : Nat} (h : valB v n = true) : MvV n v := ⟨fun i hi => cellOf_lt h hi, fun k => by simp [valB, k] at h; exact ⟨by omega, h.2⟩⟩
theorem cellB_mv {c : Cell} {n : Nat} (h : cellB c n = true) : MvV n c.a ∧ MvV n c.b := by
  refine ⟨valB_mv (cellB_vala h), (cellB_valb h).1, fun k => ⟨(cellB_valb h).2 k, ?_⟩⟩
  simp only [cellB, Bool.and_eq_true] at h
  obtain ⟨⟨⟨⟨h1, h2⟩, h3⟩, h4⟩, h5⟩ := h
  split at h3
  · exact ((valB_mv h3).2 k).2
  · simp only [noneB, Bool.and_eq_true, decide_eq_true_eq] at h3
    omega
def placeL (n : Nat) (o : List Nat) : List Int := (List.range n).map fun i => if i ∈ o then ((o.idxOf i : Int) + 1) else 0
theorem placeL_len (n : Nat) (o : List Nat) : (placeL n o).length = n := by simp [placeL]
theorem placeL_get {n i : Nat} (o : List Nat) (hi : i < n) : (placeL n o)[i]'(by rw [placeL_len]; exact hi) = if i ∈ o then ((o.idxOf i : Int) + 1) else 0 := by simp [placeL]
theorem placeL_nil (n : Nat) : placeL n [] = List.replicate n 0 := by
  apply List.ext_getElem (by simp [placeL])
  intro i h1 h2
  simp [placeL]
theorem placeL_set {n i : Nat} {o : List Nat} (hi : i < n) (hn : i ∉ o) : (placeL n o).set i ((o.length : Int) + 1) = placeL n (o ++ [i]) := by
  apply List.ext_getElem (by simp [placeL])
  intro j h1 h2
  have hj : j < n := by simpa [placeL] using h2
  rw [List.getElem_set, placeL_get _ hj]
  by_cases h : i = j
  · subst h
    rw [if_pos rfl, placeL_get _ hj, if_pos (by simp), List.idxOf_append, if_neg hn]
    simp
  · rw [if_neg h, placeL_get _ hj]
    have hm : j ∈ o ++ [i] ↔ j ∈ o := by simp [Ne.symm h]
    by_cases hjo : j ∈ o
    · rw [if_pos hjo, if_pos (hm.2 hjo), List.idxOf_append, if_pos hjo]
    · rw [if_neg hjo, if_neg (fun x => hjo (hm.1 x))]
end Go.Proofs.Ytpignflebknagaa
