/-
  A COPIED HEAP IS THE OLD ONE UNDER OTHER NAMES, told plainly. Conditions: none.
-/
import Derived.Test.YtpignflebknagaaCopyP
set_option linter.unusedVariables false
set_option linter.unusedSimpArgs false
namespace Go.Proofs.Ytpignflebknagaa
open Go.RowKit Go.Proofs.Ytpignflebknagaa.Av Go.Proofs.Ytpignflebknagaa.Ml
open Go.Proofs.Ytpignflebknagaa.Av.AVal (av)

theorem idx_get {R : List Nat} (hR : R.Nodup) {k : Nat} (hk : k < R.length) : R.idxOf (R.getD k 0) = k := by
  rw [List.getD_eq_getElem?_getD, List.getElem?_eq_getElem hk]; exact hR.idxOf_getElem k hk
theorem range_idx {m k : Nat} (h : k < m) : (List.range m).idxOf k = k := by
  have := List.nodup_range (n := m) |>.idxOf_getElem k (by simpa using h)
  simpa using this
theorem copyV_cell {R : List Nat} {v : Val} {i : Nat} (h : cellOf v = some i) : cellOf (copyV R v) = some (R.idxOf i) := by
  unfold cellOf at h
  split at h
  · rename_i k
    cases h
    unfold cellOf copyV
    rw [if_pos k]; simp [k]
  · cases h
theorem copyV_none {R : List Nat} {v : Val} (h : cellOf v = none) : copyV R v = v := by
  unfold cellOf at h
  split at h
  · cases h
  · rename_i k
    unfold copyV; rw [if_neg k]
theorem meet_iso {o R : List Nat} {v : Val} (hR : R.Nodup) (hp : meetO o v <+: R) : meetO (List.range o.length) (copyV R v) = List.range (meetO o v).length := by
  have hpo : o <+: R := (meetO_pre o v).trans hp
  cases h : cellOf v with
  | none => rw [copyV_none h]; unfold meetO; rw [h]
  | some i =>
    have hm : meetO o v = meetI o i := by unfold meetO; rw [h]
    have hc := copyV_cell (R := R) h
    have hm2 : meetO (List.range o.length) (copyV R v) = meetI (List.range o.length) (R.idxOf i) := by unfold meetO; rw [hc]
    rw [hm2, hm]
    rw [hm] at hp
    by_cases hi : i ∈ o
    · have e : meetI o i = o := by unfold meetI; rw [if_pos hi]
      rw [e, idx_pre hpo hi]
      unfold meetI
      rw [if_pos (List.mem_range.2 (List.idxOf_lt_length_of_mem hi))]
    · have e : meetI o i = o ++ [i] := by unfold meetI; rw [if_neg hi]
      rw [e] at hp ⊢
      have hx : R.idxOf i = o.length := by
        rw [idx_pre hp (by simp), List.idxOf_append, if_neg hi]; simp
      rw [hx]
      unfold meetI
      rw [if_neg (by simp), List.length_append, List.length_singleton, List.range_succ]
theorem fold_iso {R : List Nat} (hR : R.Nodup) : ∀ (vs : List Val) (o : List Nat), vs.foldl meetO o <+: R → (vs.map (copyV R)).foldl meetO (List.range o.length) = List.range (vs.foldl meetO o).length
  | [], o, _ => rfl
  | v :: vs, o, h => by
    rw [List.foldl_cons] at h
    rw [List.map_cons, List.foldl_cons, List.foldl_cons, meet_iso hR ((fold_pre vs _).trans h)]
    exact fold_iso hR vs _ h
theorem copyH_get (h : List Cell) (roots : List Val) {k : Nat} (hk : k < (reachO h roots).length) : (copyH h roots).getD k noCell = copyC (reachO h roots) (h.getD ((reachO h roots).getD k 0) noCell) := by
  unfold copyH
  rw [List.getD_eq_getElem?_getD, List.getElem?_map, List.getElem?_eq_getElem hk]
  simp [List.getD_eq_getElem?_getD, List.getElem?_eq_getElem hk]
theorem copyH_len (h : List Cell) (roots : List Val) : (copyH h roots).length = (reachO h roots).length := by simp [copyH]
theorem next_iso {h : List Cell} {roots : List Val} {o : List Nat} {k : Nat} (hR : (reachO h roots).Nodup) (hk : k < (reachO h roots).length) (hp : nextO h o ((reachO h roots).getD k 0) <+: reachO h roots) :
    nextO (copyH h roots) (List.range o.length) k = List.range (nextO h o ((reachO h roots).getD k 0)).length := by
  unfold nextO at hp ⊢
  rw [copyH_get h roots hk]
  show meetO (meetO _ (copyV _ _)) (copyV _ _) = _
  rw [meet_iso hR ((meetO_pre _ _).trans hp), meet_iso hR hp]
theorem bfs_iso {h : List Cell} {roots : List Val} (hR : (reachO h roots).Nodup) (hRl : (reachO h roots).length ≤ h.length) : ∀ (f' k : Nat) (o : List Nat) (f : Nat), bfs h f k o = reachO h roots → (reachO h roots).length + 1 ≤ f' + k → h.length + 1 ≤ f + k →
    bfs (copyH h roots) f' k (List.range o.length) = List.range (reachO h roots).length := by
  intro f'
  induction f' with
  | zero =>
    intro k o f hb hf' hf
    have hol := (bfs_pre h f k o).length_le
    rw [hb] at hol
    have ho : bfs h f k o = o := by
      cases f with
      | zero => rfl
      | succ f => rw [bfs, if_neg (by omega)]
    rw [bfs, ← hb, ho]
  | succ f' ih =>
    intro k o f hb hf' hf
    have hop := bfs_pre h f k o
    rw [hb] at hop
    have hol := hop.length_le
    by_cases hk : k < o.length
    · cases f with
      | zero => omega
      | succ f =>
        rw [bfs, if_pos hk] at hb
        have hpn := bfs_pre h f (k + 1) (nextO h o (o.getD k 0))
        rw [hb] at hpn
        have e := pre_getD hop hk
        rw [← e] at hb hpn
        rw [bfs, List.length_range, if_pos hk]
        have e2 : (List.range o.length).getD k 0 = k := by simp [List.getD_eq_getElem?_getD, hk]
        rw [e2, next_iso hR (by omega) hpn]
        exact ih (k + 1) _ f hb (by omega) (by omega)
    · have ho : bfs h f k o = o := by
        cases f with
        | zero => rfl
        | succ f => rw [bfs, if_neg (by omega)]
      rw [bfs, List.length_range, if_neg hk, ← hb, ho]

/-- what a right heap with right roots gives -/
structure Iso (h : List Cell) (roots : List Val) : Prop where
  n : h.length ≤ 4000
  hc : ∀ c ∈ h, cellB c h.length = true
  hv : ∀ v ∈ roots, valB v h.length = true
  e : EndO h (startO roots) (reachO h roots)
theorem heapB_iso {h : List Cell} {roots : List Val} (hb : heapB h roots = true) : Iso h roots := by
  have hb' := hb
  simp only [heapB, Bool.and_eq_true, decide_eq_true_eq, List.all_eq_true] at hb'
  obtain ⟨⟨hn, hc⟩, hv⟩ := hb'
  exact ⟨hn, hc, hv, reach_end (fun c hc' => ⟨fun i hi => cellOf_lt (cellB_vala (hc c hc')) hi, (cellB_valb (hc c hc')).1⟩) (fun v hv' i hi => cellOf_lt (hv v hv') hi)⟩
section
variable {h : List Cell} {roots : List Val}
theorem Iso.reach (H : Iso h roots) : reachO (copyH h roots) (copyR h roots) = List.range (reachO h roots).length := by
  have hnd := H.e.inn.1
  have hl := H.e.inn.len
  have hs : startO (copyR h roots) = List.range (startO roots).length := fold_iso hnd roots [] (reach_pre h roots)
  unfold reachO
  rw [hs]
  exact bfs_iso hnd hl _ 0 _ (h.length + 1) rfl (by rw [copyH_len]; omega) (by omega)
theorem Iso.getR (H : Iso h roots) {v : Val} {i : Nat} (hi : i ∈ reachO h roots) : i < h.length ∧ h.getD i noCell ∈ h ∧ (copyH h roots).getD ((reachO h roots).idxOf i) noCell = copyC (reachO h roots) (h.getD i noCell) := by
  have hlt := H.e.inn.2 i hi
  refine ⟨hlt, ?_, ?_⟩
  · rw [List.getD_eq_getElem?_getD, List.getElem?_eq_getElem hlt]; exact List.getElem_mem hlt
  · have hk := List.idxOf_lt_length_of_mem hi
    rw [copyH_get h roots hk]
    congr 2
    rw [List.getD_eq_getElem?_getD, List.getElem?_eq_getElem hk]
    simp
theorem valB_copy {R : List Nat} {v : Val} {n : Int} (hv : valB v n = true) (hi : ∀ i, cellOf v = some i → i ∈ R) : valB (copyV R v) (R.length : Int) = true := by
  by_cases k : v.kind = 6
  · have hm := hi v.n.toNat (by unfold cellOf; rw [if_pos k])
    have hl := List.idxOf_lt_length_of_mem hm
    simp [valB, k] at hv
    simp [valB, copyV, k, hv.2]
    omega
  · have e : copyV R v = v := by unfold copyV; rw [if_neg k]
    rw [e]
    unfold valB at hv ⊢
    simp only [k, if_false] at hv ⊢
    exact hv
theorem noneB_copy {R : List Nat} {v : Val} (hv : noneB v = true) : copyV R v = v := by
  have k : v.kind = 0 := by simp [noneB] at hv; exact hv.1
  unfold copyV; rw [if_neg (by omega)]
theorem cellB_copy {R : List Nat} {c : Cell} {n : Int} (hc : cellB c n = true) (ha : ∀ i, cellOf c.a = some i → i ∈ R) (hb : ∀ i, cellOf c.b = some i → i ∈ R) : cellB (copyC R c) (R.length : Int) = true := by
  simp only [cellB, Bool.and_eq_true] at hc ⊢
  obtain ⟨⟨⟨⟨h1, h2⟩, h3⟩, h4⟩, h5⟩ := hc
  refine ⟨⟨⟨⟨h1, valB_copy h2 ha⟩, ?_⟩, h4⟩, h5⟩
  have ht : twoB (copyC R c) = twoB c := rfl
  rw [ht]
  split
  · rename_i t; rw [if_pos t] at h3; exact valB_copy h3 hb
  · rename_i t; rw [if_neg t] at h3
    show noneB (copyV R c.b) = true
    rw [noneB_copy h3]; exact h3
theorem Iso.right (H : Iso h roots) : heapB (copyH h roots) (copyR h roots) = true := by
  have hl := H.e.inn.len
  have hn := H.n
  simp only [heapB, Bool.and_eq_true, decide_eq_true_eq, List.all_eq_true, copyH_len]
  refine ⟨⟨by omega, fun c hc => ?_⟩, fun v hv => ?_⟩
  · obtain ⟨i, hi, rfl⟩ := List.mem_map.1 hc
    obtain ⟨hlt, hm, _⟩ := H.getR (v := noVal) hi
    exact cellB_copy (H.hc _ hm) (fun j hj => H.e.closed i hi j (.inl hj)) (fun j hj => H.e.closed i hi j (.inr hj))
  · obtain ⟨u, hu, rfl⟩ := List.mem_map.1 hv
    exact valB_copy (H.hv u hu) (fun i hi => (reach_pre h roots).subset (fold_mem.2 (.inr ⟨u, hu, hi⟩)))
theorem leafV_kind {v : Val} {x y : ByteArray} (h : v.kind = 6 → x = y) (hv : ∃ n, valB v n = true) : leafV v x = leafV v y := by
  by_cases k : v.kind = 6
  · rw [h k]
  · obtain ⟨n, hv⟩ := hv
    unfold valB at hv
    unfold leafV
    repeat' split
    all_goals first | rfl | skip
    all_goals (simp_all; done)
theorem leafV_six {v : Val} {x : ByteArray} (k : v.kind = 6) : leafV v x = x := by
  unfold leafV; simp [k]
theorem cellT_copy {R : List Nat} {c : Cell} {a b b' : ByteArray} (hb : twoB c = true → b = b') (hk : 1 ≤ c.kind ∧ c.kind ≤ 6) : cellT (copyC R c) a b = cellT c a b' := by
  by_cases t : twoB c = true
  · rw [hb t]; rfl
  · have k2 : c.kind ≠ 2 := by intro k; simp [twoB, k] at t
    have k6 : c.kind ≠ 6 := by intro k; simp [twoB, k] at t
    unfold cellT copyC
    simp only
    repeat' split
    all_goals first | rfl | omega
theorem Iso.show (H : Iso h roots) : ∀ (d : Nat) (v : Val), valB v h.length = true → (∀ i, cellOf v = some i → i ∈ reachO h roots) → showV (copyH h roots) d (copyV (reachO h roots) v) = showV h d v
  | 0, v, hv, hi => by
    by_cases k : v.kind = 6
    · rw [showV, showV, leafV_six k, leafV_six (by unfold copyV; rw [if_pos k]; exact k)]
    · unfold copyV; rw [if_neg k, showV, showV]
  | d + 1, v, hv, hi => by
    by_cases k : v.kind = 6
    · have hm := hi v.n.toNat (by unfold cellOf; rw [if_pos k])
      obtain ⟨hlt, hmem, hg⟩ := H.getR (v := v) hm
      have hc := H.hc _ hmem
      have e1 : (copyV (reachO h roots) v).n.toNat = (reachO h roots).idxOf v.n.toNat := by unfold copyV; rw [if_pos k]; simp
      have hcl : ∀ j, kid h v.n.toNat j → j ∈ reachO h roots := H.e.closed _ hm
      rw [showV, showV, leafV_six k, leafV_six (by unfold copyV; rw [if_pos k]; exact k), e1, hg]
      have hcb := hc
      simp only [cellB, Bool.and_eq_true] at hcb
      obtain ⟨⟨⟨⟨h1, h2⟩, h3⟩, h4⟩, h5⟩ := hcb
      have ea : showV (copyH h roots) d (copyC (reachO h roots) (h.getD v.n.toNat noCell)).a = showV h d (h.getD v.n.toNat noCell).a := H.show d _ h2 (fun j hj => hcl j (.inl hj))
      rw [ea]
      refine cellT_copy (fun t => ?_) (by simpa using h1)
      rw [if_pos t] at h3
      exact H.show d _ h3 (fun j hj => hcl j (.inr hj))
    · have e : copyV (reachO h roots) v = v := by unfold copyV; rw [if_neg k]
      rw [e, showV, showV]
      exact leafV_kind (fun k' => absurd k' k) ⟨_, hv⟩
theorem dig_pos : ∀ k, 0 < (dig k).length := by
  intro k
  by_cases h : k < 10
  · rw [dig_small h]; simp
  · rw [dig_great h]; simp
theorem size_app (a b : ByteArray) : (a ++ b).size = a.size + b.size := ByteArray.size_append
theorem leafV_pos {v : Val} {n : Int} {x : ByteArray} (hv : valB v n = true) (hx : 0 < x.size) : 0 < (leafV v x).size := by
  unfold leafV
  repeat' split
  · rename_i k
    simp [valB, k] at hv
    have := dig_pos (-v.n).toNat
    have h2 := dig_pos v.n.toNat
    unfold numS
    rw [if_pos (by omega)]
    split
    · rw [size_app]; show 0 < _ + (List.toArray _).size; simp only [List.size_toArray]; omega
    · show 0 < (List.toArray _).size; simp only [List.size_toArray]; omega
  · show 0 < (List.toArray _).size
    simp
  · rw [bs_size]; simp
  · rename_i k1 k2 k3 k
    simp [valB, k] at hv
    rcases Nat.eq_zero_or_pos v.s.size with h0 | h0
    · exact absurd (ByteArray.ext (Array.eq_empty_of_size_eq_zero h0)) hv.2
    · exact h0
  · rw [size_app, size_app, bs_size]; simp; omega
  · rw [bs_size]; simp
  · exact hx
theorem cellT_pos (c : Cell) (a b : ByteArray) : 0 < (cellT c a b).size := by
  unfold cellT
  repeat' split
  all_goals (simp only [size_app, bs_size, List.length_cons]; omega)
theorem showV_pos {h : List Cell} {v : Val} {n : Int} (hv : valB v n = true) : ∀ d, 0 < (showV h d v).size
  | 0 => by rw [showV]; exact leafV_pos hv (by rw [bs_size]; simp)
  | d + 1 => by rw [showV]; exact leafV_pos hv (cellT_pos _ _ _)
theorem Iso.again (H : Iso h roots) : copyR (copyH h roots) (copyR h roots) = copyR h roots := by
  show (copyR h roots).map (copyV (reachO (copyH h roots) (copyR h roots))) = copyR h roots
  rw [H.reach]
  apply List.ext_getElem (by simp)
  intro i h1 h2
  rw [List.getElem_map]
  have hm : (copyR h roots)[i] ∈ copyR h roots := List.getElem_mem h2
  obtain ⟨v, hv, e⟩ := List.mem_map.1 hm
  rw [← e]
  by_cases k : v.kind = 6
  · have hc : cellOf v = some v.n.toNat := by unfold cellOf; rw [if_pos k]
    have hin : v.n.toNat ∈ reachO h roots := (reach_pre h roots).subset (fold_mem.2 (.inr ⟨v, hv, hc⟩))
    have hl := List.idxOf_lt_length_of_mem hin
    have e1 : copyV (reachO h roots) v = ⟨v.kind, ((reachO h roots).idxOf v.n.toNat : Int), v.s⟩ := by unfold copyV; rw [if_pos k]
    rw [e1]
    unfold copyV
    simp only [k, if_true, Int.toNat_natCast]
    rw [range_idx hl]
  · have e1 : copyV (reachO h roots) v = v := by unfold copyV; rw [if_neg k]
    rw [e1]; unfold copyV; rw [if_neg k]
end
end Go.Proofs.Ytpignflebknagaa
