/-
  THE GROUND OF DATA, in one text. Conditions: none.
-/
import Derived.Lib.SlicesCompact

set_option linter.unusedVariables false
set_option linter.unusedSimpArgs false
namespace Go.Proofs.YtabifanjbckchaaGreat
namespace Srt

structure Strict {α : Type} (lt : α → α → Bool) : Prop where
  irr : ∀ a, lt a a = false
  trans : ∀ a b c, lt a b = true → lt b c = true → lt a c = true
  tot : ∀ a b, a ≠ b → lt a b = true ∨ lt b a = true

variable {α : Type} {lt : α → α → Bool}
def Up (lt : α → α → Bool) (l : List α) : Prop := l.Pairwise fun a b => lt a b = true
theorem up_unique (h : Strict lt) : ∀ {l m : List α}, Up lt l → Up lt m → (∀ x, x ∈ l ↔ x ∈ m) → l = m
  | [], [], _, _, _ => rfl
  | [], y :: m, _, _, e => absurd ((e y).2 (by simp)) (by simp)
  | x :: l, [], _, _, e => absurd ((e x).1 (by simp)) (by simp)
  | x :: l, y :: m, hl, hm, e => by
    have hl' := List.pairwise_cons.1 hl
    have hm' := List.pairwise_cons.1 hm
    have hxy : x = y := by
      rcases List.mem_cons.1 ((e x).1 (by simp)) with h1 | h1
      · exact h1
      · rcases List.mem_cons.1 ((e y).2 (by simp)) with h2 | h2
        · exact h2.symm
        · have a := hm'.1 x h1
          have b := hl'.1 y h2
          have := h.trans _ _ _ a b
          rw [h.irr] at this; cases this
    subst hxy
    congr 1
    refine up_unique h hl'.2 hm'.2 fun z => ⟨fun hz => ?_, fun hz => ?_⟩
    · rcases List.mem_cons.1 ((e z).1 (List.mem_cons_of_mem _ hz)) with h1 | h1
      · subst h1; have := hl'.1 z hz; rw [h.irr] at this; cases this
      · exact h1
    · rcases List.mem_cons.1 ((e z).2 (List.mem_cons_of_mem _ hz)) with h1 | h1
      · subst h1; have := hm'.1 z hz; rw [h.irr] at this; cases this
      · exact h1

/-- a value put into a rising list -/
def ins (lt : α → α → Bool) (s : α) : List α → List α
  | [] => []
  | x :: r => if lt s x = true then s :: x :: r else x :: ins lt s r
def put [DecidableEq α] (lt : α → α → Bool) (l : List α) (s : α) : List α := if l.any (fun x => decide (x = s)) = true then l else if l.any (lt s) = true then ins lt s l else l ++ [s]
theorem ins_mem (s y : α) : ∀ {a}, a.any (lt s) = true → (y ∈ ins lt s a ↔ y = s ∨ y ∈ a)
  | [], h => by simp at h
  | x :: r, h => by
    simp only [ins]
    by_cases hx : lt s x = true
    · rw [if_pos hx]; simp
    · rw [if_neg hx]
      simp only [List.any_cons, hx, Bool.false_or] at h
      simp only [List.mem_cons, ins_mem s y h]
      constructor
      · rintro (h | h | h) <;> simp [h]
      · rintro (h | h | h) <;> simp [h]
theorem put_mem [DecidableEq α] (s y : α) (l : List α) : y ∈ put lt l s ↔ y = s ∨ y ∈ l := by
  unfold put
  split
  · rename_i h
    simp only [List.any_eq_true, decide_eq_true_eq] at h
    obtain ⟨x, hx, rfl⟩ := h
    constructor
    · exact .inr
    · rintro (rfl | h)
      · exact hx
      · exact h
  · split
    · rename_i h; exact ins_mem s y h
    · simp [or_comm]
theorem ins_up (h : Strict lt) (s : α) : ∀ {a}, a.any (lt s) = true → s ∉ a → Up lt a → Up lt (ins lt s a)
  | [], h, _, _ => by simp at h
  | x :: r, ha, hs, hu => by
    have hu' := List.pairwise_cons.1 hu
    simp only [ins]
    by_cases hx : lt s x = true
    · rw [if_pos hx]
      refine List.pairwise_cons.2 ⟨fun y hy => ?_, hu⟩
      rcases List.mem_cons.1 hy with rfl | hy
      · exact hx
      · exact h.trans _ _ _ hx (hu'.1 y hy)
    · rw [if_neg hx]
      simp only [List.any_cons, hx, Bool.false_or] at ha
      refine List.pairwise_cons.2 ⟨fun y hy => ?_, ins_up h s ha (fun e => hs (List.mem_cons_of_mem _ e)) hu'.2⟩
      rcases (ins_mem s y ha).1 hy with rfl | hy
      · rcases h.tot x y (fun e => hs (by rw [e]; simp)) with h1 | h1
        · exact h1
        · exact absurd h1 hx
      · exact hu'.1 y hy
theorem put_up [DecidableEq α] (h : Strict lt) (s : α) {l : List α} (hu : Up lt l) : Up lt (put lt l s) := by
  unfold put
  split
  · exact hu
  · rename_i hn
    have hs : s ∉ l := fun e => hn (by simp only [List.any_eq_true, decide_eq_true_eq]; exact ⟨s, e, rfl⟩)
    split
    · rename_i ha; exact ins_up h s ha hs hu
    · rename_i ha
      refine List.pairwise_append.2 ⟨hu, List.pairwise_singleton _ _, fun x hx y hy => ?_⟩
      simp at hy; subst hy
      rcases h.tot x y (fun e => hs (by rw [← e]; exact hx)) with h1 | h1
      · exact h1
      · exact absurd (by simp only [List.any_eq_true]; exact ⟨x, hx, h1⟩) ha
theorem fold_up [DecidableEq α] (h : Strict lt) : ∀ (m l : List α), Up lt l → Up lt (m.foldl (put lt) l)
  | [], l, hu => hu
  | s :: m, l, hu => fold_up h m _ (put_up h s hu)
theorem fold_mem [DecidableEq α] (m : List α) : ∀ (l : List α) (y : α), y ∈ m.foldl (put lt) l ↔ y ∈ m ∨ y ∈ l := by
  induction m with
  | nil => intro l y; simp
  | cons s m ih =>
    intro l y
    rw [List.foldl_cons, ih, put_mem]
    simp only [List.mem_cons]
    constructor
    · rintro (h | h | h) <;> simp [h]
    · rintro ((h | h) | h) <;> simp [h]

theorem ins_snoc (s x : α) : ∀ a, ins lt s (a ++ [x]) = ins lt s a ++ (if a.any (lt s) = false ∧ lt s x = true then [s, x] else [x])
  | [] => by
    by_cases h : lt s x = true <;> simp [ins, h]
  | y :: r => by
    simp only [List.cons_append, ins, List.any_cons]
    split
    · rename_i h; simp [h]
    · rename_i h
      rw [ins_snoc s x r]
      simp [h]
theorem ins_none (s : α) : ∀ {a}, a.any (lt s) = false → ins lt s a = a
  | [], _ => rfl
  | y :: r, h => by
    simp only [List.any_cons, Bool.or_eq_false_iff] at h
    simp only [ins]
    rw [if_neg (by rw [h.1]; decide), ins_none s h.2]
theorem ins_len (s : α) : ∀ a, (ins lt s a).length = a.length + (if a.any (lt s) = true then 1 else 0)
  | [] => rfl
  | y :: r => by
    have ih := ins_len s r
    by_cases h : lt s y = true
    · simp [ins, h]
    · simp only [ins, if_neg h, List.length_cons, ih]
      simp only [Bool.not_eq_true] at h
      simp only [List.any_cons, h, Bool.false_or]
      omega
theorem put_len [DecidableEq α] (l : List α) (s : α) : (put lt l s).length ≤ l.length + 1 := by
  unfold put
  split
  · omega
  · split
    · rename_i h; rw [ins_len, if_pos h]; omega
    · simp
theorem fold_len [DecidableEq α] (m : List α) : ∀ (l : List α), (m.foldl (put lt) l).length ≤ l.length + m.length := by
  induction m with
  | nil => intro l; simp
  | cons s m ih =>
    intro l
    rw [List.foldl_cons]
    have h1 := ih (put lt l s)
    have h2 := put_len (lt := lt) l s
    simp only [List.length_cons]
    omega

/-- neighbours that are the same taken away -/
theorem compact_up [Inhabited α] [DecidableEq α] (h : Strict lt) {l : List α} (hl : l.Pairwise fun a b => a = b ∨ lt a b = true) : Up lt (Lib.compact l) ∧ ∀ x, x ∈ Lib.compact l ↔ x ∈ l := by
  have hget : ∀ i, (h : i < l.length) → l.toArray[i]! = l[i] := fun i h => by simp [h]
  have hp : ∀ i j, (hij : i < j) → (hj : j < l.length) → l[i]'(by omega) = l[j] ∨ lt (l[i]'(by omega)) l[j] = true := fun i j hij hj => List.pairwise_iff_getElem.1 hl i j (by omega) hj hij
  have step : ∀ m, m ≤ l.length → Up lt (Lib.compactUpTo l.toArray m) ∧ (∀ x, x ∈ Lib.compactUpTo l.toArray m ↔ ∃ i, ∃ hi : i < l.length, i < m ∧ l[i] = x) := by
    intro m
    induction m with
    | zero => intro _; exact ⟨by simp [Lib.compactUpTo, Up], fun x => by simp [Lib.compactUpTo]⟩
    | succ m ih =>
      intro hm
      obtain ⟨i1, i2⟩ := ih (by omega)
      have hml : m < l.length := by omega
      rw [Lib.compactUpTo_succ, hget m hml]
      by_cases hk : Lib.keeps l.toArray m = true
      · rw [if_pos hk]
        refine ⟨List.pairwise_append.2 ⟨i1, List.pairwise_singleton _ _, fun x hx y hy => ?_⟩, fun x => ?_⟩
        · simp at hy; subst hy
          obtain ⟨i, hi, him, rfl⟩ := (i2 x).1 hx
          simp only [Lib.keeps, decide_eq_true_eq] at hk
          rcases hk with hk | hk
          · omega
          · rw [hget m hml, hget (m - 1) (by omega)] at hk
            have h1 : lt (l[m - 1]'(by omega)) l[m] = true := by
              rcases hp (m - 1) m (by omega) hml with e | e
              · exact absurd e.symm hk
              · exact e
            rcases Nat.lt_or_ge i (m - 1) with hlt | hge
            · rcases hp i (m - 1) hlt (by omega) with e | e
              · rw [e]; exact h1
              · exact h.trans _ _ _ e h1
            · obtain rfl : i = m - 1 := by omega
              exact h1
        · rw [List.mem_append, i2 x]
          simp only [List.mem_singleton]
          constructor
          · rintro (⟨i, hi, him, e⟩ | e)
            · exact ⟨i, hi, by omega, e⟩
            · exact ⟨m, hml, by omega, e.symm⟩
          · rintro ⟨i, hi, him, e⟩
            rcases Nat.lt_or_ge i m with hlt | hge
            · exact .inl ⟨i, hi, hlt, e⟩
            · obtain rfl : i = m := by omega
              exact .inr e.symm
      · rw [if_neg hk, List.append_nil]
        refine ⟨i1, fun x => ?_⟩
        rw [i2 x]
        simp only [Lib.keeps, decide_eq_true_eq, not_or, Decidable.not_not] at hk
        obtain ⟨hk0, hk⟩ := hk
        rw [hget m hml, hget (m - 1) (by omega)] at hk
        constructor
        · rintro ⟨i, hi, him, e⟩; exact ⟨i, hi, by omega, e⟩
        · rintro ⟨i, hi, him, e⟩
          rcases Nat.lt_or_ge i m with hlt | hge
          · exact ⟨i, hi, hlt, e⟩
          · have hi' : i = m := by omega
            subst hi'
            exact ⟨i - 1, by omega, by omega, by rw [← hk]; exact e⟩
  obtain ⟨s1, s2⟩ := step l.length (Nat.le_refl _)
  refine ⟨s1, fun x => ?_⟩
  unfold Lib.compact
  rw [s2 x, List.mem_iff_getElem]
  constructor
  · rintro ⟨i, hi, _, e⟩; exact ⟨i, hi, e⟩
  · rintro ⟨i, hi, e⟩; exact ⟨i, hi, hi, e⟩
/-- sorting and taking doubles away is putting in one by one -/
theorem sort_put [Inhabited α] [DecidableEq α] (h : Strict lt) (le : α → α → Bool) (hle : ∀ a b, le a b = true ↔ a = b ∨ lt a b = true) (l : List α) : Lib.compact (l.mergeSort le) = l.foldl (put lt) [] := by
  have hs : (l.mergeSort le).Pairwise fun a b => le a b = true := by
    refine List.pairwise_mergeSort (fun a b c h1 h2 => ?_) (fun a b => ?_) l
    · rw [hle] at h1 h2 ⊢
      rcases h1 with rfl | h1
      · exact h2
      · rcases h2 with rfl | h2
        · exact .inr h1
        · exact .inr (h.trans _ _ _ h1 h2)
    · rw [Bool.or_eq_true, hle, hle]
      by_cases e : a = b
      · exact .inl (.inl e)
      · rcases h.tot a b e with h1 | h1
        · exact .inl (.inr h1)
        · exact .inr (.inr h1)
  obtain ⟨c1, c2⟩ := compact_up h (l := l.mergeSort le) (hs.imp fun {a b} hab => (hle a b).1 hab)
  refine up_unique h c1 (fold_up h l [] List.Pairwise.nil) fun x => ?_
  rw [c2 x, List.mem_mergeSort, fold_mem]
  simp
end Srt
end Go.Proofs.YtabifanjbckchaaGreat


set_option linter.unusedVariables false
set_option linter.unusedSimpArgs false
namespace Go.Proofs.YtabifanjbckchaaGreat

/-- one comes to a place from place 0 -/
inductive Rch (sc : Nat → List Nat) : Nat → Prop
  | zero : Rch sc 0
  | step {k j : Nat} (h : Rch sc k) (hj : j ∈ sc k) : Rch sc j
open Classical in
/-- all places that one comes to, rising; none if one of them is bad -/
noncomputable def rchL (sc : Nat → List Nat) (bad : Nat → Prop) (n : Nat) : List Nat := if ∃ k, Rch sc k ∧ bad k then [] else (List.range n).filter fun k => decide (Rch sc k)
theorem rch_closed {sc : Nat → List Nat} {out : List Nat} (h0 : 0 ∈ out) (hc : ∀ k ∈ out, ∀ j ∈ sc k, j ∈ out) : ∀ k, Rch sc k → k ∈ out := by
  intro k h
  induction h with
  | zero => exact h0
  | step _ hj ih => exact hc _ ih _ hj
theorem rchL_bad {sc : Nat → List Nat} {bad : Nat → Prop} {n k : Nat} (h : Rch sc k) (hb : bad k) : rchL sc bad n = [] := by
  unfold rchL; rw [if_pos ⟨k, h, hb⟩]
theorem natLt : Srt.Strict (fun a b : Nat => decide (a < b)) := ⟨fun a => by simp, fun a b c h1 h2 => by simp at *; omega, fun a b h => by simp; omega⟩
theorem range_up (n : Nat) (p : Nat → Bool) : Srt.Up (fun a b : Nat => decide (a < b)) ((List.range n).filter p) := by
  have : (List.range n).Pairwise (fun a b => decide (a < b) = true) := List.pairwise_lt_range.imp fun h => by simpa using h
  exact this.filter _
theorem rchL_of {sc : Nat → List Nat} {bad : Nat → Prop} {n : Nat} {out : List Nat} (h1 : ∀ k ∈ out, Rch sc k ∧ ¬ bad k ∧ k < n) (h0 : 0 ∈ out) (hc : ∀ k ∈ out, ∀ j ∈ sc k, j ∈ out) :
    rchL sc bad n = (List.range n).filter fun k => decide (k ∈ out) := by
  have hall := rch_closed h0 hc
  unfold rchL
  rw [if_neg (by rintro ⟨k, hk, hb⟩; exact (h1 k (hall k hk)).2.1 hb)]
  apply List.filter_congr
  intro k _
  exact decide_eq_decide.2 ⟨hall k, fun h => (h1 k h).1⟩
/-- a list without doubles, sorted -/
theorem rchL_sort {sc : Nat → List Nat} {bad : Nat → Prop} {n : Nat} {out : List Nat} (h1 : ∀ k ∈ out, Rch sc k ∧ ¬ bad k ∧ k < n) (h0 : 0 ∈ out) (hc : ∀ k ∈ out, ∀ j ∈ sc k, j ∈ out) (hn : out.Nodup)
    {m : List Int} (hm : m = (out.map fun k : Nat => (k : Int)).mergeSort fun a b => decide (a ≤ b)) : m = (rchL sc bad n).map fun k : Nat => (k : Int) := by
  rw [rchL_of h1 h0 hc, hm]
  have hlt : Srt.Strict (fun a b : Int => decide (a < b)) := ⟨fun a => by simp, fun a b c h1 h2 => by simp at *; omega, fun a b h => by simp; omega⟩
  refine Srt.up_unique hlt ?_ ?_ ?_
  · have hs : ((out.map fun k : Nat => (k : Int)).mergeSort fun a b => decide (a ≤ b)).Pairwise fun a b => decide (a ≤ b) = true :=
      List.pairwise_mergeSort (fun a b c h1 h2 => by simp at *; omega) (fun a b => by simp; omega) _
    have hnd : ((out.map fun k : Nat => (k : Int)).mergeSort fun a b => decide (a ≤ b)).Nodup := by
      refine (List.mergeSort_perm _ _).nodup_iff.2 ?_
      rw [List.nodup_iff_pairwise_ne] at hn ⊢
      rw [List.pairwise_map]
      exact hn.imp fun h e => h (by omega)
    rw [List.nodup_iff_pairwise_ne] at hnd
    exact (hs.and hnd).imp fun {a b} ⟨p, q⟩ => by simp at *; omega
  · have := range_up n (fun k => decide (k ∈ out))
    unfold Srt.Up at this ⊢
    rw [List.pairwise_map]
    exact this.imp fun h => by simp at *; omega
  · intro x
    rw [List.mem_mergeSort]
    simp only [List.mem_map, List.mem_filter, List.mem_range, decide_eq_true_eq]
    constructor
    · rintro ⟨k, hk, rfl⟩; exact ⟨k, ⟨(h1 k hk).2.2, hk⟩, rfl⟩
    · rintro ⟨k, ⟨_, hk⟩, rfl⟩; exact ⟨k, hk, rfl⟩
end Go.Proofs.YtabifanjbckchaaGreat
