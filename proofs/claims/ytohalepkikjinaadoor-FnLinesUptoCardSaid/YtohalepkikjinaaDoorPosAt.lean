/-
  WHERE A LINE AND A COLUMN LIE IN A TEXT (plain law, no program): the search from the front finds what the lines' lengths give. Conditions: none.
-/
import Derived.Test.YtohalepkikjinaaDoorPieces
import Derived.Test.YtohalepkikjinaaDoorLines
namespace Go.Proofs.YtohalepkikjinaaDoor
open Go

/-- search from the front, from the place of line cl and column cc on -/
def find (L C : Int) : List UInt8 → Nat → Nat → Option Int
  | [], cl, cc => if (cl : Int) = L ∧ (cc : Int) = C then some 0 else none
  | b :: t, cl, cc => if (cl : Int) = L ∧ (cc : Int) = C then some 0 else (find L C t (if b = 10 then cl + 1 else cl) (if b = 10 then 1 else cc + 1)).map (· + 1)
def offs (ps : List (List UInt8)) (j : Nat) : Int := ((ps.take j).map fun p => (p.length : Int) + 1).sum
def pick (ps : List (List UInt8)) (j : Nat) (C : Int) : Option Int := match ps[j]? with
  | some p => if 1 ≤ C ∧ C ≤ p.length + 1 then some (offs ps j + C - 1) else none
  | none => none

theorem find_hit {L C : Int} {l : List UInt8} {cl cc : Nat} (h : (cl : Int) = L ∧ (cc : Int) = C) : find L C l cl cc = some 0 := by
  cases l <;> rw [find, if_pos h]
theorem find_nil {L C : Int} {cl cc : Nat} (h : ¬ ((cl : Int) = L ∧ (cc : Int) = C)) : find L C [] cl cc = none := by rw [find, if_neg h]
theorem find_cons {L C : Int} {b : UInt8} {t : List UInt8} {cl cc : Nat} (h : ¬ ((cl : Int) = L ∧ (cc : Int) = C)) :
    find L C (b :: t) cl cc = (find L C t (if b = 10 then cl + 1 else cl) (if b = 10 then 1 else cc + 1)).map (· + 1) := by rw [find, if_neg h]
theorem find_low {L C : Int} : ∀ (l : List UInt8) (cl cc : Nat), L < cl → find L C l cl cc = none
  | [], cl, cc, h => find_nil (by omega)
  | b :: t, cl, cc, h => by rw [find_cons (by omega), find_low t _ _ (by split <;> omega)]; rfl

theorem offs_zero (ps : List (List UInt8)) : offs ps 0 = 0 := rfl
theorem offs_cons (p : List UInt8) (ps : List (List UInt8)) (j : Nat) : offs (p :: ps) (j + 1) = (p.length : Int) + 1 + offs ps j := by simp [offs]
theorem offs_succ (ps : List (List UInt8)) (j : Nat) (h : j < ps.length) : offs ps (j + 1) = offs ps j + ps[j].length + 1 := by
  unfold offs; rw [List.take_succ_eq_append_getElem h, List.map_append, List.sum_append]; simp only [List.map_cons, List.map_nil, List.sum_cons, List.sum_nil]; omega
theorem offs_nonneg (ps : List (List UInt8)) : ∀ j, 0 ≤ offs ps j := by
  induction ps with
  | nil => intro j; simp [offs]
  | cons p ps ih => intro j; cases j with
    | zero => simp [offs]
    | succ j => rw [offs_cons]; have := ih j; omega
theorem pcs_total (l : List UInt8) : ∀ acc, offs (pcs acc l) (pcs acc l).length = acc.length + l.length + 1 := by
  induction l with
  | nil => intro acc; simp [pcs, offs]
  | cons b t ih =>
    intro acc
    unfold pcs
    by_cases h : b = 10
    · rw [if_pos h, List.length_cons, offs_cons, ih]; simp; omega
    · rw [if_neg h, ih]; simp; omega
theorem offs_mono (ps : List (List UInt8)) : ∀ j, offs ps j ≤ offs ps ps.length := by
  induction ps with
  | nil => intro j; simp [offs]
  | cons p ps ih => intro j; cases j with
    | zero => rw [offs_zero]; exact offs_nonneg _ _
    | succ j => rw [List.length_cons, offs_cons, offs_cons]; have := ih j; omega

theorem pick_zero (p : List UInt8) (ps : List (List UInt8)) (C : Int) : pick (p :: ps) 0 C = if 1 ≤ C ∧ C ≤ p.length + 1 then some (C - 1) else none := by
  simp [pick, offs]
theorem pick_succ (p : List UInt8) (ps : List (List UInt8)) (j : Nat) (C : Int) : pick (p :: ps) (j + 1) C = (pick ps j C).map (· + ((p.length : Int) + 1)) := by
  unfold pick
  rw [List.getElem?_cons_succ]
  cases ps[j]? with
  | none => rfl
  | some q =>
    by_cases h : 1 ≤ C ∧ C ≤ (q.length : Int) + 1
    · simp only [if_pos h, Option.map_some, offs_cons]; congr 1; omega
    · simp only [if_neg h, Option.map_none]

theorem find_pcs {L C : Int} (hC : 1 ≤ C) (l : List UInt8) : ∀ (acc : List UInt8) (cl : Nat), (cl : Int) ≤ L → ((cl : Int) = L → (acc.length : Int) + 1 ≤ C) →
    find L C l cl (acc.length + 1) = (pick (pcs acc l) (L - cl).toNat C).map (· - (acc.length : Int)) := by
  induction l with
  | nil =>
    intro acc cl h1 h2
    by_cases hh : (cl : Int) = L ∧ ((acc.length + 1 : Nat) : Int) = C
    · rw [find_hit hh, pcs, show (L - cl).toNat = 0 by omega, pick_zero, if_pos ⟨hC, by omega⟩]
      simp only [Option.map_some]; congr 1; omega
    · rw [find_nil hh, pcs]
      by_cases hL : (cl : Int) = L
      · have := h2 hL
        rw [show (L - cl).toNat = 0 by omega, pick_zero, if_neg (by omega)]; rfl
      · obtain ⟨j, hj⟩ : ∃ j, (L - cl).toNat = j + 1 := ⟨(L - cl).toNat - 1, by omega⟩
        rw [hj, pick_succ]; rfl
  | cons b t ih =>
    intro acc cl h1 h2
    by_cases hb : b = 10
    · have hp : pcs acc (b :: t) = acc :: pcs [] t := by rw [pcs, if_pos hb]
      by_cases hh : (cl : Int) = L ∧ ((acc.length + 1 : Nat) : Int) = C
      · rw [find_hit hh, hp, show (L - cl).toNat = 0 by omega, pick_zero, if_pos ⟨hC, by omega⟩]
        simp only [Option.map_some]; congr 1; omega
      · rw [find_cons hh, if_pos hb, if_pos hb, hp]
        by_cases hL : (cl : Int) = L
        · have := h2 hL
          rw [find_low _ _ _ (by omega), show (L - cl).toNat = 0 by omega, pick_zero, if_neg (by omega)]; rfl
        · obtain ⟨j, hj⟩ : ∃ j, (L - cl).toNat = j + 1 := ⟨(L - cl).toNat - 1, by omega⟩
          have := ih [] (cl + 1) (by omega) (by intro _; simpa using hC)
          simp only [List.length_nil, Nat.zero_add] at this
          rw [this, hj, pick_succ, show (L - ((cl + 1 : Nat) : Int)).toNat = j by omega]
          cases pick (pcs [] t) j C with
          | none => rfl
          | some x => simp only [Option.map_some]; congr 1; omega
    · have hp : pcs acc (b :: t) = pcs (acc ++ [b]) t := by rw [pcs, if_neg hb]
      have hlen : (acc ++ [b]).length = acc.length + 1 := by simp
      by_cases hh : (cl : Int) = L ∧ ((acc.length + 1 : Nat) : Int) = C
      · -- the place itself: it lies in the first piece
        rw [find_hit hh, hp, show (L - cl).toNat = 0 by omega]
        obtain ⟨q, qs, hq, hql⟩ : ∃ q qs, pcs (acc ++ [b]) t = q :: qs ∧ acc.length + 1 ≤ q.length := by
          clear ih hh h2 hp
          have key : ∀ (t : List UInt8) (acc : List UInt8), ∃ q qs, pcs acc t = q :: qs ∧ acc.length ≤ q.length := by
            intro t
            induction t with
            | nil => intro acc; exact ⟨acc, [], rfl, Nat.le_refl _⟩
            | cons b t ih =>
              intro acc
              unfold pcs
              by_cases h : b = 10
              · rw [if_pos h]; exact ⟨acc, _, rfl, Nat.le_refl _⟩
              · rw [if_neg h]
                obtain ⟨q, qs, h1, h2⟩ := ih (acc ++ [b])
                exact ⟨q, qs, h1, by simp at h2; omega⟩
          obtain ⟨q, qs, h1, h2⟩ := key t (acc ++ [b])
          exact ⟨q, qs, h1, by rw [hlen] at h2; exact h2⟩
        rw [hq, pick_zero, if_pos ⟨hC, by omega⟩]
        simp only [Option.map_some]; congr 1; omega
      · rw [find_cons hh, if_neg hb, if_neg hb, hp]
        have := ih (acc ++ [b]) cl h1 (by intro e; have := h2 e; rw [hlen]; omega)
        rw [hlen] at this
        rw [this]
        cases pick (pcs (acc ++ [b]) t) (L - cl).toNat C with
        | none => rfl
        | some x => simp only [Option.map_some]; congr 1; omega

/-- where line L, column C lies -/
def atO (l : List UInt8) (L C : Int) : Option Int := if 1 ≤ L then pick (pcs [] l) (L - 1).toNat C else none
theorem atO_find {l : List UInt8} {L C : Int} (hL : 1 ≤ L) (hC : 1 ≤ C) : find L C l 1 1 = atO l L C := by
  have := find_pcs (L := L) hC l [] 1 (by omega) (by intro _; simpa using hC)
  simp only [List.length_nil, Nat.zero_add] at this
  unfold atO
  rw [if_pos hL, this]
  have e : ((1 : Nat) : Int) = 1 := rfl
  rw [e]
  cases pick (pcs [] l) (L - 1).toNat C with
  | none => rfl
  | some x => simp

/-- one step of the search -/
theorem find_step {l : List UInt8} {L C : Int} {k : Nat} (hk : k < l.length) (h : ¬ ((lineN (l.take k) : Int) = L ∧ (colN (l.take k) : Int) = C)) (hf : find L C l 1 1 = (find L C (l.drop k) (lineN (l.take k)) (colN (l.take k))).map (· + (k : Int))) :
    find L C l 1 1 = (find L C (l.drop (k + 1)) (lineN (l.take (k + 1))) (colN (l.take (k + 1)))).map (· + ((k + 1 : Nat) : Int)) := by
  rw [hf, List.drop_eq_getElem_cons hk, find_cons h, lineN_take hk, colN_take hk]
  have e : lineN (l.take k) + (if l[k] = 10 then 1 else 0) = if l[k] = 10 then lineN (l.take k) + 1 else lineN (l.take k) := by split <;> rfl
  rw [e]
  cases find L C (l.drop (k + 1)) (if l[k] = 10 then lineN (l.take k) + 1 else lineN (l.take k)) (if l[k] = 10 then 1 else colN (l.take k) + 1) with
  | none => rfl
  | some x => simp only [Option.map_some]; congr 1; omega

end Go.Proofs.YtohalepkikjinaaDoor
