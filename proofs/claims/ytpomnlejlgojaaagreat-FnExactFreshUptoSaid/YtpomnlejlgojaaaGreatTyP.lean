/-
  RIGHT TYPES, told plainly: items in the walk's order. Conditions: none.
-/
import Derived.Test.YtpomnlejlgojaaaGreatWords
import Derived.Test.YtpomnlejlgojaaaGreatPatP
import Derived.Test.YtpomnlejlgojaaaGreatGTy
set_option linter.unusedVariables false
namespace Go.Proofs.YtpomnlejlgojaaaGreat
open Go.RowKit Go.Proofs.YtpomnlejlgojaaaGreat.Av Go.Proofs.YtpomnlejlgojaaaGreat.Ml
open Go.Proofs.YtpomnlejlgojaaaGreat.Av.AVal (av)

/-- what is left behind c types, told by the items' arities -/
def skipT : Nat → List Nat → Option (List Nat)
  | 0, l => some l
  | _ + 1, [] => none
  | c + 1, a :: l => skipT (a + c) l
termination_by _ l => l.length
theorem skipT_zero (l : List Nat) : skipT 0 l = some l := by rw [skipT]
theorem skipT_nil (c : Nat) : skipT (c + 1) [] = none := by rw [skipT]
theorem skipT_cons (c a : Nat) (l : List Nat) : skipT (c + 1) (a :: l) = skipT (a + c) l := by rw [skipT]
theorem skipT_add : ∀ (l : List Nat) (a c : Nat), skipT (a + c) l = (skipT a l).bind (skipT c) := by
  intro l
  induction l with
  | nil =>
    intro a c
    cases a with
    | zero => rw [Nat.zero_add, skipT_zero]; rfl
    | succ a => rw [show a + 1 + c = (a + c) + 1 by omega, skipT_nil, skipT_nil]; rfl
  | cons x l ih =>
    intro a c
    cases a with
    | zero => rw [Nat.zero_add, skipT_zero]; rfl
    | succ a => rw [show a + 1 + c = (a + c) + 1 by omega, skipT_cons, skipT_cons, ← Nat.add_assoc, ih]
theorem skipT_len : ∀ (l : List Nat) (c : Nat) (r : List Nat), skipT c l = some r → r.length ≤ l.length ∧ r = l.drop (l.length - r.length) ∧ (0 < c → r.length < l.length) := by
  intro l
  induction l with
  | nil =>
    intro c r h
    cases c with
    | zero => rw [skipT_zero] at h; cases h; simp
    | succ c => rw [skipT_nil] at h; cases h
  | cons x l ih =>
    intro c r h
    cases c with
    | zero => rw [skipT_zero] at h; cases h; simp
    | succ c =>
      rw [skipT_cons] at h
      obtain ⟨h1, h2, h3⟩ := ih _ _ h
      refine ⟨by simp; omega, ?_, fun _ => by simp; omega⟩
      rw [List.length_cons, show l.length + 1 - r.length = (l.length - r.length) + 1 by omega, List.drop_succ_cons]
      exact h2
/-- c places behind -/
def iterT (e : Nat → Option Nat) : Nat → Nat → Option Nat
  | 0, p => some p
  | c + 1, p => (e p).bind (iterT e c)
/-- the place behind the type at a place -/
def endT (A : List Nat) : Nat → Nat → Option Nat
  | 0, _ => none
  | f + 1, p => if p < A.length then iterT (endT A f) (A.getD p 0) (p + 1) else none
theorem endT_skip (A : List Nat) : ∀ (f p : Nat), A.length - p < f → endT A f p = (skipT 1 (A.drop p)).map (fun r => A.length - r.length)
  | 0, p, h => by omega
  | f + 1, p, h => by
    -- c types behind p
    have hit : ∀ c q, p < q → q ≤ A.length → iterT (endT A f) c q = (skipT c (A.drop q)).map (fun r => A.length - r.length) := by
      intro c
      induction c with
      | zero => intro q _ hq; rw [skipT_zero]; simp [iterT]; omega
      | succ c ih =>
        intro q hpq hq
        rw [iterT, endT_skip A f q (by omega), Nat.add_comm c 1, skipT_add]
        cases hs : skipT 1 (A.drop q) with
        | none => rfl
        | some r =>
          obtain ⟨h1, h2, h3⟩ := skipT_len _ _ _ hs
          have h4 := h3 (by omega)
          rw [List.length_drop] at h1 h2 h4
          simp only [Option.map_some, Option.bind_some]
          rw [ih _ (by omega) (by omega)]
          congr 1
          rw [List.drop_drop] at h2
          rw [h2, List.length_drop]
          congr 1; congr 1; omega
    unfold endT
    by_cases hp : p < A.length
    · rw [if_pos hp, hit _ _ (by omega) (by omega), List.drop_eq_getElem_cons hp, skipT_cons, Nat.add_zero]
      simp [List.getD_eq_getElem?_getD, hp]
    · rw [if_neg hp, List.drop_of_length_le (by omega), skipT_nil]; rfl

/-- whether an item is right by itself -/
def itemB (x : TyItem) : Bool :=
  if x.name = bs [] then (decide (0 ≤ x.var) && decide (x.var ≤ 9999)) && decide (x.arity = 0)
  else if x.var = 0 then
    if x.name = bs [45, 62] ∨ x.name = bs [42] then decide (x.arity = 2)
    else if x.name = bs [114, 101, 102] then decide (x.arity = 1)
    else nameB x.name && (decide (0 ≤ x.arity) && decide (x.arity ≤ 2))
  else false
theorem itemB_ar {x : TyItem} (h : itemB x = true) : 0 ≤ x.arity ∧ x.arity ≤ 2 := by
  unfold itemB at h
  split at h
  · simp only [Bool.and_eq_true, decide_eq_true_eq] at h; omega
  · split at h
    · split at h
      · simp only [decide_eq_true_eq] at h; omega
      · split at h
        · simp only [decide_eq_true_eq] at h; omega
        · simp only [Bool.and_eq_true, decide_eq_true_eq] at h; omega
    · cases h
def arL (l : List TyItem) : List Nat := l.map fun x => x.arity.toNat
/-- whether items are one right type -/
def tyItemsB (l : List TyItem) : Bool := l.all itemB && decide (skipT 1 (arL l) = some [])
def tyB (l : List TyItem) : Bool := decide ((l.length : Int) ≤ 200) && tyItemsB l
end Go.Proofs.YtpomnlejlgojaaaGreat
