/-
 THE GROUND OF DATA, in one text. Conditions: none.
-/
import Derived.Test.YtmlckdffkbbbhaaGreatPackA
import Derived.Test.YtmlckdffkbbbhaaGreatAvSimp
import Derived.Test.YtmlckdffkbbbhaaGreatWords
import Derived.Test.YtmlckdffkbbbhaaGreatPackG
import Derived.Test.YtmlckdffkbbbhaaGreatOps
import Derived.Lib.SlicesCompact

set_option linter.unusedVariables false
namespace Go.Proofs.YtmlckdffkbbbhaaGreat
open Go.RowKit Go.Proofs.YtmlckdffkbbbhaaGreat.Av
open Go.Proofs.YtmlckdffkbbbhaaGreat.Av.AVal (av)
open AVal (av)

theorem getD_at {α : Type} {l : List α} {k : Nat} (h : k < l.length) (d : α) : l.getD k d = l[k] := by simp [List.getD_eq_getElem?_getD, h]
theorem av_getD {α : Type} [AVal α] (d : List α) (z : α) {j : Nat} (h : j < d.length) : (d.map av).getD j .top = av (d.getD j z) := by
 rw [getD_map av d j .top h, getD_at h]
theorem take_map {α β : Type} (f : α → β) (l : List α) : (l.map f).take l.length = l.map f := by rw [List.take_of_length_le]; simp
def allI (p : Nat → Bool) (n : Nat) : Bool := (List.range n).all p
theorem allI_true {p : Nat → Bool} {n : Nat} (h : ∀ i, i < n → p i = true) : allI p n = true := by
 unfold allI; rw [List.all_eq_true]; intro i hi; exact h i (List.mem_range.1 hi)
theorem allI_false {p : Nat → Bool} {n i : Nat} (hi : i < n) (h : p i = false) : allI p n = false := by
 unfold allI; rw [List.all_eq_false]; exact ⟨i, List.mem_range.2 hi, by simp [h]⟩
theorem allI_iff {p : Nat → Bool} {n : Nat} : allI p n = true ↔ ∀ i, i < n → p i = true := by
 unfold allI; rw [List.all_eq_true]; exact ⟨fun h i hi => h i (List.mem_range.2 hi), fun h i hi => h i (List.mem_range.1 hi)⟩
end Go.Proofs.YtmlckdffkbbbhaaGreat

namespace Go.Proofs.YtmlckdffkbbbhaaGreat

def kidsF (e : Nat → Option Nat) : List Int → Nat → Option Nat
 | [], nx => some nx
 | k :: ks, nx => if k = nx then (match e nx with | some m => kidsF e ks m | none => none) else none
def endF (K : Nat → List Int) (n : Nat) : Nat → Nat → Option Nat
 | 0, _ => none
 | f + 1, i => if i < n then kidsF (endF K n f) (K i) (i + 1) else none
def walkF (K : Nat → List Int) (n f : Nat) (i : Int) (nx : Nat) : Option Nat := if i = nx then endF K n f nx else none

theorem kids_le {e : Nat → Option Nat} {n : Nat} (he : ∀ a m, e a = some m → a < m ∧ m ≤ n) : ∀ {ks : List Int} {a m : Nat}, kidsF e ks a = some m → a ≤ n → a ≤ m ∧ m ≤ n
 | [], a, m, h, ha => by cases h; exact ⟨Nat.le_refl _, ha⟩
 | k :: ks, a, m, h, ha => by
  unfold kidsF at h
  split at h
  ·split at h
   ·rename_i m' hm'
    have h1 := he _ _ hm'
    have h2 := kids_le he h h1.2
    omega
   ·cases h
  ·cases h
theorem end_le (K : Nat → List Int) (n : Nat) : ∀ (f a m : Nat), endF K n f a = some m → a < m ∧ m ≤ n
 | 0, a, m, h => by cases h
 | f + 1, a, m, h => by
  unfold endF at h
  split at h
  ·have := kids_le (end_le K n f) h (by omega)
   omega
  ·cases h
theorem kids_mono {e e' : Nat → Option Nat} (he : ∀ a m, e a = some m → e' a = some m) : ∀ {ks : List Int} {a m : Nat}, kidsF e ks a = some m → kidsF e' ks a = some m
 | [], a, m, h => h
 | k :: ks, a, m, h => by
  unfold kidsF at h ⊢
  split at h
  ·rename_i hk
   rw [if_pos hk]
   split at h
   ·rename_i m' hm'
    rw [he _ _ hm']
    exact kids_mono he h
   ·cases h
  ·cases h
theorem end_mono (K : Nat → List Int) (n : Nat) : ∀ (f a m : Nat), endF K n f a = some m → endF K n (f + 1) a = some m
 | 0, a, m, h => by cases h
 | f + 1, a, m, h => by
  unfold endF at h ⊢
  split at h
  ·rename_i hl; rw [if_pos hl]; exact kids_mono (end_mono K n f) h
  ·cases h
theorem end_more (K : Nat → List Int) (n : Nat) {f a m : Nat} (h : endF K n f a = some m) : ∀ g, f ≤ g → endF K n g a = some m := by
 intro g hg
 induction g with
 | zero =>
  obtain rfl : f = 0 := by omega
  exact h
 | succ g ih =>
  rcases Nat.lt_or_ge g f with h1 | h1
  ·obtain rfl : f = g + 1 := by omega
   exact h
  ·exact end_mono K n g a m (ih h1)
theorem kids_enough {e e' : Nat → Option Nat} {n b : Nat} (hle : ∀ a m, e a = some m → a < m ∧ m ≤ n) (he : ∀ a, b ≤ a → e a = e' a) : ∀ {ks : List Int} {a : Nat}, b ≤ a → kidsF e ks a = kidsF e' ks a
 | [], a, _ => rfl
 | k :: ks, a, ha => by
  unfold kidsF
  rw [he a ha]
  split
  ·cases hm : e' a with
   | none => rfl
   | some m =>
    have := hle a m (by rw [he a ha]; exact hm)
    exact kids_enough hle he (by omega)
  ·rfl
theorem end_enough (K : Nat → List Int) (n : Nat) : ∀ (f a : Nat), n - a < f → endF K n f a = endF K n (f + 1) a
 | 0, a, h => by omega
 | f + 1, a, h => by
  rw [endF, endF]
  split
  ·refine kids_enough (b := a + 1) (end_le K n f) (fun c hc => ?_) (Nat.le_refl _)
   exact end_enough K n f c (by omega)
  ·rfl
theorem end_any (K : Nat → List Int) (n : Nat) {f a : Nat} (h : n - a < f) : ∀ g, f ≤ g → endF K n g a = endF K n f a := by
 intro g hg
 induction g with
 | zero => omega
 | succ g ih =>
  rcases Nat.lt_or_ge g f with h1 | h1
  ·obtain rfl : f = g + 1 := by omega
   rfl
  ·rw [← end_enough K n g a (by omega)]; exact ih h1
theorem kids_in {K : Nat → List Int} {n : Nat} {e : Nat → Option Nat} (hle : ∀ a m, e a = some m → a < m ∧ m ≤ n) (he : ∀ a m, e a = some m → ∀ i, a ≤ i → i < m → ∀ k ∈ K i, (i : Int) < k ∧ k < n) :
  ∀ {ks : List Int} {a m : Nat}, a ≤ n → kidsF e ks a = some m → (∀ k ∈ ks, (a : Int) ≤ k ∧ k < m) ∧ ∀ i, a ≤ i → i < m → ∀ k ∈ K i, (i : Int) < k ∧ k < n
 | [], a, m, _, h => by cases h; exact ⟨fun k hk => (by cases hk), fun i h1 h2 => by omega⟩
 | k :: ks, a, m, ha, h => by
  unfold kidsF at h
  split at h
  ·rename_i hk
   split at h
   ·rename_i m' hm'
    have h1 := hle _ _ hm'
    have h2 := kids_in hle he h1.2 h
    have h3 := kids_le hle h h1.2
    refine ⟨fun x hx => ?_, fun i h4 h5 => ?_⟩
    ·rcases List.mem_cons.1 hx with rfl | hx
     ·omega
     ·have := h2.1 x hx; omega
    ·rcases Nat.lt_or_ge i m' with h6 | h6
     ·exact he _ _ hm' i h4 h6
     ·exact h2.2 i h6 h5
   ·cases h
  ·cases h
theorem end_in (K : Nat → List Int) (n : Nat) : ∀ (f a m : Nat), endF K n f a = some m → ∀ i, a ≤ i → i < m → ∀ k ∈ K i, (i : Int) < k ∧ k < n
 | 0, a, m, h => by cases h
 | f + 1, a, m, h => by
  have hm := end_le K n (f + 1) a m h
  unfold endF at h
  split at h
  ·rename_i hl
   have h1 := kids_in (end_le K n f) (end_in K n f) (by omega) h
   intro i hi him k hk
   rcases Nat.lt_or_ge a i with h2 | h2
   ·exact h1.2 i (by omega) him k hk
   ·obtain rfl : i = a := by omega
    have := h1.1 k hk
    omega
  ·cases h
def treeB (K : Nat → List Int) (n : Nat) : Bool := decide (endF K n (n + 1) 0 = some n)
theorem tree_in {K : Nat → List Int} {n : Nat} (h : treeB K n = true) {i : Nat} (hi : i < n) {k : Int} (hk : k ∈ K i) : (i : Int) < k ∧ k < n :=
 end_in K n _ 0 n (of_decide_eq_true h) i (Nat.zero_le _) hi k hk
end Go.Proofs.YtmlckdffkbbbhaaGreat

namespace Go.Proofs.YtmlckdffkbbbhaaGreat
open Go.RowKit Go.Proofs.YtmlckdffkbbbhaaGreat.Av Go.Proofs.YtmlckdffkbbbhaaGreat.Ml
open Go.Proofs.YtmlckdffkbbbhaaGreat.Av.AVal (av)

def onlyKind {α : Type} [Inhabited α] (kd : α → Int) (l : List α) (kids : List Int) (d : Int) : Bool :=
 match kids with
 | [k] => decide (0 ≤ k) && decide (k < l.length) && decide (kd (l.getD k.toNat default) = d)
 | _ => false
def pnodeB (l : List PNode) (n : PNode) : Bool :=
 if n.kind = 1 ∨ n.kind = 6 then decide (n.kids.length = 0) && decide (n.n = 0) && decide (n.s = bs [])
 else if n.kind = 2 then decide (n.kids.length = 0) && decide (n.n = 0) && nameB n.s
 else if n.kind = 3 then decide (n.kids.length = 0) && decide (n.s = bs []) && (decide (-4611686018427387903 ≤ n.n) && decide (n.n ≤ 4611686018427387903))
 else if n.kind = 4 then decide (n.n = 0) && shapeB n.s n.kids.length (onlyKind PNode.kind l n.kids 5)
 else if n.kind = 5 then decide (n.kids.length = 2) && decide (n.n = 0) && decide (n.s = bs [])
 else false
def varsOf (l : List PNode) : List ByteArray := l.filterMap fun n => if n.kind = 2 then some n.s else none
def patIB (l : List PNode) (i : Nat) : Bool := pnodeB l (l.getD i default) && !(decide ((l.getD i default).kind = 2) && (varsOf (l.take i)).any fun x => decide ((l.getD i default).s = x))
def pkids (l : List PNode) (i : Nat) : List Int := (l.getD i default).kids
def patB (l : List PNode) : Bool := (decide (1 ≤ (l.length : Int)) && decide ((l.length : Int) ≤ 600)) && treeB (pkids l) l.length && allI (patIB l) l.length
theorem onlyKind_one {α : Type} [Inhabited α] {kd : α → Int} {l : List α} {kids : List Int} {d : Int} (h : kids.length = 1) (h0 : 0 ≤ kids.getD 0 0) (h1 : kids.getD 0 0 < l.length) : onlyKind kd l kids d = decide (kd (l.getD (kids.getD 0 0).toNat default) = d) := by
 obtain ⟨k, rfl⟩ := List.length_eq_one_iff.1 h
 simp only [List.getD_cons_zero] at h0 h1
 simp [onlyKind, h0, h1]
theorem onlyKind_not {α : Type} [Inhabited α] {kd : α → Int} {l : List α} {kids : List Int} {d : Int} (h : ¬ kids.length = 1) : onlyKind kd l kids d = false := by
 unfold onlyKind; split
 ·simp at h
 ·rfl
theorem onlyKind_out {α : Type} [Inhabited α] {kd : α → Int} {l : List α} {kids : List Int} {d : Int} (h : ¬ (0 ≤ kids.getD 0 0 ∧ kids.getD 0 0 < l.length)) : onlyKind kd l kids d = false := by
 unfold onlyKind; split
 ·rename_i k
  simp only [List.getD_cons_zero] at h
  by_cases h0 : 0 ≤ k
  ·have : ¬ k < l.length := fun h1 => h ⟨h0, h1⟩
   simp [this]
  ·simp [h0]
 ·rfl
theorem varsOf_snoc {l : List PNode} {k : Nat} (h : k < l.length) : varsOf (l.take (k + 1)) = varsOf (l.take k) ++ (if l[k].kind = 2 then [l[k].s] else []) := by
 rw [List.take_succ_eq_append_getElem h, varsOf, List.filterMap_append]
 congr 1
 split <;> simp_all
theorem pnode_small {l : List PNode} (hx : Bulk.bulk l ≤ 1048576) (k : Nat) (hk : k < l.length) : l[k].kids.length ≤ 1048576 ∧ l[k].s.size ≤ 1048576 := by
 have h1 := bulk_mem (List.getElem_mem hk)
 have h2 : Bulk.bulk l[k] = Bulk.bulk l[k].kind + Bulk.bulk l[k].n + Bulk.bulk l[k].s + Bulk.bulk l[k].kids + 1 := rfl
 have h3 := bulk_length l[k].kids
 have h4 : Bulk.bulk l[k].s = l[k].s.size + 1 := rfl
 omega
theorem varsOf_len (l : List PNode) : (varsOf l).length ≤ l.length := List.length_filterMap_le _ _
end Go.Proofs.YtmlckdffkbbbhaaGreat

namespace Go.Proofs.YtmlckdffkbbbhaaGreat
open Go.RowKit Go.Proofs.YtmlckdffkbbbhaaGreat.Av Go.Proofs.YtmlckdffkbbbhaaGreat.Ml
open Go.Proofs.YtmlckdffkbbbhaaGreat.Av.AVal (av)

def skipT : Nat → List Nat → Option (List Nat)
 | 0, l => some l
 | _ + 1, [] => none
 | c + 1, a :: l => skipT (a + c) l
termination_by _ l => l.length
theorem skipT_zero (l : List Nat) : skipT 0 l = some l := by rw [skipT]
theorem skipT_nil (c : Nat) : skipT (c + 1) [] = none := by rw [skipT]
theorem skipT_cons (c a : Nat) (l : List Nat) : skipT (c + 1) (a :: l) = skipT (a + c) l := by rw [skipT]
theorem skipT_add : ∀ (l : List Nat) (a c : Nat), skipT (a + c) l = (skipT a l).bind (skipT c) := by
 intro l
 induction l with
 | nil =>
  intro a c
  cases a with
  | zero => rw [Nat.zero_add, skipT_zero]; rfl
  | succ a => rw [show a + 1 + c = (a + c) + 1 by omega, skipT_nil, skipT_nil]; rfl
 | cons x l ih =>
  intro a c
  cases a with
  | zero => rw [Nat.zero_add, skipT_zero]; rfl
  | succ a => rw [show a + 1 + c = (a + c) + 1 by omega, skipT_cons, skipT_cons, ← Nat.add_assoc, ih]
theorem skipT_len : ∀ (l : List Nat) (c : Nat) (r : List Nat), skipT c l = some r → r.length ≤ l.length ∧ r = l.drop (l.length - r.length) ∧ (0 < c → r.length < l.length) := by
 intro l
 induction l with
 | nil =>
  intro c r h
  cases c with
  | zero => rw [skipT_zero] at h; cases h; simp
  | succ c => rw [skipT_nil] at h; cases h
 | cons x l ih =>
  intro c r h
  cases c with
  | zero => rw [skipT_zero] at h; cases h; simp
  | succ c =>
   rw [skipT_cons] at h
   obtain ⟨h1, h2, h3⟩ := ih _ _ h
   refine ⟨by simp; omega, ?_, fun _ => by simp; omega⟩
   rw [List.length_cons, show l.length + 1 - r.length = (l.length - r.length) + 1 by omega, List.drop_succ_cons]
   exact h2
def iterT (e : Nat → Option Nat) : Nat → Nat → Option Nat
 | 0, p => some p
 | c + 1, p => (e p).bind (iterT e c)
def endT (A : List Nat) : Nat → Nat → Option Nat
 | 0, _ => none
 | f + 1, p => if p < A.length then iterT (endT A f) (A.getD p 0) (p + 1) else none
theorem endT_skip (A : List Nat) : ∀ (f p : Nat), A.length - p < f → endT A f p = (skipT 1 (A.drop p)).map (fun r => A.length - r.length)
 | 0, p, h => by omega
 | f + 1, p, h => by
  -- c types behind p
  have hit : ∀ c q, p < q → q ≤ A.length → iterT (endT A f) c q = (skipT c (A.drop q)).map (fun r => A.length - r.length) := by
   intro c
   induction c with
   | zero => intro q _ hq; rw [skipT_zero]; simp [iterT]; omega
   | succ c ih =>
    intro q hpq hq
    rw [iterT, endT_skip A f q (by omega), Nat.add_comm c 1, skipT_add]
    cases hs : skipT 1 (A.drop q) with
    | none => rfl
    | some r =>
     obtain ⟨h1, h2, h3⟩ := skipT_len _ _ _ hs
     have h4 := h3 (by omega)
     rw [List.length_drop] at h1 h2 h4
     simp only [Option.map_some, Option.bind_some]
     rw [ih _ (by omega) (by omega)]
     congr 1
     rw [List.drop_drop] at h2
     rw [h2, List.length_drop]
     congr 1; congr 1; omega
  unfold endT
  by_cases hp : p < A.length
  ·rw [if_pos hp, hit _ _ (by omega) (by omega), List.drop_eq_getElem_cons hp, skipT_cons, Nat.add_zero]
   simp [List.getD_eq_getElem?_getD, hp]
  ·rw [if_neg hp, List.drop_of_length_le (by omega), skipT_nil]; rfl

def itemB (x : TyItem) : Bool :=
 if x.name = bs [] then (decide (0 ≤ x.var) && decide (x.var ≤ 9999)) && decide (x.arity = 0)
 else if x.var = 0 then
  if x.name = bs [45, 62] ∨ x.name = bs [42] then decide (x.arity = 2)
  else if x.name = bs [114, 101, 102] then decide (x.arity = 1)
  else nameB x.name && (decide (0 ≤ x.arity) && decide (x.arity ≤ 2))
 else false
theorem itemB_ar {x : TyItem} (h : itemB x = true) : 0 ≤ x.arity ∧ x.arity ≤ 2 := by
 unfold itemB at h
 split at h
 ·simp only [Bool.and_eq_true, decide_eq_true_eq] at h; omega
 ·split at h
  ·split at h
   ·simp only [decide_eq_true_eq] at h; omega
   ·split at h
    ·simp only [decide_eq_true_eq] at h; omega
    ·simp only [Bool.and_eq_true, decide_eq_true_eq] at h; omega
  ·cases h
def arL (l : List TyItem) : List Nat := l.map fun x => x.arity.toNat
def tyItemsB (l : List TyItem) : Bool := l.all itemB && decide (skipT 1 (arL l) = some [])
def tyB (l : List TyItem) : Bool := decide ((l.length : Int) ≤ 200) && tyItemsB l
end Go.Proofs.YtmlckdffkbbbhaaGreat

namespace Go.Proofs.YtmlckdffkbbbhaaGreat
open Go.RowKit Go.Proofs.YtmlckdffkbbbhaaGreat.Av Go.Proofs.YtmlckdffkbbbhaaGreat.Ml
open Go.Proofs.YtmlckdffkbbbhaaGreat.Av.AVal (av)

def arityK (k : Int) : Int :=
 if k = 1 ∨ k = 2 ∨ k = 3 ∨ k = 12 then 0
 else if k = 5 ∨ k = 14 ∨ k = 16 ∨ k = 17 then 1
 else if k = 6 ∨ k = 7 ∨ k = 8 ∨ k = 10 ∨ k = 11 ∨ k = 15 ∨ k = 18 ∨ k = 19 then 2
 else if k = 9 then 3
 else -1
def firstKind (l : List Node) (kids : List Int) (d : Int) : Bool :=
 match kids with
 | k :: _ => decide (0 ≤ k) && decide (k < l.length) && decide ((l.getD k.toNat default).kind = d)
 | [] => false
def nodeB (nm : Node → Bool) (l : List Node) (n : Node) : Bool :=
 if n.pos < 0 ∨ (0 ≤ arityK n.kind ∧ (n.kids.length : Int) ≠ arityK n.kind) ∨ (n.kind ≠ 13 ∧ n.pats ≠ []) ∨ (n.kind ≠ 1 ∧ n.kind ≠ 3 ∧ n.n ≠ 0) then false
 else if n.kind = 1 then (decide (0 ≤ n.n) && decide (n.n ≤ 4611686018427387903)) && decide (n.s = bs [])
 else if n.kind = 2 then true
 else if n.kind = 3 ∨ n.kind = 5 ∨ n.kind = 7 ∨ n.kind = 15 then nm n
 else if n.kind = 8 then nm n && firstKind l n.kids 5
 else if n.kind = 10 then opsL.any fun x => decide (n.s = x)
 else if n.kind = 4 then shapeB n.s n.kids.length (onlyKind Node.kind l n.kids 11)
 else if n.kind = 6 ∨ n.kind = 9 ∨ n.kind = 11 ∨ n.kind = 12 ∨ n.kind = 14 ∨ n.kind = 16 ∨ n.kind = 17 ∨ n.kind = 18 ∨ n.kind = 19 then decide (n.s = bs [])
 else if n.kind = 13 then decide (n.s = bs []) && decide (1 ≤ (n.pats.length : Int)) && decide ((n.kids.length : Int) = n.pats.length + 1)
 else false
def nameN (n : Node) : Bool := nameB n.s && decide (n.n = 0)
def nkids (l : List Node) (i : Nat) : List Int := (l.getD i default).kids
def conOkB (c : Con) (m : Int) : Bool :=
 conB c.name && (if c.has then tyB c.arg.items else decide (c.arg.items = [])) && c.arg.items.all fun x => !(decide (x.name = bs []) && decide (m ≤ x.var))
def typeB (t : TypeD) : Bool :=
 nameB t.name && (decide (0 ≤ t.params) && decide (t.params ≤ 2)) && (decide (1 ≤ (t.cons.length : Int)) && decide ((t.cons.length : Int) ≤ 8)) && t.cons.all fun c => conOkB c t.params
def shapeP (nm : Node → Bool) (p : Program) : Bool :=
 (decide (1 ≤ (p.nodes.length : Int)) && decide ((p.nodes.length : Int) ≤ 600)) && decide ((p.types.length : Int) ≤ 8) && treeB (nkids p.nodes) p.nodes.length && p.nodes.all (nodeB nm p.nodes) && p.types.all typeB
def progB (p : Program) : Bool := shapeP nameN p && p.nodes.all fun n => n.pats.all fun q => patB q.nodes
theorem node_small {l : List Node} (hx : Bulk.bulk l ≤ 1048576) {n : Node} (hn : n ∈ l) : n.kids.length ≤ 1048576 ∧ n.s.size ≤ 1048576 ∧ Bulk.bulk n.pats ≤ 1048576 ∧ n.pats.length ≤ 1048576 := by
 have h1 := bulk_mem hn
 have h2 : Bulk.bulk n = Bulk.bulk n.kind + Bulk.bulk n.pos + Bulk.bulk n.n + Bulk.bulk n.s + Bulk.bulk n.kids + Bulk.bulk n.pats + 1 := rfl
 have h3 := bulk_length n.kids
 have h4 : Bulk.bulk n.s = n.s.size + 1 := rfl
 have h5 := bulk_length n.pats
 omega
end Go.Proofs.YtmlckdffkbbbhaaGreat

set_option linter.unusedSimpArgs false
namespace Go.Proofs.YtmlckdffkbbbhaaGreat
namespace Srt

structure Strict {α : Type} (lt : α → α → Bool) : Prop where
 irr : ∀ a, lt a a = false
 trans : ∀ a b c, lt a b = true → lt b c = true → lt a c = true
 tot : ∀ a b, a ≠ b → lt a b = true ∨ lt b a = true

variable {α : Type} {lt : α → α → Bool}
def Up (lt : α → α → Bool) (l : List α) : Prop := l.Pairwise fun a b => lt a b = true
theorem up_unique (h : Strict lt) : ∀ {l m : List α}, Up lt l → Up lt m → (∀ x, x ∈ l ↔ x ∈ m) → l = m
 | [], [], _, _, _ => rfl
 | [], y :: m, _, _, e => absurd ((e y).2 (by simp)) (by simp)
 | x :: l, [], _, _, e => absurd ((e x).1 (by simp)) (by simp)
 | x :: l, y :: m, hl, hm, e => by
  have hl' := List.pairwise_cons.1 hl
  have hm' := List.pairwise_cons.1 hm
  have hxy : x = y := by
   rcases List.mem_cons.1 ((e x).1 (by simp)) with h1 | h1
   ·exact h1
   ·rcases List.mem_cons.1 ((e y).2 (by simp)) with h2 | h2
    ·exact h2.symm
    ·have a := hm'.1 x h1
     have b := hl'.1 y h2
     have := h.trans _ _ _ a b
     rw [h.irr] at this; cases this
  subst hxy
  congr 1
  refine up_unique h hl'.2 hm'.2 fun z => ⟨fun hz => ?_, fun hz => ?_⟩
  ·rcases List.mem_cons.1 ((e z).1 (List.mem_cons_of_mem _ hz)) with h1 | h1
   ·subst h1; have := hl'.1 z hz; rw [h.irr] at this; cases this
   ·exact h1
  ·rcases List.mem_cons.1 ((e z).2 (List.mem_cons_of_mem _ hz)) with h1 | h1
   ·subst h1; have := hm'.1 z hz; rw [h.irr] at this; cases this
   ·exact h1

def ins (lt : α → α → Bool) (s : α) : List α → List α
 | [] => []
 | x :: r => if lt s x = true then s :: x :: r else x :: ins lt s r
def put [DecidableEq α] (lt : α → α → Bool) (l : List α) (s : α) : List α := if l.any (fun x => decide (x = s)) = true then l else if l.any (lt s) = true then ins lt s l else l ++ [s]
theorem ins_mem (s y : α) : ∀ {a}, a.any (lt s) = true → (y ∈ ins lt s a ↔ y = s ∨ y ∈ a)
 | [], h => by simp at h
 | x :: r, h => by
  simp only [ins]
  by_cases hx : lt s x = true
  ·rw [if_pos hx]; simp
  ·rw [if_neg hx]
   simp only [List.any_cons, hx, Bool.false_or] at h
   simp only [List.mem_cons, ins_mem s y h]
   constructor
   ·rintro (h | h | h) <;> simp [h]
   ·rintro (h | h | h) <;> simp [h]
theorem put_mem [DecidableEq α] (s y : α) (l : List α) : y ∈ put lt l s ↔ y = s ∨ y ∈ l := by
 unfold put
 split
 ·rename_i h
  simp only [List.any_eq_true, decide_eq_true_eq] at h
  obtain ⟨x, hx, rfl⟩ := h
  constructor
  ·exact .inr
  ·rintro (rfl | h)
   ·exact hx
   ·exact h
 ·split
  ·rename_i h; exact ins_mem s y h
  ·simp [or_comm]
theorem ins_up (h : Strict lt) (s : α) : ∀ {a}, a.any (lt s) = true → s ∉ a → Up lt a → Up lt (ins lt s a)
 | [], h, _, _ => by simp at h
 | x :: r, ha, hs, hu => by
  have hu' := List.pairwise_cons.1 hu
  simp only [ins]
  by_cases hx : lt s x = true
  ·rw [if_pos hx]
   refine List.pairwise_cons.2 ⟨fun y hy => ?_, hu⟩
   rcases List.mem_cons.1 hy with rfl | hy
   ·exact hx
   ·exact h.trans _ _ _ hx (hu'.1 y hy)
  ·rw [if_neg hx]
   simp only [List.any_cons, hx, Bool.false_or] at ha
   refine List.pairwise_cons.2 ⟨fun y hy => ?_, ins_up h s ha (fun e => hs (List.mem_cons_of_mem _ e)) hu'.2⟩
   rcases (ins_mem s y ha).1 hy with rfl | hy
   ·rcases h.tot x y (fun e => hs (by rw [e]; simp)) with h1 | h1
    ·exact h1
    ·exact absurd h1 hx
   ·exact hu'.1 y hy
theorem put_up [DecidableEq α] (h : Strict lt) (s : α) {l : List α} (hu : Up lt l) : Up lt (put lt l s) := by
 unfold put
 split
 ·exact hu
 ·rename_i hn
  have hs : s ∉ l := fun e => hn (by simp only [List.any_eq_true, decide_eq_true_eq]; exact ⟨s, e, rfl⟩)
  split
  ·rename_i ha; exact ins_up h s ha hs hu
  ·rename_i ha
   refine List.pairwise_append.2 ⟨hu, List.pairwise_singleton _ _, fun x hx y hy => ?_⟩
   simp at hy; subst hy
   rcases h.tot x y (fun e => hs (by rw [← e]; exact hx)) with h1 | h1
   ·exact h1
   ·exact absurd (by simp only [List.any_eq_true]; exact ⟨x, hx, h1⟩) ha
theorem fold_up [DecidableEq α] (h : Strict lt) : ∀ (m l : List α), Up lt l → Up lt (m.foldl (put lt) l)
 | [], l, hu => hu
 | s :: m, l, hu => fold_up h m _ (put_up h s hu)
theorem fold_mem [DecidableEq α] (m : List α) : ∀ (l : List α) (y : α), y ∈ m.foldl (put lt) l ↔ y ∈ m ∨ y ∈ l := by
 induction m with
 | nil => intro l y; simp
 | cons s m ih =>
  intro l y
  rw [List.foldl_cons, ih, put_mem]
  simp only [List.mem_cons]
  constructor
  ·rintro (h | h | h) <;> simp [h]
  ·rintro ((h | h) | h) <;> simp [h]

theorem ins_snoc (s x : α) : ∀ a, ins lt s (a ++ [x]) = ins lt s a ++ (if a.any (lt s) = false ∧ lt s x = true then [s, x] else [x])
 | [] => by
  by_cases h : lt s x = true <;> simp [ins, h]
 | y :: r => by
  simp only [List.cons_append, ins, List.any_cons]
  split
  ·rename_i h; simp [h]
  ·rename_i h
   rw [ins_snoc s x r]
   simp [h]
theorem ins_none (s : α) : ∀ {a}, a.any (lt s) = false → ins lt s a = a
 | [], _ => rfl
 | y :: r, h => by
  simp only [List.any_cons, Bool.or_eq_false_iff] at h
  simp only [ins]
  rw [if_neg (by rw [h.1]; decide), ins_none s h.2]
theorem ins_len (s : α) : ∀ a, (ins lt s a).length = a.length + (if a.any (lt s) = true then 1 else 0)
 | [] => rfl
 | y :: r => by
  have ih := ins_len s r
  by_cases h : lt s y = true
  ·simp [ins, h]
  ·simp only [ins, if_neg h, List.length_cons, ih]
   simp only [Bool.not_eq_true] at h
   simp only [List.any_cons, h, Bool.false_or]
   omega
theorem put_len [DecidableEq α] (l : List α) (s : α) : (put lt l s).length ≤ l.length + 1 := by
 unfold put
 split
 ·omega
 ·split
  ·rename_i h; rw [ins_len, if_pos h]; omega
  ·simp
theorem fold_len [DecidableEq α] (m : List α) : ∀ (l : List α), (m.foldl (put lt) l).length ≤ l.length + m.length := by
 induction m with
 | nil => intro l; simp
 | cons s m ih =>
  intro l
  rw [List.foldl_cons]
  have h1 := ih (put lt l s)
  have h2 := put_len (lt := lt) l s
  simp only [List.length_cons]
  omega

theorem compact_up [Inhabited α] [DecidableEq α] (h : Strict lt) {l : List α} (hl : l.Pairwise fun a b => a = b ∨ lt a b = true) : Up lt (Lib.compact l) ∧ ∀ x, x ∈ Lib.compact l ↔ x ∈ l := by
 have hget : ∀ i, (h : i < l.length) → l.toArray[i]! = l[i] := fun i h => by simp [h]
 have hp : ∀ i j, (hij : i < j) → (hj : j < l.length) → l[i]'(by omega) = l[j] ∨ lt (l[i]'(by omega)) l[j] = true := fun i j hij hj => List.pairwise_iff_getElem.1 hl i j (by omega) hj hij
 have step : ∀ m, m ≤ l.length → Up lt (Lib.compactUpTo l.toArray m) ∧ (∀ x, x ∈ Lib.compactUpTo l.toArray m ↔ ∃ i, ∃ hi : i < l.length, i < m ∧ l[i] = x) := by
  intro m
  induction m with
  | zero => intro _; exact ⟨by simp [Lib.compactUpTo, Up], fun x => by simp [Lib.compactUpTo]⟩
  | succ m ih =>
   intro hm
   obtain ⟨i1, i2⟩ := ih (by omega)
   have hml : m < l.length := by omega
   rw [Lib.compactUpTo_succ, hget m hml]
   by_cases hk : Lib.keeps l.toArray m = true
   ·rw [if_pos hk]
    refine ⟨List.pairwise_append.2 ⟨i1, List.pairwise_singleton _ _, fun x hx y hy => ?_⟩, fun x => ?_⟩
    ·simp at hy; subst hy
     obtain ⟨i, hi, him, rfl⟩ := (i2 x).1 hx
     simp only [Lib.keeps, decide_eq_true_eq] at hk
     rcases hk with hk | hk
     ·omega
     ·rw [hget m hml, hget (m - 1) (by omega)] at hk
      have h1 : lt (l[m - 1]'(by omega)) l[m] = true := by
       rcases hp (m - 1) m (by omega) hml with e | e
       ·exact absurd e.symm hk
       ·exact e
      rcases Nat.lt_or_ge i (m - 1) with hlt | hge
      ·rcases hp i (m - 1) hlt (by omega) with e | e
       ·rw [e]; exact h1
       ·exact h.trans _ _ _ e h1
      ·obtain rfl : i = m - 1 := by omega
       exact h1
    ·rw [List.mem_append, i2 x]
     simp only [List.mem_singleton]
     constructor
     ·rintro (⟨i, hi, him, e⟩ | e)
      ·exact ⟨i, hi, by omega, e⟩
      ·exact ⟨m, hml, by omega, e.symm⟩
     ·rintro ⟨i, hi, him, e⟩
      rcases Nat.lt_or_ge i m with hlt | hge
      ·exact .inl ⟨i, hi, hlt, e⟩
      ·obtain rfl : i = m := by omega
       exact .inr e.symm
   ·rw [if_neg hk, List.append_nil]
    refine ⟨i1, fun x => ?_⟩
    rw [i2 x]
    simp only [Lib.keeps, decide_eq_true_eq, not_or, Decidable.not_not] at hk
    obtain ⟨hk0, hk⟩ := hk
    rw [hget m hml, hget (m - 1) (by omega)] at hk
    constructor
    ·rintro ⟨i, hi, him, e⟩; exact ⟨i, hi, by omega, e⟩
    ·rintro ⟨i, hi, him, e⟩
     rcases Nat.lt_or_ge i m with hlt | hge
     ·exact ⟨i, hi, hlt, e⟩
     ·have hi' : i = m := by omega
      subst hi'
      exact ⟨i - 1, by omega, by omega, by rw [← hk]; exact e⟩
 obtain ⟨s1, s2⟩ := step l.length (Nat.le_refl _)
 refine ⟨s1, fun x => ?_⟩
 unfold Lib.compact
 rw [s2 x, List.mem_iff_getElem]
 constructor
 ·rintro ⟨i, hi, _, e⟩; exact ⟨i, hi, e⟩
 ·rintro ⟨i, hi, e⟩; exact ⟨i, hi, hi, e⟩
theorem sort_put [Inhabited α] [DecidableEq α] (h : Strict lt) (le : α → α → Bool) (hle : ∀ a b, le a b = true ↔ a = b ∨ lt a b = true) (l : List α) : Lib.compact (l.mergeSort le) = l.foldl (put lt) [] := by
 have hs : (l.mergeSort le).Pairwise fun a b => le a b = true := by
  refine List.pairwise_mergeSort (fun a b c h1 h2 => ?_) (fun a b => ?_) l
  ·rw [hle] at h1 h2 ⊢
   rcases h1 with rfl | h1
   ·exact h2
   ·rcases h2 with rfl | h2
    ·exact .inr h1
    ·exact .inr (h.trans _ _ _ h1 h2)
  ·rw [Bool.or_eq_true, hle, hle]
   by_cases e : a = b
   ·exact .inl (.inl e)
   ·rcases h.tot a b e with h1 | h1
    ·exact .inl (.inr h1)
    ·exact .inr (.inr h1)
 obtain ⟨c1, c2⟩ := compact_up h (l := l.mergeSort le) (hs.imp fun {a b} hab => (hle a b).1 hab)
 refine up_unique h c1 (fold_up h l [] List.Pairwise.nil) fun x => ?_
 rw [c2 x, List.mem_mergeSort, fold_mem]
 simp
end Srt
end Go.Proofs.YtmlckdffkbbbhaaGreat
