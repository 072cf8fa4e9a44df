/-
 THE GROUND OF DATA, in one text. Conditions: none.
-/
import Derived.Test.YtjifpdcflankpaaGreatRPackA
import Derived.Test.YtjifpdcflankpaaGreatRAvSimp
import Derived.Test.YtjifpdcflankpaaGreatRPackV
import Derived.Test.YtjifpdcflankpaaGreatRPackG

set_option linter.unusedVariables false
namespace Go.Proofs.YtjifpdcflankpaaGreat
open Go.RowKit Go.Proofs.YtjifpdcflankpaaGreat.Av
open Go.Proofs.YtjifpdcflankpaaGreat.Av.AVal (av)
open AVal (av)

theorem getD_at {α : Type} {l : List α} {k : Nat} (h : k < l.length) (d : α) : l.getD k d = l[k] := by simp [List.getD_eq_getElem?_getD, h]
theorem av_getD {α : Type} [AVal α] (d : List α) (z : α) {j : Nat} (h : j < d.length) : (d.map av).getD j .top = av (d.getD j z) := by
 rw [getD_map av d j .top h, getD_at h]
theorem take_map {α β : Type} (f : α → β) (l : List α) : (l.map f).take l.length = l.map f := by rw [List.take_of_length_le]; simp
def allI (p : Nat → Bool) (n : Nat) : Bool := (List.range n).all p
theorem allI_false {p : Nat → Bool} {n i : Nat} (hi : i < n) (h : p i = false) : allI p n = false := by
 unfold allI; rw [List.all_eq_false]; exact ⟨i, List.mem_range.2 hi, by simp [h]⟩
theorem allI_iff {p : Nat → Bool} {n : Nat} : allI p n = true ↔ ∀ i, i < n → p i = true := by
 unfold allI; rw [List.all_eq_true]; exact ⟨fun h i hi => h i (List.mem_range.2 hi), fun h i hi => h i (List.mem_range.1 hi)⟩
end Go.Proofs.YtjifpdcflankpaaGreat

namespace Go.Proofs.YtjifpdcflankpaaGreat

def kidsF (e : Nat → Option Nat) : List Int → Nat → Option Nat
 | [], nx => some nx
 | k :: ks, nx => if k = nx then (match e nx with | some m => kidsF e ks m | none => none) else none
def endF (K : Nat → List Int) (n : Nat) : Nat → Nat → Option Nat
 | 0, _ => none
 | f + 1, i => if i < n then kidsF (endF K n f) (K i) (i + 1) else none
def walkF (K : Nat → List Int) (n f : Nat) (i : Int) (nx : Nat) : Option Nat := if i = nx then endF K n f nx else none

theorem kids_le {e : Nat → Option Nat} {n : Nat} (he : ∀ a m, e a = some m → a < m ∧ m ≤ n) : ∀ {ks : List Int} {a m : Nat}, kidsF e ks a = some m → a ≤ n → a ≤ m ∧ m ≤ n
 | [], a, m, h, ha => by cases h; exact ⟨Nat.le_refl _, ha⟩
 | k :: ks, a, m, h, ha => by
  unfold kidsF at h
  split at h
  ·split at h
   ·rename_i m' hm'
    have h1 := he _ _ hm'
    have h2 := kids_le he h h1.2
    omega
   ·cases h
  ·cases h
theorem end_le (K : Nat → List Int) (n : Nat) : ∀ (f a m : Nat), endF K n f a = some m → a < m ∧ m ≤ n
 | 0, a, m, h => by cases h
 | f + 1, a, m, h => by
  unfold endF at h
  split at h
  ·have := kids_le (end_le K n f) h (by omega)
   omega
  ·cases h
theorem kids_mono {e e' : Nat → Option Nat} (he : ∀ a m, e a = some m → e' a = some m) : ∀ {ks : List Int} {a m : Nat}, kidsF e ks a = some m → kidsF e' ks a = some m
 | [], a, m, h => h
 | k :: ks, a, m, h => by
  unfold kidsF at h ⊢
  split at h
  ·rename_i hk
   rw [if_pos hk]
   split at h
   ·rename_i m' hm'
    rw [he _ _ hm']
    exact kids_mono he h
   ·cases h
  ·cases h
theorem end_mono (K : Nat → List Int) (n : Nat) : ∀ (f a m : Nat), endF K n f a = some m → endF K n (f + 1) a = some m
 | 0, a, m, h => by cases h
 | f + 1, a, m, h => by
  unfold endF at h ⊢
  split at h
  ·rename_i hl; rw [if_pos hl]; exact kids_mono (end_mono K n f) h
  ·cases h
theorem end_more (K : Nat → List Int) (n : Nat) {f a m : Nat} (h : endF K n f a = some m) : ∀ g, f ≤ g → endF K n g a = some m := by
 intro g hg
 induction g with
 | zero =>
  obtain rfl : f = 0 := by omega
  exact h
 | succ g ih =>
  rcases Nat.lt_or_ge g f with h1 | h1
  ·obtain rfl : f = g + 1 := by omega
   exact h
  ·exact end_mono K n g a m (ih h1)
theorem kids_in {K : Nat → List Int} {n : Nat} {e : Nat → Option Nat} (hle : ∀ a m, e a = some m → a < m ∧ m ≤ n) (he : ∀ a m, e a = some m → ∀ i, a ≤ i → i < m → ∀ k ∈ K i, (i : Int) < k ∧ k < n) :
  ∀ {ks : List Int} {a m : Nat}, a ≤ n → kidsF e ks a = some m → (∀ k ∈ ks, (a : Int) ≤ k ∧ k < m) ∧ ∀ i, a ≤ i → i < m → ∀ k ∈ K i, (i : Int) < k ∧ k < n
 | [], a, m, _, h => by cases h; exact ⟨fun k hk => (by cases hk), fun i h1 h2 => by omega⟩
 | k :: ks, a, m, ha, h => by
  unfold kidsF at h
  split at h
  ·rename_i hk
   split at h
   ·rename_i m' hm'
    have h1 := hle _ _ hm'
    have h2 := kids_in hle he h1.2 h
    have h3 := kids_le hle h h1.2
    refine ⟨fun x hx => ?_, fun i h4 h5 => ?_⟩
    ·rcases List.mem_cons.1 hx with rfl | hx
     ·omega
     ·have := h2.1 x hx; omega
    ·rcases Nat.lt_or_ge i m' with h6 | h6
     ·exact he _ _ hm' i h4 h6
     ·exact h2.2 i h6 h5
   ·cases h
  ·cases h
theorem end_in (K : Nat → List Int) (n : Nat) : ∀ (f a m : Nat), endF K n f a = some m → ∀ i, a ≤ i → i < m → ∀ k ∈ K i, (i : Int) < k ∧ k < n
 | 0, a, m, h => by cases h
 | f + 1, a, m, h => by
  have hm := end_le K n (f + 1) a m h
  unfold endF at h
  split at h
  ·rename_i hl
   have h1 := kids_in (end_le K n f) (end_in K n f) (by omega) h
   intro i hi him k hk
   rcases Nat.lt_or_ge a i with h2 | h2
   ·exact h1.2 i (by omega) him k hk
   ·obtain rfl : i = a := by omega
    have := h1.1 k hk
    omega
  ·cases h
def treeB (K : Nat → List Int) (n : Nat) : Bool := decide (endF K n (n + 1) 0 = some n)
theorem tree_in {K : Nat → List Int} {n : Nat} (h : treeB K n = true) {i : Nat} (hi : i < n) {k : Int} (hk : k ∈ K i) : (i : Int) < k ∧ k < n :=
 end_in K n _ 0 n (of_decide_eq_true h) i (Nat.zero_le _) hi k hk
end Go.Proofs.YtjifpdcflankpaaGreat

namespace Go.Proofs.YtjifpdcflankpaaGreat
open Go.RowKit Go.Proofs.YtjifpdcflankpaaGreat.Av Go.Proofs.YtjifpdcflankpaaGreat.Ml
open Go.Proofs.YtjifpdcflankpaaGreat.Av.AVal (av)

def onlyKind {α : Type} [Inhabited α] (kd : α → Int) (l : List α) (kids : List Int) (d : Int) : Bool :=
 match kids with
 | [k] => decide (0 ≤ k) && decide (k < l.length) && decide (kd (l.getD k.toNat default) = d)
 | _ => false
def pnodeB (l : List PNode) (n : PNode) : Bool :=
 if n.kind = 1 ∨ n.kind = 6 then decide (n.kids.length = 0) && decide (n.n = 0) && decide (n.s = bs [])
 else if n.kind = 2 then decide (n.kids.length = 0) && decide (n.n = 0) && nameB n.s
 else if n.kind = 3 then decide (n.kids.length = 0) && decide (n.s = bs []) && (decide (-4611686018427387903 ≤ n.n) && decide (n.n ≤ 4611686018427387903))
 else if n.kind = 4 then decide (n.n = 0) && shapeB n.s n.kids.length (onlyKind PNode.kind l n.kids 5)
 else if n.kind = 5 then decide (n.kids.length = 2) && decide (n.n = 0) && decide (n.s = bs [])
 else false
def varsOf (l : List PNode) : List ByteArray := l.filterMap fun n => if n.kind = 2 then some n.s else none
def patIB (l : List PNode) (i : Nat) : Bool := pnodeB l (l.getD i default) && !(decide ((l.getD i default).kind = 2) && (varsOf (l.take i)).any fun x => decide ((l.getD i default).s = x))
def pkids (l : List PNode) (i : Nat) : List Int := (l.getD i default).kids
def patB (l : List PNode) : Bool := (decide (1 ≤ (l.length : Int)) && decide ((l.length : Int) ≤ 600)) && treeB (pkids l) l.length && allI (patIB l) l.length
theorem onlyKind_out {α : Type} [Inhabited α] {kd : α → Int} {l : List α} {kids : List Int} {d : Int} (h : ¬ (0 ≤ kids.getD 0 0 ∧ kids.getD 0 0 < l.length)) : onlyKind kd l kids d = false := by
 unfold onlyKind; split
 ·rename_i k
  simp only [List.getD_cons_zero] at h
  by_cases h0 : 0 ≤ k
  ·have : ¬ k < l.length := fun h1 => h ⟨h0, h1⟩
   simp [this]
  ·simp [h0]
 ·rfl
theorem varsOf_snoc {l : List PNode} {k : Nat} (h : k < l.length) : varsOf (l.take (k + 1)) = varsOf (l.take k) ++ (if l[k].kind = 2 then [l[k].s] else []) := by
 rw [List.take_succ_eq_append_getElem h, varsOf, List.filterMap_append]
 congr 1
 split <;> simp_all
theorem pnode_small {l : List PNode} (hx : Bulk.bulk l ≤ 4294967296) (k : Nat) (hk : k < l.length) : l[k].kids.length ≤ 4294967296 ∧ l[k].s.size ≤ 4294967296 := by
 have h1 := bulk_mem (List.getElem_mem hk)
 have h2 : Bulk.bulk l[k] = Bulk.bulk l[k].kind + Bulk.bulk l[k].n + Bulk.bulk l[k].s + Bulk.bulk l[k].kids + 1 := rfl
 have h3 := bulk_length l[k].kids
 have h4 : Bulk.bulk l[k].s = l[k].s.size + 1 := rfl
 omega
theorem varsOf_len (l : List PNode) : (varsOf l).length ≤ l.length := List.length_filterMap_le _ _
end Go.Proofs.YtjifpdcflankpaaGreat

namespace Go.Proofs.YtjifpdcflankpaaGreat
open Go.RowKit Go.Proofs.YtjifpdcflankpaaGreat.Av Go.Proofs.YtjifpdcflankpaaGreat.Ml
open Go.Proofs.YtjifpdcflankpaaGreat.Av.AVal (av)

def skipT : Nat → List Nat → Option (List Nat)
 | 0, l => some l
 | _ + 1, [] => none
 | c + 1, a :: l => skipT (a + c) l
termination_by _ l => l.length
theorem skipT_zero (l : List Nat) : skipT 0 l = some l := by rw [skipT]
theorem skipT_nil (c : Nat) : skipT (c + 1) [] = none := by rw [skipT]
theorem skipT_cons (c a : Nat) (l : List Nat) : skipT (c + 1) (a :: l) = skipT (a + c) l := by rw [skipT]
theorem skipT_add : ∀ (l : List Nat) (a c : Nat), skipT (a + c) l = (skipT a l).bind (skipT c) := by
 intro l
 induction l with
 | nil =>
  intro a c
  cases a with
  | zero => rw [Nat.zero_add, skipT_zero]; rfl
  | succ a => rw [show a + 1 + c = (a + c) + 1 by omega, skipT_nil, skipT_nil]; rfl
 | cons x l ih =>
  intro a c
  cases a with
  | zero => rw [Nat.zero_add, skipT_zero]; rfl
  | succ a => rw [show a + 1 + c = (a + c) + 1 by omega, skipT_cons, skipT_cons, ← Nat.add_assoc, ih]
theorem skipT_len : ∀ (l : List Nat) (c : Nat) (r : List Nat), skipT c l = some r → r.length ≤ l.length ∧ r = l.drop (l.length - r.length) ∧ (0 < c → r.length < l.length) := by
 intro l
 induction l with
 | nil =>
  intro c r h
  cases c with
  | zero => rw [skipT_zero] at h; cases h; simp
  | succ c => rw [skipT_nil] at h; cases h
 | cons x l ih =>
  intro c r h
  cases c with
  | zero => rw [skipT_zero] at h; cases h; simp
  | succ c =>
   rw [skipT_cons] at h
   obtain ⟨h1, h2, h3⟩ := ih _ _ h
   refine ⟨by simp; omega, ?_, fun _ => by simp; omega⟩
   rw [List.length_cons, show l.length + 1 - r.length = (l.length - r.length) + 1 by omega, List.drop_succ_cons]
   exact h2
def iterT (e : Nat → Option Nat) : Nat → Nat → Option Nat
 | 0, p => some p
 | c + 1, p => (e p).bind (iterT e c)
def endT (A : List Nat) : Nat → Nat → Option Nat
 | 0, _ => none
 | f + 1, p => if p < A.length then iterT (endT A f) (A.getD p 0) (p + 1) else none
theorem endT_skip (A : List Nat) : ∀ (f p : Nat), A.length - p < f → endT A f p = (skipT 1 (A.drop p)).map (fun r => A.length - r.length)
 | 0, p, h => by omega
 | f + 1, p, h => by
  -- c types behind p
  have hit : ∀ c q, p < q → q ≤ A.length → iterT (endT A f) c q = (skipT c (A.drop q)).map (fun r => A.length - r.length) := by
   intro c
   induction c with
   | zero => intro q _ hq; rw [skipT_zero]; simp [iterT]; omega
   | succ c ih =>
    intro q hpq hq
    rw [iterT, endT_skip A f q (by omega), Nat.add_comm c 1, skipT_add]
    cases hs : skipT 1 (A.drop q) with
    | none => rfl
    | some r =>
     obtain ⟨h1, h2, h3⟩ := skipT_len _ _ _ hs
     have h4 := h3 (by omega)
     rw [List.length_drop] at h1 h2 h4
     simp only [Option.map_some, Option.bind_some]
     rw [ih _ (by omega) (by omega)]
     congr 1
     rw [List.drop_drop] at h2
     rw [h2, List.length_drop]
     congr 1; congr 1; omega
  unfold endT
  by_cases hp : p < A.length
  ·rw [if_pos hp, hit _ _ (by omega) (by omega), List.drop_eq_getElem_cons hp, skipT_cons, Nat.add_zero]
   simp [List.getD_eq_getElem?_getD, hp]
  ·rw [if_neg hp, List.drop_of_length_le (by omega), skipT_nil]; rfl

def itemB (x : TyItem) : Bool :=
 if x.name = bs [] then (decide (0 ≤ x.var) && decide (x.var ≤ 9999)) && decide (x.arity = 0)
 else if x.var = 0 then
  if x.name = bs [45, 62] ∨ x.name = bs [42] then decide (x.arity = 2)
  else if x.name = bs [114, 101, 102] then decide (x.arity = 1)
  else nameB x.name && (decide (0 ≤ x.arity) && decide (x.arity ≤ 2))
 else false
theorem itemB_ar {x : TyItem} (h : itemB x = true) : 0 ≤ x.arity ∧ x.arity ≤ 2 := by
 unfold itemB at h
 split at h
 ·simp only [Bool.and_eq_true, decide_eq_true_eq] at h; omega
 ·split at h
  ·split at h
   ·simp only [decide_eq_true_eq] at h; omega
   ·split at h
    ·simp only [decide_eq_true_eq] at h; omega
    ·simp only [Bool.and_eq_true, decide_eq_true_eq] at h; omega
  ·cases h
def arL (l : List TyItem) : List Nat := l.map fun x => x.arity.toNat
def tyItemsB (l : List TyItem) : Bool := l.all itemB && decide (skipT 1 (arL l) = some [])
def tyB (l : List TyItem) : Bool := decide ((l.length : Int) ≤ 200) && tyItemsB l
end Go.Proofs.YtjifpdcflankpaaGreat

namespace Go.Proofs.YtjifpdcflankpaaGreat
open Go.RowKit Go.Proofs.YtjifpdcflankpaaGreat.Av Go.Proofs.YtjifpdcflankpaaGreat.Ml
open Go.Proofs.YtjifpdcflankpaaGreat.Av.AVal (av)

def arityK (k : Int) : Int :=
 if k = 1 ∨ k = 2 ∨ k = 3 ∨ k = 12 then 0
 else if k = 5 ∨ k = 14 ∨ k = 16 ∨ k = 17 then 1
 else if k = 6 ∨ k = 7 ∨ k = 8 ∨ k = 10 ∨ k = 11 ∨ k = 15 ∨ k = 18 ∨ k = 19 then 2
 else if k = 9 then 3
 else -1
def firstKind (l : List Node) (kids : List Int) (d : Int) : Bool :=
 match kids with
 | k :: _ => decide (0 ≤ k) && decide (k < l.length) && decide ((l.getD k.toNat default).kind = d)
 | [] => false
def nodeB (nm : Node → Bool) (l : List Node) (n : Node) : Bool :=
 if n.pos < 0 ∨ (0 ≤ arityK n.kind ∧ (n.kids.length : Int) ≠ arityK n.kind) ∨ (n.kind ≠ 13 ∧ n.pats ≠ []) ∨ (n.kind ≠ 1 ∧ n.kind ≠ 3 ∧ n.n ≠ 0) then false
 else if n.kind = 1 then (decide (0 ≤ n.n) && decide (n.n ≤ 4611686018427387903)) && decide (n.s = bs [])
 else if n.kind = 2 then true
 else if n.kind = 3 ∨ n.kind = 5 ∨ n.kind = 7 ∨ n.kind = 15 then nm n
 else if n.kind = 8 then nm n && firstKind l n.kids 5
 else if n.kind = 10 then opsL.any fun x => decide (n.s = x)
 else if n.kind = 4 then shapeB n.s n.kids.length (onlyKind Node.kind l n.kids 11)
 else if n.kind = 6 ∨ n.kind = 9 ∨ n.kind = 11 ∨ n.kind = 12 ∨ n.kind = 14 ∨ n.kind = 16 ∨ n.kind = 17 ∨ n.kind = 18 ∨ n.kind = 19 then decide (n.s = bs [])
 else if n.kind = 13 then decide (n.s = bs []) && decide (1 ≤ (n.pats.length : Int)) && decide ((n.kids.length : Int) = n.pats.length + 1)
 else false
def nameN (n : Node) : Bool := nameB n.s && decide (n.n = 0)
def nkids (l : List Node) (i : Nat) : List Int := (l.getD i default).kids
def conOkB (c : Con) (m : Int) : Bool :=
 conB c.name && (if c.has then tyB c.arg.items else decide (c.arg.items = [])) && c.arg.items.all fun x => !(decide (x.name = bs []) && decide (m ≤ x.var))
def typeB (t : TypeD) : Bool :=
 nameB t.name && (decide (0 ≤ t.params) && decide (t.params ≤ 2)) && (decide (1 ≤ (t.cons.length : Int)) && decide ((t.cons.length : Int) ≤ 8)) && t.cons.all fun c => conOkB c t.params
def shapeP (nm : Node → Bool) (p : Program) : Bool :=
 (decide (1 ≤ (p.nodes.length : Int)) && decide ((p.nodes.length : Int) ≤ 600)) && decide ((p.types.length : Int) ≤ 8) && treeB (nkids p.nodes) p.nodes.length && p.nodes.all (nodeB nm p.nodes) && p.types.all typeB
def progB (p : Program) : Bool := shapeP nameN p && p.nodes.all fun n => n.pats.all fun q => patB q.nodes
theorem node_small {l : List Node} (hx : Bulk.bulk l ≤ 4294967296) {n : Node} (hn : n ∈ l) : n.kids.length ≤ 4294967296 ∧ n.s.size ≤ 4294967296 ∧ Bulk.bulk n.pats ≤ 4294967296 ∧ n.pats.length ≤ 4294967296 := by
 have h1 := bulk_mem hn
 have h2 : Bulk.bulk n = Bulk.bulk n.kind + Bulk.bulk n.pos + Bulk.bulk n.n + Bulk.bulk n.s + Bulk.bulk n.kids + Bulk.bulk n.pats + 1 := rfl
 have h3 := bulk_length n.kids
 have h4 : Bulk.bulk n.s = n.s.size + 1 := rfl
 have h5 := bulk_length n.pats
 omega
end Go.Proofs.YtjifpdcflankpaaGreat
