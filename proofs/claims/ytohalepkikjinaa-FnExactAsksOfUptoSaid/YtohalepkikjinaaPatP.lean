/-
  RIGHT PATTERNS AND VALUES, told plainly. Conditions: none.
-/
import Derived.Test.YtohalepkikjinaaWords
import Derived.Test.YtohalepkikjinaaPackT
import Derived.Test.YtohalepkikjinaaPackG
set_option linter.unusedVariables false
namespace Go.Proofs.Ytohalepkikjinaa
open Go.RowKit Go.Proofs.Ytohalepkikjinaa.Av Go.Proofs.Ytohalepkikjinaa.Ml
open Go.Proofs.Ytohalepkikjinaa.Av.AVal (av)

/-- the first child, if it is the only one, is a node of kind d -/
def onlyKind {α : Type} [Inhabited α] (kd : α → Int) (l : List α) (kids : List Int) (d : Int) : Bool :=
  match kids with
  | [k] => decide (0 ≤ k) && decide (k < l.length) && decide (kd (l.getD k.toNat default) = d)
  | _ => false
/-- whether a node of a pattern is right by itself -/
def pnodeB (l : List PNode) (n : PNode) : Bool :=
  if n.kind = 1 ∨ n.kind = 6 then decide (n.kids.length = 0) && decide (n.n = 0) && decide (n.s = bs [])
  else if n.kind = 2 then decide (n.kids.length = 0) && decide (n.n = 0) && nameB n.s
  else if n.kind = 3 then decide (n.kids.length = 0) && decide (n.s = bs []) && (decide (-4611686018427387903 ≤ n.n) && decide (n.n ≤ 4611686018427387903))
  else if n.kind = 4 then decide (n.n = 0) && shapeB n.s n.kids.length (onlyKind PNode.kind l n.kids 5)
  else if n.kind = 5 then decide (n.kids.length = 2) && decide (n.n = 0) && decide (n.s = bs [])
  else false
/-- the names of nodes -/
def varsOf (l : List PNode) : List ByteArray := l.filterMap fun n => if n.kind = 2 then some n.s else none
def patIB (l : List PNode) (i : Nat) : Bool := pnodeB l (l.getD i default) && !(decide ((l.getD i default).kind = 2) && (varsOf (l.take i)).any fun x => decide ((l.getD i default).s = x))
def pkids (l : List PNode) (i : Nat) : List Int := (l.getD i default).kids
/-- whether nodes are a right pattern -/
def patB (l : List PNode) : Bool := (decide (1 ≤ (l.length : Int)) && decide ((l.length : Int) ≤ 600)) && treeB (pkids l) l.length && allI (patIB l) l.length
theorem onlyKind_one {α : Type} [Inhabited α] {kd : α → Int} {l : List α} {kids : List Int} {d : Int} (h : kids.length = 1) (h0 : 0 ≤ kids.getD 0 0) (h1 : kids.getD 0 0 < l.length) : onlyKind kd l kids d = decide (kd (l.getD (kids.getD 0 0).toNat default) = d) := by
  obtain ⟨k, rfl⟩ := List.length_eq_one_iff.1 h
  simp only [List.getD_cons_zero] at h0 h1
  simp [onlyKind, h0, h1]
theorem onlyKind_not {α : Type} [Inhabited α] {kd : α → Int} {l : List α} {kids : List Int} {d : Int} (h : ¬ kids.length = 1) : onlyKind kd l kids d = false := by
  unfold onlyKind; split
  · simp at h
  · rfl
theorem onlyKind_out {α : Type} [Inhabited α] {kd : α → Int} {l : List α} {kids : List Int} {d : Int} (h : ¬ (0 ≤ kids.getD 0 0 ∧ kids.getD 0 0 < l.length)) : onlyKind kd l kids d = false := by
  unfold onlyKind; split
  · rename_i k
    simp only [List.getD_cons_zero] at h
    by_cases h0 : 0 ≤ k
    · have : ¬ k < l.length := fun h1 => h ⟨h0, h1⟩
      simp [this]
    · simp [h0]
  · rfl
theorem varsOf_snoc {l : List PNode} {k : Nat} (h : k < l.length) : varsOf (l.take (k + 1)) = varsOf (l.take k) ++ (if l[k].kind = 2 then [l[k].s] else []) := by
  rw [List.take_succ_eq_append_getElem h, varsOf, List.filterMap_append]
  congr 1
  split <;> simp_all
/-- bounds of a pattern's nodes -/
theorem pnode_small {l : List PNode} (hx : Bulk.bulk l ≤ 1048576) (k : Nat) (hk : k < l.length) : l[k].kids.length ≤ 1048576 ∧ l[k].s.size ≤ 1048576 := by
  have h1 := bulk_mem (List.getElem_mem hk)
  have h2 : Bulk.bulk l[k] = Bulk.bulk l[k].kind + Bulk.bulk l[k].n + Bulk.bulk l[k].s + Bulk.bulk l[k].kids + 1 := rfl
  have h3 := bulk_length l[k].kids
  have h4 : Bulk.bulk l[k].s = l[k].s.size + 1 := rfl
  omega
theorem varsOf_len (l : List PNode) : (varsOf l).length ≤ l.length := List.length_filterMap_le _ _
end Go.Proofs.Ytohalepkikjinaa
