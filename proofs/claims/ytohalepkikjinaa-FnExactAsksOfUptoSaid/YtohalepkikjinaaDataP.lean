/-
  RIGHT VALUES: what the program's and the reference's DataOk tell, by abstract texts. Conditions: none.
-/
import Derived.Test.YtohalepkikjinaaPatSpec
import Derived.Test.YtohalepkikjinaaSDNode
import Derived.Test.YtohalepkikjinaaIrData
set_option linter.unusedVariables false
set_option linter.unusedSimpArgs false
set_option maxRecDepth 100000
namespace Go.Proofs.Ytohalepkikjinaa
open Go.RowKit Go.Proofs.Ytohalepkikjinaa.Av Go.Proofs.Ytohalepkikjinaa.Ml
open Go.Proofs.Ytohalepkikjinaa.Av.AVal (av)

/-- whether a node of a value is right by itself -/
def dnodeB (l : List DNode) (n : DNode) : Bool :=
  if n.kind = 6 then decide (n.kids.length = 0) && decide (n.n = 0) && decide (n.s = bs [])
  else if n.kind = 2 then decide (n.kids.length = 0) && decide (n.n = 0)
  else if n.kind = 3 then decide (n.kids.length = 0) && decide (n.s = bs []) && (decide (-4611686018427387904 ≤ n.n) && decide (n.n ≤ 4611686018427387903))
  else if n.kind = 4 then decide (n.n = 0) && shapeB n.s n.kids.length (onlyKind DNode.kind l n.kids 5)
  else if n.kind = 5 then decide (n.kids.length = 2) && decide (n.n = 0) && decide (n.s = bs [])
  else false
def dkids (l : List DNode) (i : Nat) : List Int := (l.getD i default).kids
/-- whether nodes are a right value -/
def dataB (l : List DNode) : Bool := (decide (1 ≤ (l.length : Int)) && decide ((l.length : Int) ≤ 600)) && treeB (dkids l) l.length && l.all (dnodeB l)
theorem dnode_small {l : List DNode} (hx : Bulk.bulk l ≤ 1048576) (k : Nat) (hk : k < l.length) : l[k].kids.length ≤ 1048576 ∧ l[k].s.size ≤ 1048576 := by
  have h1 := bulk_mem (List.getElem_mem hk)
  have h2 : Bulk.bulk l[k] = Bulk.bulk l[k].kind + Bulk.bulk l[k].n + Bulk.bulk l[k].s + Bulk.bulk l[k].kids + 1 := rfl
  have h3 := bulk_length l[k].kids
  have h4 : Bulk.bulk l[k].s = l[k].s.size + 1 := rfl
  omega
theorem dataB_small {l : List DNode} (h : ¬ (1 ≤ (l.length : Int) ∧ (l.length : Int) ≤ 600)) : dataB l = false := by
  cases hb : dataB l with
  | false => rfl
  | true => simp only [dataB, Bool.and_eq_true, decide_eq_true_eq] at hb; exact absurd hb.1.1 h
theorem dataB_tree {l : List DNode} (h : treeB (dkids l) l.length = false) : dataB l = false := by simp [dataB, h]
theorem dataB_no {l : List DNode} {k : Nat} (h : k < l.length) (hb : dnodeB l l[k] = false) : dataB l = false := by
  unfold dataB; rw [all_false' _ h hb, Bool.and_false]
theorem dataB_of {l : List DNode} (h1 : 1 ≤ l.length) (h2 : l.length ≤ 600) (h3 : treeB (dkids l) l.length = true) : dataB l = l.all (dnodeB l) := by
  rw [dataB, h3, decide_eq_true (by omega), decide_eq_true (by omega)]; simp

end Go.Proofs.Ytohalepkikjinaa
