/-
  RIGHT PROGRAMS, told plainly. Conditions: none.
-/
import Derived.Test.YtpomnlejlgojaaaGreatTyP
import Derived.Test.YtpomnlejlgojaaaGreatGProg
set_option linter.unusedVariables false
namespace Go.Proofs.YtpomnlejlgojaaaGreat
open Go.RowKit Go.Proofs.YtpomnlejlgojaaaGreat.Av Go.Proofs.YtpomnlejlgojaaaGreat.Ml
open Go.Proofs.YtpomnlejlgojaaaGreat.Av.AVal (av)

/-- the operators -/
def opsL : List ByteArray := [bs [43], bs [45], bs [42], bs [47], bs [37], bs [94], bs [61], bs [60, 62], bs [60], bs [60, 61]]
/-- how many children a kind has; -1: the node tells -/
def arityK (k : Int) : Int :=
  if k = 1 ∨ k = 2 ∨ k = 3 ∨ k = 12 then 0
  else if k = 5 ∨ k = 14 ∨ k = 16 ∨ k = 17 then 1
  else if k = 6 ∨ k = 7 ∨ k = 8 ∨ k = 10 ∨ k = 11 ∨ k = 15 ∨ k = 18 ∨ k = 19 then 2
  else if k = 9 then 3
  else -1
/-- the first child is a node of kind d -/
def firstKind (l : List Node) (kids : List Int) (d : Int) : Bool :=
  match kids with
  | k :: _ => decide (0 ≤ k) && decide (k < l.length) && decide ((l.getD k.toNat default).kind = d)
  | [] => false
/-- whether a node of a program is right, but for patterns; nm: whether its name is -/
def nodeB (nm : Node → Bool) (l : List Node) (n : Node) : Bool :=
  if n.pos < 0 ∨ (0 ≤ arityK n.kind ∧ (n.kids.length : Int) ≠ arityK n.kind) ∨ (n.kind ≠ 13 ∧ n.pats ≠ []) ∨ (n.kind ≠ 1 ∧ n.kind ≠ 3 ∧ n.n ≠ 0) then false
  else if n.kind = 1 then (decide (0 ≤ n.n) && decide (n.n ≤ 4611686018427387903)) && decide (n.s = bs [])
  else if n.kind = 2 then true
  else if n.kind = 3 ∨ n.kind = 5 ∨ n.kind = 7 ∨ n.kind = 15 then nm n
  else if n.kind = 8 then nm n && firstKind l n.kids 5
  else if n.kind = 10 then opsL.any fun x => decide (n.s = x)
  else if n.kind = 4 then shapeB n.s n.kids.length (onlyKind Node.kind l n.kids 11)
  else if n.kind = 6 ∨ n.kind = 9 ∨ n.kind = 11 ∨ n.kind = 12 ∨ n.kind = 14 ∨ n.kind = 16 ∨ n.kind = 17 ∨ n.kind = 18 ∨ n.kind = 19 then decide (n.s = bs [])
  else if n.kind = 13 then decide (n.s = bs []) && decide (1 ≤ (n.pats.length : Int)) && decide ((n.kids.length : Int) = n.pats.length + 1)
  else false
/-- a name of a right program -/
def nameN (n : Node) : Bool := nameB n.s && decide (n.n = 0)
def nkids (l : List Node) (i : Nat) : List Int := (l.getD i default).kids
/-- whether a constructor of a type over m variables is right -/
def conOkB (c : Con) (m : Int) : Bool :=
  conB c.name && (if c.has then tyB c.arg.items else decide (c.arg.items = [])) && c.arg.items.all fun x => !(decide (x.name = bs []) && decide (m ≤ x.var))
def typeB (t : TypeD) : Bool :=
  nameB t.name && (decide (0 ≤ t.params) && decide (t.params ≤ 2)) && (decide (1 ≤ (t.cons.length : Int)) && decide ((t.cons.length : Int) ≤ 8)) && t.cons.all fun c => conOkB c t.params
/-- whether a program is right but for patterns -/
def shapeP (nm : Node → Bool) (p : Program) : Bool :=
  (decide (1 ≤ (p.nodes.length : Int)) && decide ((p.nodes.length : Int) ≤ 600)) && decide ((p.types.length : Int) ≤ 8) && treeB (nkids p.nodes) p.nodes.length && p.nodes.all (nodeB nm p.nodes) && p.types.all typeB
/-- whether a program is right -/
def progB (p : Program) : Bool := shapeP nameN p && p.nodes.all fun n => n.pats.all fun q => patB q.nodes
theorem node_small {l : List Node} (hx : Bulk.bulk l ≤ 1048576) {n : Node} (hn : n ∈ l) : n.kids.length ≤ 1048576 ∧ n.s.size ≤ 1048576 ∧ Bulk.bulk n.pats ≤ 1048576 ∧ n.pats.length ≤ 1048576 := by
  have h1 := bulk_mem hn
  have h2 : Bulk.bulk n = Bulk.bulk n.kind + Bulk.bulk n.pos + Bulk.bulk n.n + Bulk.bulk n.s + Bulk.bulk n.kids + Bulk.bulk n.pats + 1 := rfl
  have h3 := bulk_length n.kids
  have h4 : Bulk.bulk n.s = n.s.size + 1 := rfl
  have h5 := bulk_length n.pats
  omega
end Go.Proofs.YtpomnlejlgojaaaGreat
