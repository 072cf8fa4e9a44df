/-
  THE DATA DNode, Data: as plain Lean structures, and when a Go value reads as one. Conditions: none. Printed by gen.py.
-/
import Derived.Test.YtohalepkikjinaaRows
import Derived.Test.YtohalepkikjinaaPackA
set_option linter.unusedVariables false
namespace Go.Proofs.Ytohalepkikjinaa
open Go.RowKit Go.Proofs.Ytohalepkikjinaa.Ml

structure DNode where
  kind : Int
  n : Int
  s : ByteArray
  kids : List Int
  deriving DecidableEq, Inhabited

def DNode.rep (S : Nat → Prop) (w : World) (cs : List Value) (x : DNode) : Prop := ∃ v3, cs = [Value.int .i64 x.kind, Value.int .i64 x.n, Value.string x.s, v3] ∧ (-9223372036854775808 ≤ x.kind ∧ x.kind ≤ 9223372036854775807) ∧ (-9223372036854775808 ≤ x.n ∧ x.n ≤ 9223372036854775807) ∧ x.s.size ≤ maxLen ∧ RepSl S w v3 x.kids
instance : Rep DNode where
  n := 4
  rep := DNode.rep
  len := by rintro _ _ _ _ ⟨v3, rfl, _⟩; rfl
  carry := by rintro _ _ _ _ _ _ ⟨v3, rfl, h0, h1, h2, h3⟩ hS hw; exact ⟨v3, rfl, h0, h1, h2, h3.carry hS hw⟩
theorem DNode.form {S : Nat → Prop} {w : World} {cs : List Value} {x : DNode} (h : Rep.rep S w cs x) : ∃ a3 c3, cs = [Value.int .i64 x.kind, Value.int .i64 x.n, Value.string x.s, Value.slice a3 x.kids.length c3] ∧ (-9223372036854775808 ≤ x.kind ∧ x.kind ≤ 9223372036854775807) ∧ (-9223372036854775808 ≤ x.n ∧ x.n ≤ 9223372036854775807) ∧ x.s.size ≤ maxLen ∧ RepSl S w (.slice a3 x.kids.length c3) x.kids := by
  obtain ⟨v3, rfl, h0, h1, h2, h3⟩ := h
  obtain ⟨a3, c3, rfl⟩ := h3.form
  exact ⟨a3, c3, rfl, h0, h1, h2, h3⟩
instance : Bulk DNode := ⟨fun x => Bulk.bulk x.kind + Bulk.bulk x.n + Bulk.bulk x.s + Bulk.bulk x.kids + 1, fun _ => by omega⟩

structure Data where
  nodes : List DNode
  deriving DecidableEq, Inhabited

def Data.rep (S : Nat → Prop) (w : World) (cs : List Value) (x : Data) : Prop := ∃ v0, cs = [v0] ∧ RepSl S w v0 x.nodes
instance : Rep Data where
  n := 1
  rep := Data.rep
  len := by rintro _ _ _ _ ⟨v0, rfl, _⟩; rfl
  carry := by rintro _ _ _ _ _ _ ⟨v0, rfl, h0⟩ hS hw; exact ⟨v0, rfl, h0.carry hS hw⟩
theorem Data.form {S : Nat → Prop} {w : World} {cs : List Value} {x : Data} (h : Rep.rep S w cs x) : ∃ a0 c0, cs = [Value.slice a0 x.nodes.length c0] ∧ RepSl S w (.slice a0 x.nodes.length c0) x.nodes := by
  obtain ⟨v0, rfl, h0⟩ := h
  obtain ⟨a0, c0, rfl⟩ := h0.form
  exact ⟨a0, c0, rfl, h0⟩
instance : Bulk Data := ⟨fun x => Bulk.bulk x.nodes + 1, fun _ => by omega⟩

end Go.Proofs.Ytohalepkikjinaa
