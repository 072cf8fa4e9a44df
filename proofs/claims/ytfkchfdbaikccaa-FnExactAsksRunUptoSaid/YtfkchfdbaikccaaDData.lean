/-
  THE DATA DNode, Data: as plain Lean structures, and when a Go value reads as one. Conditions: none. Printed by gen.py.
-/
import Derived.Test.YtfkchfdbaikccaaRows
import Derived.Test.YtfkchfdbaikccaaBase
import Derived.Test.YtfkchfdbaikccaaReads
import Derived.Test.YtfkchfdbaikccaaDInt
set_option linter.unusedVariables false
namespace Go.Proofs.Ytfkchfdbaikccaa
open Go.RowKit Go.Proofs.Ytfkchfdbaikccaa.Ml

structure DNode where
  kind : Int
  n : Int
  s : ByteArray
  kids : List Int
  deriving DecidableEq, Inhabited

def DNode.rep (S : Nat → Prop) (w : World) (cs : List Value) (x : DNode) : Prop := ∃ v3, cs = [Value.int .i64 x.kind, Value.int .i64 x.n, Value.string x.s, v3] ∧ (-9223372036854775808 ≤ x.kind ∧ x.kind ≤ 9223372036854775807) ∧ (-9223372036854775808 ≤ x.n ∧ x.n ≤ 9223372036854775807) ∧ x.s.size ≤ maxLen ∧ RepSl S w v3 x.kids
instance : Rep DNode where
  n := 4
  rep := DNode.rep
  len := by rintro _ _ _ _ ⟨v3, rfl, _⟩; rfl
  carry := by rintro _ _ _ _ _ _ ⟨v3, rfl, h0, h1, h2, h3⟩ hS hw; exact ⟨v3, rfl, h0, h1, h2, h3.carry hS hw⟩
theorem DNode.form {S : Nat → Prop} {w : World} {cs : List Value} {x : DNode} (h : Rep.rep S w cs x) : ∃ a3 c3, cs = [Value.int .i64 x.kind, Value.int .i64 x.n, Value.string x.s, Value.slice a3 x.kids.length c3] ∧ (-9223372036854775808 ≤ x.kind ∧ x.kind ≤ 9223372036854775807) ∧ (-9223372036854775808 ≤ x.n ∧ x.n ≤ 9223372036854775807) ∧ x.s.size ≤ maxLen ∧ RepSl S w (.slice a3 x.kids.length c3) x.kids := by
  obtain ⟨v3, rfl, h0, h1, h2, h3⟩ := h
  obtain ⟨a3, c3, rfl⟩ := h3.form
  exact ⟨a3, c3, rfl, h0, h1, h2, h3⟩
instance : Bulk DNode := ⟨fun x => Bulk.bulk x.kind + Bulk.bulk x.n + Bulk.bulk x.s + Bulk.bulk x.kids + 1, fun _ => by omega⟩

structure Data where
  nodes : List DNode
  deriving DecidableEq, Inhabited

def Data.rep (S : Nat → Prop) (w : World) (cs : List Value) (x : Data) : Prop := ∃ v0, cs = [v0] ∧ RepSl S w v0 x.nodes
instance : Rep Data where
  n := 1
  rep := Data.rep
  len := by rintro _ _ _ _ ⟨v0, rfl, _⟩; rfl
  carry := by rintro _ _ _ _ _ _ ⟨v0, rfl, h0⟩ hS hw; exact ⟨v0, rfl, h0.carry hS hw⟩
theorem Data.form {S : Nat → Prop} {w : World} {cs : List Value} {x : Data} (h : Rep.rep S w cs x) : ∃ a0 c0, cs = [Value.slice a0 x.nodes.length c0] ∧ RepSl S w (.slice a0 x.nodes.length c0) x.nodes := by
  obtain ⟨v0, rfl, h0⟩ := h
  obtain ⟨a0, c0, rfl⟩ := h0.form
  exact ⟨a0, c0, rfl, h0⟩
instance : Bulk Data := ⟨fun x => Bulk.bulk x.nodes + 1, fun _ => by omega⟩

theorem readsDNode : ReadsAs 126 DNode := ⟨by kernel_rfl, fun {H enc w fuel cs x} h => by
  obtain ⟨xs, m, _, rfl, hlen, hxs, hf⟩ := DataW.trod_struct Try.underlying126 h
  have hn : Try.prog.cellsOf 126 = 4 := by kernel_rfl
  rw [hn] at hlen
  obtain ⟨c0, t0, rfl, l0⟩ := list_succ hlen
  obtain ⟨c1, t1, rfl, l1⟩ := list_succ l0
  obtain ⟨c2, t2, rfl, l2⟩ := list_succ l1
  obtain ⟨c3, t3, rfl, l3⟩ := list_succ l2
  obtain rfl := list_zero l3
  obtain ⟨y0, s0, rfl, n0⟩ := list_succ (n := 3) hxs
  obtain ⟨y1, s1, rfl, n1⟩ := list_succ (n := 2) n0
  obtain ⟨y2, s2, rfl, n2⟩ := list_succ (n := 1) n1
  obtain ⟨y3, s3, rfl, n3⟩ := list_succ (n := 0) n2
  obtain rfl := list_zero n3
  obtain ⟨z0, e0, b0⟩ := readsInt.get (cs := [c0]) (x := y0) (by have := hf 0 _ rfl; simpa [readsInt.n, Rep.n] using this)
  obtain ⟨z1, e1, b1⟩ := readsInt.get (cs := [c1]) (x := y1) (by have := hf 1 _ rfl; simpa [readsInt.n, Rep.n] using this)
  obtain ⟨z2, e2, b2⟩ := readsStr.get (cs := [c2]) (x := y2) (by have := hf 2 _ rfl; simpa [readsStr.n, Rep.n] using this)
  obtain ⟨z3, e3, b3⟩ := readsIntS.get (cs := [c3]) (x := y3) (by have := hf 3 _ rfl; simpa [readsIntS.n, Rep.n] using this)
  obtain ⟨q0, g0⟩ := e0; simp only [List.cons.injEq, and_true] at q0; subst q0
  obtain ⟨q1, g1⟩ := e1; simp only [List.cons.injEq, and_true] at q1; subst q1
  obtain ⟨q2, g2⟩ := e2; simp only [List.cons.injEq, and_true] at q2; subst q2
  obtain ⟨v3, q3, g3⟩ := e3; simp only [List.cons.injEq, and_true] at q3; subst q3
  exact ⟨⟨z0, z1, z2, z3⟩, ⟨c3, rfl, g0, g1, g2, g3⟩, by simp only [Bulk.bulk, Rows.uptoBulk, Rows.uptoBulkAll, List.map_cons, List.map_nil] at b0 b1 b2 b3 ⊢; omega⟩⟩

theorem readsDNodeS : ReadsAs 25 (List DNode) := readsSlice readsDNode Try.underlying25 (by kernel_rfl) (by simp [Rep.n])

theorem readsData : ReadsAs 27 Data := ⟨by kernel_rfl, fun {H enc w fuel cs x} h => by
  obtain ⟨xs, m, _, rfl, hlen, hxs, hf⟩ := DataW.trod_struct Try.underlying27 h
  have hn : Try.prog.cellsOf 27 = 1 := by kernel_rfl
  rw [hn] at hlen
  obtain ⟨c0, t0, rfl, l0⟩ := list_succ hlen
  obtain rfl := list_zero l0
  obtain ⟨y0, s0, rfl, n0⟩ := list_succ (n := 0) hxs
  obtain rfl := list_zero n0
  obtain ⟨z0, e0, b0⟩ := readsDNodeS.get (cs := [c0]) (x := y0) (by have := hf 0 _ rfl; simpa [readsDNodeS.n, Rep.n] using this)
  obtain ⟨v0, q0, g0⟩ := e0; simp only [List.cons.injEq, and_true] at q0; subst q0
  exact ⟨⟨z0⟩, ⟨c0, rfl, g0⟩, by simp only [Bulk.bulk, Rows.uptoBulk, Rows.uptoBulkAll, List.map_cons, List.map_nil] at b0 ⊢; omega⟩⟩

end Go.Proofs.Ytfkchfdbaikccaa
