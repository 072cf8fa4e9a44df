/-
  THE DATA Con, Type, Node, Program: as plain Lean structures, and when a Go value reads as one. Conditions: none. Printed by gen.py.
-/
import Derived.Test.YtpomnlejlgojaaaGreatRows
import Derived.Test.YtpomnlejlgojaaaGreatBase
import Derived.Test.YtpomnlejlgojaaaGreatReads
import Derived.Test.YtpomnlejlgojaaaGreatDTy
import Derived.Test.YtpomnlejlgojaaaGreatDPatS
set_option linter.unusedVariables false
namespace Go.Proofs.YtpomnlejlgojaaaGreat
open Go.RowKit Go.Proofs.YtpomnlejlgojaaaGreat.Ml

structure Con where
  name : ByteArray
  has : Bool
  arg : Ty
  deriving DecidableEq, Inhabited

def Con.rep (S : Nat → Prop) (w : World) (cs : List Value) (x : Con) : Prop := ∃ v2, cs = [Value.string x.name, Value.bool x.has, v2] ∧ x.name.size ≤ maxLen ∧ RepSl S w v2 x.arg.items
instance : Rep Con where
  n := 3
  rep := Con.rep
  len := by rintro _ _ _ _ ⟨v2, rfl, _⟩; rfl
  carry := by rintro _ _ _ _ _ _ ⟨v2, rfl, h0, h1⟩ hS hw; exact ⟨v2, rfl, h0, h1.carry hS hw⟩
theorem Con.form {S : Nat → Prop} {w : World} {cs : List Value} {x : Con} (h : Rep.rep S w cs x) : ∃ a2 c2, cs = [Value.string x.name, Value.bool x.has, Value.slice a2 x.arg.items.length c2] ∧ x.name.size ≤ maxLen ∧ RepSl S w (.slice a2 x.arg.items.length c2) x.arg.items := by
  obtain ⟨v2, rfl, h0, h1⟩ := h
  obtain ⟨a2, c2, rfl⟩ := h1.form
  exact ⟨a2, c2, rfl, h0, h1⟩
instance : Bulk Con := ⟨fun x => Bulk.bulk x.name + Bulk.bulk x.has + Bulk.bulk x.arg + 1, fun _ => by omega⟩

structure TypeD where
  name : ByteArray
  params : Int
  cons : List Con
  deriving DecidableEq, Inhabited

def TypeD.rep (S : Nat → Prop) (w : World) (cs : List Value) (x : TypeD) : Prop := ∃ v2, cs = [Value.string x.name, Value.int .i64 x.params, v2] ∧ x.name.size ≤ maxLen ∧ (-9223372036854775808 ≤ x.params ∧ x.params ≤ 9223372036854775807) ∧ RepSl S w v2 x.cons
instance : Rep TypeD where
  n := 3
  rep := TypeD.rep
  len := by rintro _ _ _ _ ⟨v2, rfl, _⟩; rfl
  carry := by rintro _ _ _ _ _ _ ⟨v2, rfl, h0, h1, h2⟩ hS hw; exact ⟨v2, rfl, h0, h1, h2.carry hS hw⟩
theorem TypeD.form {S : Nat → Prop} {w : World} {cs : List Value} {x : TypeD} (h : Rep.rep S w cs x) : ∃ a2 c2, cs = [Value.string x.name, Value.int .i64 x.params, Value.slice a2 x.cons.length c2] ∧ x.name.size ≤ maxLen ∧ (-9223372036854775808 ≤ x.params ∧ x.params ≤ 9223372036854775807) ∧ RepSl S w (.slice a2 x.cons.length c2) x.cons := by
  obtain ⟨v2, rfl, h0, h1, h2⟩ := h
  obtain ⟨a2, c2, rfl⟩ := h2.form
  exact ⟨a2, c2, rfl, h0, h1, h2⟩
instance : Bulk TypeD := ⟨fun x => Bulk.bulk x.name + Bulk.bulk x.params + Bulk.bulk x.cons + 1, fun _ => by omega⟩

structure Node where
  kind : Int
  pos : Int
  n : Int
  s : ByteArray
  kids : List Int
  pats : List Pat
  deriving DecidableEq, Inhabited

def Node.rep (S : Nat → Prop) (w : World) (cs : List Value) (x : Node) : Prop := ∃ v4 v5, cs = [Value.int .i64 x.kind, Value.int .i64 x.pos, Value.int .i64 x.n, Value.string x.s, v4, v5] ∧ (-9223372036854775808 ≤ x.kind ∧ x.kind ≤ 9223372036854775807) ∧ (-9223372036854775808 ≤ x.pos ∧ x.pos ≤ 9223372036854775807) ∧ (-9223372036854775808 ≤ x.n ∧ x.n ≤ 9223372036854775807) ∧ x.s.size ≤ maxLen ∧ RepSl S w v4 x.kids ∧ RepSl S w v5 x.pats
instance : Rep Node where
  n := 6
  rep := Node.rep
  len := by rintro _ _ _ _ ⟨v4, v5, rfl, _⟩; rfl
  carry := by rintro _ _ _ _ _ _ ⟨v4, v5, rfl, h0, h1, h2, h3, h4, h5⟩ hS hw; exact ⟨v4, v5, rfl, h0, h1, h2, h3, h4.carry hS hw, h5.carry hS hw⟩
theorem Node.form {S : Nat → Prop} {w : World} {cs : List Value} {x : Node} (h : Rep.rep S w cs x) : ∃ a4 c4 a5 c5, cs = [Value.int .i64 x.kind, Value.int .i64 x.pos, Value.int .i64 x.n, Value.string x.s, Value.slice a4 x.kids.length c4, Value.slice a5 x.pats.length c5] ∧ (-9223372036854775808 ≤ x.kind ∧ x.kind ≤ 9223372036854775807) ∧ (-9223372036854775808 ≤ x.pos ∧ x.pos ≤ 9223372036854775807) ∧ (-9223372036854775808 ≤ x.n ∧ x.n ≤ 9223372036854775807) ∧ x.s.size ≤ maxLen ∧ RepSl S w (.slice a4 x.kids.length c4) x.kids ∧ RepSl S w (.slice a5 x.pats.length c5) x.pats := by
  obtain ⟨v4, v5, rfl, h0, h1, h2, h3, h4, h5⟩ := h
  obtain ⟨a4, c4, rfl⟩ := h4.form
  obtain ⟨a5, c5, rfl⟩ := h5.form
  exact ⟨a4, c4, a5, c5, rfl, h0, h1, h2, h3, h4, h5⟩
instance : Bulk Node := ⟨fun x => Bulk.bulk x.kind + Bulk.bulk x.pos + Bulk.bulk x.n + Bulk.bulk x.s + Bulk.bulk x.kids + Bulk.bulk x.pats + 1, fun _ => by omega⟩

structure Program where
  types : List TypeD
  nodes : List Node
  deriving DecidableEq, Inhabited

def Program.rep (S : Nat → Prop) (w : World) (cs : List Value) (x : Program) : Prop := ∃ v0 v1, cs = [v0, v1] ∧ RepSl S w v0 x.types ∧ RepSl S w v1 x.nodes
instance : Rep Program where
  n := 2
  rep := Program.rep
  len := by rintro _ _ _ _ ⟨v0, v1, rfl, _⟩; rfl
  carry := by rintro _ _ _ _ _ _ ⟨v0, v1, rfl, h0, h1⟩ hS hw; exact ⟨v0, v1, rfl, h0.carry hS hw, h1.carry hS hw⟩
theorem Program.form {S : Nat → Prop} {w : World} {cs : List Value} {x : Program} (h : Rep.rep S w cs x) : ∃ a0 c0 a1 c1, cs = [Value.slice a0 x.types.length c0, Value.slice a1 x.nodes.length c1] ∧ RepSl S w (.slice a0 x.types.length c0) x.types ∧ RepSl S w (.slice a1 x.nodes.length c1) x.nodes := by
  obtain ⟨v0, v1, rfl, h0, h1⟩ := h
  obtain ⟨a0, c0, rfl⟩ := h0.form
  obtain ⟨a1, c1, rfl⟩ := h1.form
  exact ⟨a0, c0, a1, c1, rfl, h0, h1⟩
instance : Bulk Program := ⟨fun x => Bulk.bulk x.types + Bulk.bulk x.nodes + 1, fun _ => by omega⟩

theorem readsCon : ReadsAs 207 Con := ⟨by kernel_rfl, fun {H enc w fuel cs x} h => by
  obtain ⟨xs, m, _, rfl, hlen, hxs, hf⟩ := DataW.trod_struct Tryz.underlying207 h
  have hn : Tryz.prog.cellsOf 207 = 3 := by kernel_rfl
  rw [hn] at hlen
  obtain ⟨c0, t0, rfl, l0⟩ := list_succ hlen
  obtain ⟨c1, t1, rfl, l1⟩ := list_succ l0
  obtain ⟨c2, t2, rfl, l2⟩ := list_succ l1
  obtain rfl := list_zero l2
  obtain ⟨y0, s0, rfl, n0⟩ := list_succ (n := 2) hxs
  obtain ⟨y1, s1, rfl, n1⟩ := list_succ (n := 1) n0
  obtain ⟨y2, s2, rfl, n2⟩ := list_succ (n := 0) n1
  obtain rfl := list_zero n2
  obtain ⟨z0, e0, b0⟩ := readsStr.get (cs := [c0]) (x := y0) (by have := hf 0 _ rfl; simpa [readsStr.n, Rep.n] using this)
  obtain ⟨z1, e1, b1⟩ := readsBool.get (cs := [c1]) (x := y1) (by have := hf 1 _ rfl; simpa [readsBool.n, Rep.n] using this)
  obtain ⟨z2, e2, b2⟩ := readsTy.get (cs := [c2]) (x := y2) (by have := hf 2 _ rfl; simpa [readsTy.n, Rep.n] using this)
  obtain ⟨q0, g0⟩ := e0; simp only [List.cons.injEq, and_true] at q0; subst q0
  have q1 := e1; simp only [Rep.rep, List.cons.injEq, and_true] at q1; subst q1
  obtain ⟨v2_0, q2, r2_0⟩ := e2
  simp only [List.cons.injEq, and_true] at q2; subst q2
  exact ⟨⟨z0, z1, z2⟩, ⟨c2, rfl, g0, r2_0⟩, by simp only [Bulk.bulk, Rows.uptoBulk, Rows.uptoBulkAll, List.map_cons, List.map_nil] at b0 b1 b2 ⊢; omega⟩⟩

theorem readsConS : ReadsAs 93 (List Con) := readsSlice readsCon Tryz.underlying93 (by kernel_rfl) (by simp [Rep.n])

theorem readsType : ReadsAs 95 TypeD := ⟨by kernel_rfl, fun {H enc w fuel cs x} h => by
  obtain ⟨xs, m, _, rfl, hlen, hxs, hf⟩ := DataW.trod_struct Tryz.underlying95 h
  have hn : Tryz.prog.cellsOf 95 = 3 := by kernel_rfl
  rw [hn] at hlen
  obtain ⟨c0, t0, rfl, l0⟩ := list_succ hlen
  obtain ⟨c1, t1, rfl, l1⟩ := list_succ l0
  obtain ⟨c2, t2, rfl, l2⟩ := list_succ l1
  obtain rfl := list_zero l2
  obtain ⟨y0, s0, rfl, n0⟩ := list_succ (n := 2) hxs
  obtain ⟨y1, s1, rfl, n1⟩ := list_succ (n := 1) n0
  obtain ⟨y2, s2, rfl, n2⟩ := list_succ (n := 0) n1
  obtain rfl := list_zero n2
  obtain ⟨z0, e0, b0⟩ := readsStr.get (cs := [c0]) (x := y0) (by have := hf 0 _ rfl; simpa [readsStr.n, Rep.n] using this)
  obtain ⟨z1, e1, b1⟩ := readsInt.get (cs := [c1]) (x := y1) (by have := hf 1 _ rfl; simpa [readsInt.n, Rep.n] using this)
  obtain ⟨z2, e2, b2⟩ := readsConS.get (cs := [c2]) (x := y2) (by have := hf 2 _ rfl; simpa [readsConS.n, Rep.n] using this)
  obtain ⟨q0, g0⟩ := e0; simp only [List.cons.injEq, and_true] at q0; subst q0
  obtain ⟨q1, g1⟩ := e1; simp only [List.cons.injEq, and_true] at q1; subst q1
  obtain ⟨v2, q2, g2⟩ := e2; simp only [List.cons.injEq, and_true] at q2; subst q2
  exact ⟨⟨z0, z1, z2⟩, ⟨c2, rfl, g0, g1, g2⟩, by simp only [Bulk.bulk, Rows.uptoBulk, Rows.uptoBulkAll, List.map_cons, List.map_nil] at b0 b1 b2 ⊢; omega⟩⟩

theorem readsNode : ReadsAs 99 Node := ⟨by kernel_rfl, fun {H enc w fuel cs x} h => by
  obtain ⟨xs, m, _, rfl, hlen, hxs, hf⟩ := DataW.trod_struct Tryz.underlying99 h
  have hn : Tryz.prog.cellsOf 99 = 6 := by kernel_rfl
  rw [hn] at hlen
  obtain ⟨c0, t0, rfl, l0⟩ := list_succ hlen
  obtain ⟨c1, t1, rfl, l1⟩ := list_succ l0
  obtain ⟨c2, t2, rfl, l2⟩ := list_succ l1
  obtain ⟨c3, t3, rfl, l3⟩ := list_succ l2
  obtain ⟨c4, t4, rfl, l4⟩ := list_succ l3
  obtain ⟨c5, t5, rfl, l5⟩ := list_succ l4
  obtain rfl := list_zero l5
  obtain ⟨y0, s0, rfl, n0⟩ := list_succ (n := 5) hxs
  obtain ⟨y1, s1, rfl, n1⟩ := list_succ (n := 4) n0
  obtain ⟨y2, s2, rfl, n2⟩ := list_succ (n := 3) n1
  obtain ⟨y3, s3, rfl, n3⟩ := list_succ (n := 2) n2
  obtain ⟨y4, s4, rfl, n4⟩ := list_succ (n := 1) n3
  obtain ⟨y5, s5, rfl, n5⟩ := list_succ (n := 0) n4
  obtain rfl := list_zero n5
  obtain ⟨z0, e0, b0⟩ := readsInt.get (cs := [c0]) (x := y0) (by have := hf 0 _ rfl; simpa [readsInt.n, Rep.n] using this)
  obtain ⟨z1, e1, b1⟩ := readsInt.get (cs := [c1]) (x := y1) (by have := hf 1 _ rfl; simpa [readsInt.n, Rep.n] using this)
  obtain ⟨z2, e2, b2⟩ := readsInt.get (cs := [c2]) (x := y2) (by have := hf 2 _ rfl; simpa [readsInt.n, Rep.n] using this)
  obtain ⟨z3, e3, b3⟩ := readsStr.get (cs := [c3]) (x := y3) (by have := hf 3 _ rfl; simpa [readsStr.n, Rep.n] using this)
  obtain ⟨z4, e4, b4⟩ := readsIntS.get (cs := [c4]) (x := y4) (by have := hf 4 _ rfl; simpa [readsIntS.n, Rep.n] using this)
  obtain ⟨z5, e5, b5⟩ := readsPatS.get (cs := [c5]) (x := y5) (by have := hf 5 _ rfl; simpa [readsPatS.n, Rep.n] using this)
  obtain ⟨q0, g0⟩ := e0; simp only [List.cons.injEq, and_true] at q0; subst q0
  obtain ⟨q1, g1⟩ := e1; simp only [List.cons.injEq, and_true] at q1; subst q1
  obtain ⟨q2, g2⟩ := e2; simp only [List.cons.injEq, and_true] at q2; subst q2
  obtain ⟨q3, g3⟩ := e3; simp only [List.cons.injEq, and_true] at q3; subst q3
  obtain ⟨v4, q4, g4⟩ := e4; simp only [List.cons.injEq, and_true] at q4; subst q4
  obtain ⟨v5, q5, g5⟩ := e5; simp only [List.cons.injEq, and_true] at q5; subst q5
  exact ⟨⟨z0, z1, z2, z3, z4, z5⟩, ⟨c4, c5, rfl, g0, g1, g2, g3, g4, g5⟩, by simp only [Bulk.bulk, Rows.uptoBulk, Rows.uptoBulkAll, List.map_cons, List.map_nil] at b0 b1 b2 b3 b4 b5 ⊢; omega⟩⟩

theorem readsTypeS : ReadsAs 22 (List TypeD) := readsSlice readsType Tryz.underlying22 (by kernel_rfl) (by simp [Rep.n])

theorem readsNodeS : ReadsAs 23 (List Node) := readsSlice readsNode Tryz.underlying23 (by kernel_rfl) (by simp [Rep.n])

theorem readsProgram : ReadsAs 25 Program := ⟨by kernel_rfl, fun {H enc w fuel cs x} h => by
  obtain ⟨xs, m, _, rfl, hlen, hxs, hf⟩ := DataW.trod_struct Tryz.underlying25 h
  have hn : Tryz.prog.cellsOf 25 = 2 := by kernel_rfl
  rw [hn] at hlen
  obtain ⟨c0, t0, rfl, l0⟩ := list_succ hlen
  obtain ⟨c1, t1, rfl, l1⟩ := list_succ l0
  obtain rfl := list_zero l1
  obtain ⟨y0, s0, rfl, n0⟩ := list_succ (n := 1) hxs
  obtain ⟨y1, s1, rfl, n1⟩ := list_succ (n := 0) n0
  obtain rfl := list_zero n1
  obtain ⟨z0, e0, b0⟩ := readsTypeS.get (cs := [c0]) (x := y0) (by have := hf 0 _ rfl; simpa [readsTypeS.n, Rep.n] using this)
  obtain ⟨z1, e1, b1⟩ := readsNodeS.get (cs := [c1]) (x := y1) (by have := hf 1 _ rfl; simpa [readsNodeS.n, Rep.n] using this)
  obtain ⟨v0, q0, g0⟩ := e0; simp only [List.cons.injEq, and_true] at q0; subst q0
  obtain ⟨v1, q1, g1⟩ := e1; simp only [List.cons.injEq, and_true] at q1; subst q1
  exact ⟨⟨z0, z1⟩, ⟨c0, c1, rfl, g0, g1⟩, by simp only [Bulk.bulk, Rows.uptoBulk, Rows.uptoBulkAll, List.map_cons, List.map_nil] at b0 b1 ⊢; omega⟩⟩

end Go.Proofs.YtpomnlejlgojaaaGreat
