/-
  THE DATA Ask, Asks: as plain Lean structures, and when a Go value reads as one. Conditions: none. Printed by gen.py.
-/
import Derived.Test.YtfkchfdbaikccaaRows
import Derived.Test.YtfkchfdbaikccaaBase
import Derived.Test.YtfkchfdbaikccaaReads
import Derived.Test.YtfkchfdbaikccaaDInt
set_option linter.unusedVariables false
namespace Go.Proofs.Ytfkchfdbaikccaa
open Go.RowKit Go.Proofs.Ytfkchfdbaikccaa.Ml

structure Ask where
  arm : Int
  path : List Int
  kind : Int
  n : Int
  s : ByteArray
  has : Bool
  yes : Int
  no : Int
  deriving DecidableEq, Inhabited

def Ask.rep (S : Nat → Prop) (w : World) (cs : List Value) (x : Ask) : Prop := ∃ v1, cs = [Value.int .i64 x.arm, v1, Value.int .i64 x.kind, Value.int .i64 x.n, Value.string x.s, Value.bool x.has, Value.int .i64 x.yes, Value.int .i64 x.no] ∧ (-9223372036854775808 ≤ x.arm ∧ x.arm ≤ 9223372036854775807) ∧ (-9223372036854775808 ≤ x.kind ∧ x.kind ≤ 9223372036854775807) ∧ (-9223372036854775808 ≤ x.n ∧ x.n ≤ 9223372036854775807) ∧ x.s.size ≤ maxLen ∧ (-9223372036854775808 ≤ x.yes ∧ x.yes ≤ 9223372036854775807) ∧ (-9223372036854775808 ≤ x.no ∧ x.no ≤ 9223372036854775807) ∧ RepSl S w v1 x.path
instance : Rep Ask where
  n := 8
  rep := Ask.rep
  len := by rintro _ _ _ _ ⟨v1, rfl, _⟩; rfl
  carry := by rintro _ _ _ _ _ _ ⟨v1, rfl, h0, h1, h2, h3, h4, h5, h6⟩ hS hw; exact ⟨v1, rfl, h0, h1, h2, h3, h4, h5, h6.carry hS hw⟩
theorem Ask.form {S : Nat → Prop} {w : World} {cs : List Value} {x : Ask} (h : Rep.rep S w cs x) : ∃ a1 c1, cs = [Value.int .i64 x.arm, Value.slice a1 x.path.length c1, Value.int .i64 x.kind, Value.int .i64 x.n, Value.string x.s, Value.bool x.has, Value.int .i64 x.yes, Value.int .i64 x.no] ∧ (-9223372036854775808 ≤ x.arm ∧ x.arm ≤ 9223372036854775807) ∧ (-9223372036854775808 ≤ x.kind ∧ x.kind ≤ 9223372036854775807) ∧ (-9223372036854775808 ≤ x.n ∧ x.n ≤ 9223372036854775807) ∧ x.s.size ≤ maxLen ∧ (-9223372036854775808 ≤ x.yes ∧ x.yes ≤ 9223372036854775807) ∧ (-9223372036854775808 ≤ x.no ∧ x.no ≤ 9223372036854775807) ∧ RepSl S w (.slice a1 x.path.length c1) x.path := by
  obtain ⟨v1, rfl, h0, h1, h2, h3, h4, h5, h6⟩ := h
  obtain ⟨a1, c1, rfl⟩ := h6.form
  exact ⟨a1, c1, rfl, h0, h1, h2, h3, h4, h5, h6⟩
instance : Bulk Ask := ⟨fun x => Bulk.bulk x.arm + Bulk.bulk x.path + Bulk.bulk x.kind + Bulk.bulk x.n + Bulk.bulk x.s + Bulk.bulk x.has + Bulk.bulk x.yes + Bulk.bulk x.no + 1, fun _ => by omega⟩

structure Asks where
  nodes : List Ask
  deriving DecidableEq, Inhabited

def Asks.rep (S : Nat → Prop) (w : World) (cs : List Value) (x : Asks) : Prop := ∃ v0, cs = [v0] ∧ RepSl S w v0 x.nodes
instance : Rep Asks where
  n := 1
  rep := Asks.rep
  len := by rintro _ _ _ _ ⟨v0, rfl, _⟩; rfl
  carry := by rintro _ _ _ _ _ _ ⟨v0, rfl, h0⟩ hS hw; exact ⟨v0, rfl, h0.carry hS hw⟩
theorem Asks.form {S : Nat → Prop} {w : World} {cs : List Value} {x : Asks} (h : Rep.rep S w cs x) : ∃ a0 c0, cs = [Value.slice a0 x.nodes.length c0] ∧ RepSl S w (.slice a0 x.nodes.length c0) x.nodes := by
  obtain ⟨v0, rfl, h0⟩ := h
  obtain ⟨a0, c0, rfl⟩ := h0.form
  exact ⟨a0, c0, rfl, h0⟩
instance : Bulk Asks := ⟨fun x => Bulk.bulk x.nodes + 1, fun _ => by omega⟩

theorem readsAsk : ReadsAs 123 Ask := ⟨by kernel_rfl, fun {H enc w fuel cs x} h => by
  obtain ⟨xs, m, _, rfl, hlen, hxs, hf⟩ := DataW.trod_struct Try.underlying123 h
  have hn : Try.prog.cellsOf 123 = 8 := by kernel_rfl
  rw [hn] at hlen
  obtain ⟨c0, t0, rfl, l0⟩ := list_succ hlen
  obtain ⟨c1, t1, rfl, l1⟩ := list_succ l0
  obtain ⟨c2, t2, rfl, l2⟩ := list_succ l1
  obtain ⟨c3, t3, rfl, l3⟩ := list_succ l2
  obtain ⟨c4, t4, rfl, l4⟩ := list_succ l3
  obtain ⟨c5, t5, rfl, l5⟩ := list_succ l4
  obtain ⟨c6, t6, rfl, l6⟩ := list_succ l5
  obtain ⟨c7, t7, rfl, l7⟩ := list_succ l6
  obtain rfl := list_zero l7
  obtain ⟨y0, s0, rfl, n0⟩ := list_succ (n := 7) hxs
  obtain ⟨y1, s1, rfl, n1⟩ := list_succ (n := 6) n0
  obtain ⟨y2, s2, rfl, n2⟩ := list_succ (n := 5) n1
  obtain ⟨y3, s3, rfl, n3⟩ := list_succ (n := 4) n2
  obtain ⟨y4, s4, rfl, n4⟩ := list_succ (n := 3) n3
  obtain ⟨y5, s5, rfl, n5⟩ := list_succ (n := 2) n4
  obtain ⟨y6, s6, rfl, n6⟩ := list_succ (n := 1) n5
  obtain ⟨y7, s7, rfl, n7⟩ := list_succ (n := 0) n6
  obtain rfl := list_zero n7
  obtain ⟨z0, e0, b0⟩ := readsInt.get (cs := [c0]) (x := y0) (by have := hf 0 _ rfl; simpa [readsInt.n, Rep.n] using this)
  obtain ⟨z1, e1, b1⟩ := readsIntS.get (cs := [c1]) (x := y1) (by have := hf 1 _ rfl; simpa [readsIntS.n, Rep.n] using this)
  obtain ⟨z2, e2, b2⟩ := readsInt.get (cs := [c2]) (x := y2) (by have := hf 2 _ rfl; simpa [readsInt.n, Rep.n] using this)
  obtain ⟨z3, e3, b3⟩ := readsInt.get (cs := [c3]) (x := y3) (by have := hf 3 _ rfl; simpa [readsInt.n, Rep.n] using this)
  obtain ⟨z4, e4, b4⟩ := readsStr.get (cs := [c4]) (x := y4) (by have := hf 4 _ rfl; simpa [readsStr.n, Rep.n] using this)
  obtain ⟨z5, e5, b5⟩ := readsBool.get (cs := [c5]) (x := y5) (by have := hf 5 _ rfl; simpa [readsBool.n, Rep.n] using this)
  obtain ⟨z6, e6, b6⟩ := readsInt.get (cs := [c6]) (x := y6) (by have := hf 6 _ rfl; simpa [readsInt.n, Rep.n] using this)
  obtain ⟨z7, e7, b7⟩ := readsInt.get (cs := [c7]) (x := y7) (by have := hf 7 _ rfl; simpa [readsInt.n, Rep.n] using this)
  obtain ⟨q0, g0⟩ := e0; simp only [List.cons.injEq, and_true] at q0; subst q0
  obtain ⟨v1, q1, g1⟩ := e1; simp only [List.cons.injEq, and_true] at q1; subst q1
  obtain ⟨q2, g2⟩ := e2; simp only [List.cons.injEq, and_true] at q2; subst q2
  obtain ⟨q3, g3⟩ := e3; simp only [List.cons.injEq, and_true] at q3; subst q3
  obtain ⟨q4, g4⟩ := e4; simp only [List.cons.injEq, and_true] at q4; subst q4
  have q5 := e5; simp only [Rep.rep, List.cons.injEq, and_true] at q5; subst q5
  obtain ⟨q6, g6⟩ := e6; simp only [List.cons.injEq, and_true] at q6; subst q6
  obtain ⟨q7, g7⟩ := e7; simp only [List.cons.injEq, and_true] at q7; subst q7
  exact ⟨⟨z0, z1, z2, z3, z4, z5, z6, z7⟩, ⟨c1, rfl, g0, g2, g3, g4, g6, g7, g1⟩, by simp only [Bulk.bulk, Rows.uptoBulk, Rows.uptoBulkAll, List.map_cons, List.map_nil] at b0 b1 b2 b3 b4 b5 b6 b7 ⊢; omega⟩⟩

theorem readsAskS : ReadsAs 22 (List Ask) := readsSlice readsAsk Try.underlying22 (by kernel_rfl) (by simp [Rep.n])

theorem readsAsks : ReadsAs 24 Asks := ⟨by kernel_rfl, fun {H enc w fuel cs x} h => by
  obtain ⟨xs, m, _, rfl, hlen, hxs, hf⟩ := DataW.trod_struct Try.underlying24 h
  have hn : Try.prog.cellsOf 24 = 1 := by kernel_rfl
  rw [hn] at hlen
  obtain ⟨c0, t0, rfl, l0⟩ := list_succ hlen
  obtain rfl := list_zero l0
  obtain ⟨y0, s0, rfl, n0⟩ := list_succ (n := 0) hxs
  obtain rfl := list_zero n0
  obtain ⟨z0, e0, b0⟩ := readsAskS.get (cs := [c0]) (x := y0) (by have := hf 0 _ rfl; simpa [readsAskS.n, Rep.n] using this)
  obtain ⟨v0, q0, g0⟩ := e0; simp only [List.cons.injEq, and_true] at q0; subst q0
  exact ⟨⟨z0⟩, ⟨c0, rfl, g0⟩, by simp only [Bulk.bulk, Rows.uptoBulk, Rows.uptoBulkAll, List.map_cons, List.map_nil] at b0 ⊢; omega⟩⟩

end Go.Proofs.Ytfkchfdbaikccaa
