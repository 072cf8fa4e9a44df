/-
  THE DATA Val, Cell: as plain Lean structures, and when a Go value reads as one. Conditions: none. Printed by gen.py.
-/
import Derived.Test.YtpignflebknagaaRows
import Derived.Test.YtpignflebknagaaBase
import Derived.Test.YtpignflebknagaaReads
set_option linter.unusedVariables false
namespace Go.Proofs.Ytpignflebknagaa
open Go.RowKit Go.Proofs.Ytpignflebknagaa.Ml

structure Val where
  kind : Int
  n : Int
  s : ByteArray
  deriving DecidableEq, Inhabited

def Val.rep (S : Nat → Prop) (w : World) (cs : List Value) (x : Val) : Prop := cs = [Value.int .i64 x.kind, Value.int .i64 x.n, Value.string x.s] ∧ (-9223372036854775808 ≤ x.kind ∧ x.kind ≤ 9223372036854775807) ∧ (-9223372036854775808 ≤ x.n ∧ x.n ≤ 9223372036854775807) ∧ x.s.size ≤ maxLen
instance : Rep Val where
  n := 3
  rep := Val.rep
  len := by rintro _ _ _ _ ⟨rfl, _⟩; rfl
  carry := by rintro _ _ _ _ _ _ ⟨rfl, h0, h1, h2⟩ hS hw; exact ⟨rfl, h0, h1, h2⟩
theorem Val.form {S : Nat → Prop} {w : World} {cs : List Value} {x : Val} (h : Rep.rep S w cs x) : cs = [Value.int .i64 x.kind, Value.int .i64 x.n, Value.string x.s] ∧ (-9223372036854775808 ≤ x.kind ∧ x.kind ≤ 9223372036854775807) ∧ (-9223372036854775808 ≤ x.n ∧ x.n ≤ 9223372036854775807) ∧ x.s.size ≤ maxLen := by
  obtain ⟨rfl, h0, h1, h2⟩ := h
  exact ⟨rfl, h0, h1, h2⟩
instance : Bulk Val := ⟨fun x => Bulk.bulk x.kind + Bulk.bulk x.n + Bulk.bulk x.s + 1, fun _ => by omega⟩

structure Cell where
  kind : Int
  n : Int
  s : ByteArray
  a : Val
  b : Val
  deriving DecidableEq, Inhabited

def Cell.rep (S : Nat → Prop) (w : World) (cs : List Value) (x : Cell) : Prop := cs = [Value.int .i64 x.kind, Value.int .i64 x.n, Value.string x.s, Value.int .i64 x.a.kind, Value.int .i64 x.a.n, Value.string x.a.s, Value.int .i64 x.b.kind, Value.int .i64 x.b.n, Value.string x.b.s] ∧ (-9223372036854775808 ≤ x.kind ∧ x.kind ≤ 9223372036854775807) ∧ (-9223372036854775808 ≤ x.n ∧ x.n ≤ 9223372036854775807) ∧ x.s.size ≤ maxLen ∧ (-9223372036854775808 ≤ x.a.kind ∧ x.a.kind ≤ 9223372036854775807) ∧ (-9223372036854775808 ≤ x.a.n ∧ x.a.n ≤ 9223372036854775807) ∧ x.a.s.size ≤ maxLen ∧ (-9223372036854775808 ≤ x.b.kind ∧ x.b.kind ≤ 9223372036854775807) ∧ (-9223372036854775808 ≤ x.b.n ∧ x.b.n ≤ 9223372036854775807) ∧ x.b.s.size ≤ maxLen
instance : Rep Cell where
  n := 9
  rep := Cell.rep
  len := by rintro _ _ _ _ ⟨rfl, _⟩; rfl
  carry := by rintro _ _ _ _ _ _ ⟨rfl, h0, h1, h2, h3, h4, h5, h6, h7, h8⟩ hS hw; exact ⟨rfl, h0, h1, h2, h3, h4, h5, h6, h7, h8⟩
theorem Cell.form {S : Nat → Prop} {w : World} {cs : List Value} {x : Cell} (h : Rep.rep S w cs x) : cs = [Value.int .i64 x.kind, Value.int .i64 x.n, Value.string x.s, Value.int .i64 x.a.kind, Value.int .i64 x.a.n, Value.string x.a.s, Value.int .i64 x.b.kind, Value.int .i64 x.b.n, Value.string x.b.s] ∧ (-9223372036854775808 ≤ x.kind ∧ x.kind ≤ 9223372036854775807) ∧ (-9223372036854775808 ≤ x.n ∧ x.n ≤ 9223372036854775807) ∧ x.s.size ≤ maxLen ∧ (-9223372036854775808 ≤ x.a.kind ∧ x.a.kind ≤ 9223372036854775807) ∧ (-9223372036854775808 ≤ x.a.n ∧ x.a.n ≤ 9223372036854775807) ∧ x.a.s.size ≤ maxLen ∧ (-9223372036854775808 ≤ x.b.kind ∧ x.b.kind ≤ 9223372036854775807) ∧ (-9223372036854775808 ≤ x.b.n ∧ x.b.n ≤ 9223372036854775807) ∧ x.b.s.size ≤ maxLen := by
  obtain ⟨rfl, h0, h1, h2, h3, h4, h5, h6, h7, h8⟩ := h
  exact ⟨rfl, h0, h1, h2, h3, h4, h5, h6, h7, h8⟩
instance : Bulk Cell := ⟨fun x => Bulk.bulk x.kind + Bulk.bulk x.n + Bulk.bulk x.s + Bulk.bulk x.a + Bulk.bulk x.b + 1, fun _ => by omega⟩

theorem readsVal : ReadsAs 35 Val := ⟨by kernel_rfl, fun {H enc w fuel cs x} h => by
  obtain ⟨xs, m, _, rfl, hlen, hxs, hf⟩ := DataW.trod_struct Try.underlying35 h
  have hn : Try.prog.cellsOf 35 = 3 := by kernel_rfl
  rw [hn] at hlen
  obtain ⟨c0, t0, rfl, l0⟩ := list_succ hlen
  obtain ⟨c1, t1, rfl, l1⟩ := list_succ l0
  obtain ⟨c2, t2, rfl, l2⟩ := list_succ l1
  obtain rfl := list_zero l2
  obtain ⟨y0, s0, rfl, n0⟩ := list_succ (n := 2) hxs
  obtain ⟨y1, s1, rfl, n1⟩ := list_succ (n := 1) n0
  obtain ⟨y2, s2, rfl, n2⟩ := list_succ (n := 0) n1
  obtain rfl := list_zero n2
  obtain ⟨z0, e0, b0⟩ := readsInt.get (cs := [c0]) (x := y0) (by have := hf 0 _ rfl; simpa [readsInt.n, Rep.n] using this)
  obtain ⟨z1, e1, b1⟩ := readsInt.get (cs := [c1]) (x := y1) (by have := hf 1 _ rfl; simpa [readsInt.n, Rep.n] using this)
  obtain ⟨z2, e2, b2⟩ := readsStr.get (cs := [c2]) (x := y2) (by have := hf 2 _ rfl; simpa [readsStr.n, Rep.n] using this)
  obtain ⟨q0, g0⟩ := e0; simp only [List.cons.injEq, and_true] at q0; subst q0
  obtain ⟨q1, g1⟩ := e1; simp only [List.cons.injEq, and_true] at q1; subst q1
  obtain ⟨q2, g2⟩ := e2; simp only [List.cons.injEq, and_true] at q2; subst q2
  exact ⟨⟨z0, z1, z2⟩, ⟨rfl, g0, g1, g2⟩, by simp only [Bulk.bulk, Rows.uptoBulk, Rows.uptoBulkAll, List.map_cons, List.map_nil] at b0 b1 b2 ⊢; omega⟩⟩

theorem readsCell : ReadsAs 43 Cell := ⟨by kernel_rfl, fun {H enc w fuel cs x} h => by
  obtain ⟨xs, m, _, rfl, hlen, hxs, hf⟩ := DataW.trod_struct Try.underlying43 h
  have hn : Try.prog.cellsOf 43 = 9 := by kernel_rfl
  rw [hn] at hlen
  obtain ⟨c0, t0, rfl, l0⟩ := list_succ hlen
  obtain ⟨c1, t1, rfl, l1⟩ := list_succ l0
  obtain ⟨c2, t2, rfl, l2⟩ := list_succ l1
  obtain ⟨c3, t3, rfl, l3⟩ := list_succ l2
  obtain ⟨c4, t4, rfl, l4⟩ := list_succ l3
  obtain ⟨c5, t5, rfl, l5⟩ := list_succ l4
  obtain ⟨c6, t6, rfl, l6⟩ := list_succ l5
  obtain ⟨c7, t7, rfl, l7⟩ := list_succ l6
  obtain ⟨c8, t8, rfl, l8⟩ := list_succ l7
  obtain rfl := list_zero l8
  obtain ⟨y0, s0, rfl, n0⟩ := list_succ (n := 4) hxs
  obtain ⟨y1, s1, rfl, n1⟩ := list_succ (n := 3) n0
  obtain ⟨y2, s2, rfl, n2⟩ := list_succ (n := 2) n1
  obtain ⟨y3, s3, rfl, n3⟩ := list_succ (n := 1) n2
  obtain ⟨y4, s4, rfl, n4⟩ := list_succ (n := 0) n3
  obtain rfl := list_zero n4
  obtain ⟨z0, e0, b0⟩ := readsInt.get (cs := [c0]) (x := y0) (by have := hf 0 _ rfl; simpa [readsInt.n, Rep.n] using this)
  obtain ⟨z1, e1, b1⟩ := readsInt.get (cs := [c1]) (x := y1) (by have := hf 1 _ rfl; simpa [readsInt.n, Rep.n] using this)
  obtain ⟨z2, e2, b2⟩ := readsStr.get (cs := [c2]) (x := y2) (by have := hf 2 _ rfl; simpa [readsStr.n, Rep.n] using this)
  obtain ⟨z3, e3, b3⟩ := readsVal.get (cs := [c3, c4, c5]) (x := y3) (by have := hf 3 _ rfl; simpa [readsVal.n, Rep.n] using this)
  obtain ⟨z4, e4, b4⟩ := readsVal.get (cs := [c6, c7, c8]) (x := y4) (by have := hf 4 _ rfl; simpa [readsVal.n, Rep.n] using this)
  obtain ⟨q0, g0⟩ := e0; simp only [List.cons.injEq, and_true] at q0; subst q0
  obtain ⟨q1, g1⟩ := e1; simp only [List.cons.injEq, and_true] at q1; subst q1
  obtain ⟨q2, g2⟩ := e2; simp only [List.cons.injEq, and_true] at q2; subst q2
  obtain ⟨q3, g3_0, g3_1, g3_2⟩ := e3
  simp only [List.cons.injEq, and_true] at q3; obtain ⟨q3_0, q3_1, q3_2⟩ := q3; subst q3_0 q3_1 q3_2
  obtain ⟨q4, g4_0, g4_1, g4_2⟩ := e4
  simp only [List.cons.injEq, and_true] at q4; obtain ⟨q4_0, q4_1, q4_2⟩ := q4; subst q4_0 q4_1 q4_2
  exact ⟨⟨z0, z1, z2, z3, z4⟩, ⟨rfl, g0, g1, g2, g3_0, g3_1, g3_2, g4_0, g4_1, g4_2⟩, by simp only [Bulk.bulk, Rows.uptoBulk, Rows.uptoBulkAll, List.map_cons, List.map_nil] at b0 b1 b2 b3 b4 ⊢; omega⟩⟩

end Go.Proofs.Ytpignflebknagaa
