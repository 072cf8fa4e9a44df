/-
  THE DATA Ins: as plain Lean structures, and when a Go value reads as one. Conditions: none. Printed by gen.py.
-/
import Derived.Test.YtbgphlpiknnajaaRows
import Derived.Test.YtbgphlpiknnajaaBase
import Derived.Test.YtbgphlpiknnajaaReads
set_option linter.unusedVariables false
namespace Go.Proofs.Ytbgphlpiknnajaa
open Go.RowKit Go.Proofs.Ytbgphlpiknnajaa.Ml

structure Ins where
  op : Int
  a : Int
  b : Int
  s : ByteArray
  deriving DecidableEq, Inhabited

def Ins.rep (S : Nat → Prop) (w : World) (cs : List Value) (x : Ins) : Prop := cs = [Value.int .i64 x.op, Value.int .i64 x.a, Value.int .i64 x.b, Value.string x.s] ∧ (-9223372036854775808 ≤ x.op ∧ x.op ≤ 9223372036854775807) ∧ (-9223372036854775808 ≤ x.a ∧ x.a ≤ 9223372036854775807) ∧ (-9223372036854775808 ≤ x.b ∧ x.b ≤ 9223372036854775807) ∧ x.s.size ≤ maxLen
instance : Rep Ins where
  n := 4
  rep := Ins.rep
  len := by rintro _ _ _ _ ⟨rfl, _⟩; rfl
  carry := by rintro _ _ _ _ _ _ ⟨rfl, h0, h1, h2, h3⟩ hS hw; exact ⟨rfl, h0, h1, h2, h3⟩
theorem Ins.form {S : Nat → Prop} {w : World} {cs : List Value} {x : Ins} (h : Rep.rep S w cs x) : cs = [Value.int .i64 x.op, Value.int .i64 x.a, Value.int .i64 x.b, Value.string x.s] ∧ (-9223372036854775808 ≤ x.op ∧ x.op ≤ 9223372036854775807) ∧ (-9223372036854775808 ≤ x.a ∧ x.a ≤ 9223372036854775807) ∧ (-9223372036854775808 ≤ x.b ∧ x.b ≤ 9223372036854775807) ∧ x.s.size ≤ maxLen := by
  obtain ⟨rfl, h0, h1, h2, h3⟩ := h
  exact ⟨rfl, h0, h1, h2, h3⟩
instance : Bulk Ins := ⟨fun x => Bulk.bulk x.op + Bulk.bulk x.a + Bulk.bulk x.b + Bulk.bulk x.s + 1, fun _ => by omega⟩

theorem readsIns : ReadsAs 23 Ins := ⟨by kernel_rfl, fun {H enc w fuel cs x} h => by
  obtain ⟨xs, m, _, rfl, hlen, hxs, hf⟩ := DataW.trod_struct Try.underlying23 h
  have hn : Try.prog.cellsOf 23 = 4 := by kernel_rfl
  rw [hn] at hlen
  obtain ⟨c0, t0, rfl, l0⟩ := list_succ hlen
  obtain ⟨c1, t1, rfl, l1⟩ := list_succ l0
  obtain ⟨c2, t2, rfl, l2⟩ := list_succ l1
  obtain ⟨c3, t3, rfl, l3⟩ := list_succ l2
  obtain rfl := list_zero l3
  obtain ⟨y0, s0, rfl, n0⟩ := list_succ (n := 3) hxs
  obtain ⟨y1, s1, rfl, n1⟩ := list_succ (n := 2) n0
  obtain ⟨y2, s2, rfl, n2⟩ := list_succ (n := 1) n1
  obtain ⟨y3, s3, rfl, n3⟩ := list_succ (n := 0) n2
  obtain rfl := list_zero n3
  obtain ⟨z0, e0, b0⟩ := readsInt.get (cs := [c0]) (x := y0) (by have := hf 0 _ rfl; simpa [readsInt.n, Rep.n] using this)
  obtain ⟨z1, e1, b1⟩ := readsInt.get (cs := [c1]) (x := y1) (by have := hf 1 _ rfl; simpa [readsInt.n, Rep.n] using this)
  obtain ⟨z2, e2, b2⟩ := readsInt.get (cs := [c2]) (x := y2) (by have := hf 2 _ rfl; simpa [readsInt.n, Rep.n] using this)
  obtain ⟨z3, e3, b3⟩ := readsStr.get (cs := [c3]) (x := y3) (by have := hf 3 _ rfl; simpa [readsStr.n, Rep.n] using this)
  obtain ⟨q0, g0⟩ := e0; simp only [List.cons.injEq, and_true] at q0; subst q0
  obtain ⟨q1, g1⟩ := e1; simp only [List.cons.injEq, and_true] at q1; subst q1
  obtain ⟨q2, g2⟩ := e2; simp only [List.cons.injEq, and_true] at q2; subst q2
  obtain ⟨q3, g3⟩ := e3; simp only [List.cons.injEq, and_true] at q3; subst q3
  exact ⟨⟨z0, z1, z2, z3⟩, ⟨rfl, g0, g1, g2, g3⟩, by simp only [Bulk.bulk, Rows.uptoBulk, Rows.uptoBulkAll, List.map_cons, List.map_nil] at b0 b1 b2 b3 ⊢; omega⟩⟩

end Go.Proofs.Ytbgphlpiknnajaa
