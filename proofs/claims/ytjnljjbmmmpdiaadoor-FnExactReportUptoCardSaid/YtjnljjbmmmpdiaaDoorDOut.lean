/-
 THE DATA Outcome: as plain Lean structures, and when a Go value reads as one. Conditions: none. Printed by gen.py.
-/
import Derived.Test.YtjnljjbmmmpdiaaDoorRows
import Derived.Test.YtjnljjbmmmpdiaaDoorBase
import Derived.Test.YtjnljjbmmmpdiaaDoorReads
import Derived.Test.YtjnljjbmmmpdiaaDoorDStr
set_option linter.unusedVariables false
namespace Go.Proofs.YtjnljjbmmmpdiaaDoor
open Go.RowKit Go.Proofs.YtjnljjbmmmpdiaaDoor.Ml

structure Outcome where
 kind : Int
 n : Int
 trace : List ByteArray
 steps : Int
 deriving DecidableEq, Inhabited

def Outcome.rep (S : Nat → Prop) (w : World) (cs : List Value) (x : Outcome) : Prop := ∃ v2, cs = [Value.int .i64 x.kind, Value.int .i64 x.n, v2, Value.int .i64 x.steps] ∧ (-9223372036854775808 ≤ x.kind ∧ x.kind ≤ 9223372036854775807) ∧ (-9223372036854775808 ≤ x.n ∧ x.n ≤ 9223372036854775807) ∧ (-9223372036854775808 ≤ x.steps ∧ x.steps ≤ 9223372036854775807) ∧ RepSl S w v2 x.trace
instance : Rep Outcome where
 n := 4
 rep := Outcome.rep
 len := by rintro _ _ _ _ ⟨v2, rfl, _⟩; rfl
 carry := by rintro _ _ _ _ _ _ ⟨v2, rfl, h0, h1, h2, h3⟩ hS hw; exact ⟨v2, rfl, h0, h1, h2, h3.carry hS hw⟩
theorem Outcome.form {S : Nat → Prop} {w : World} {cs : List Value} {x : Outcome} (h : Rep.rep S w cs x) : ∃ a2 c2, cs = [Value.int .i64 x.kind, Value.int .i64 x.n, Value.slice a2 x.trace.length c2, Value.int .i64 x.steps] ∧ (-9223372036854775808 ≤ x.kind ∧ x.kind ≤ 9223372036854775807) ∧ (-9223372036854775808 ≤ x.n ∧ x.n ≤ 9223372036854775807) ∧ (-9223372036854775808 ≤ x.steps ∧ x.steps ≤ 9223372036854775807) ∧ RepSl S w (.slice a2 x.trace.length c2) x.trace := by
 obtain ⟨v2, rfl, h0, h1, h2, h3⟩ := h
 obtain ⟨a2, c2, rfl⟩ := h3.form
 exact ⟨a2, c2, rfl, h0, h1, h2, h3⟩
instance : Bulk Outcome := ⟨fun x => Bulk.bulk x.kind + Bulk.bulk x.n + Bulk.bulk x.trace + Bulk.bulk x.steps + 1, fun _ => by omega⟩

theorem readsOutcome : ReadsAs 24 Outcome := ⟨by kernel_rfl, fun {H enc w fuel cs x} h => by
 obtain ⟨xs, m, _, rfl, hlen, hxs, hf⟩ := DataW.trod_struct Tryd.underlying24 h
 have hn : Tryd.prog.cellsOf 24 = 4 := by kernel_rfl
 rw [hn] at hlen
 obtain ⟨c0, t0, rfl, l0⟩ := list_succ hlen
 obtain ⟨c1, t1, rfl, l1⟩ := list_succ l0
 obtain ⟨c2, t2, rfl, l2⟩ := list_succ l1
 obtain ⟨c3, t3, rfl, l3⟩ := list_succ l2
 obtain rfl := list_zero l3
 obtain ⟨y0, s0, rfl, n0⟩ := list_succ (n := 3) hxs
 obtain ⟨y1, s1, rfl, n1⟩ := list_succ (n := 2) n0
 obtain ⟨y2, s2, rfl, n2⟩ := list_succ (n := 1) n1
 obtain ⟨y3, s3, rfl, n3⟩ := list_succ (n := 0) n2
 obtain rfl := list_zero n3
 obtain ⟨z0, e0, b0⟩ := readsInt.get (cs := [c0]) (x := y0) (by have := hf 0 _ rfl; simpa [readsInt.n, Rep.n] using this)
 obtain ⟨z1, e1, b1⟩ := readsInt.get (cs := [c1]) (x := y1) (by have := hf 1 _ rfl; simpa [readsInt.n, Rep.n] using this)
 obtain ⟨z2, e2, b2⟩ := readsStringS.get (cs := [c2]) (x := y2) (by have := hf 2 _ rfl; simpa [readsStringS.n, Rep.n] using this)
 obtain ⟨z3, e3, b3⟩ := readsInt.get (cs := [c3]) (x := y3) (by have := hf 3 _ rfl; simpa [readsInt.n, Rep.n] using this)
 obtain ⟨q0, g0⟩ := e0; simp only [List.cons.injEq, and_true] at q0; subst q0
 obtain ⟨q1, g1⟩ := e1; simp only [List.cons.injEq, and_true] at q1; subst q1
 obtain ⟨v2, q2, g2⟩ := e2; simp only [List.cons.injEq, and_true] at q2; subst q2
 obtain ⟨q3, g3⟩ := e3; simp only [List.cons.injEq, and_true] at q3; subst q3
 exact ⟨⟨z0, z1, z2, z3⟩, ⟨c2, rfl, g0, g1, g3, g2⟩, by simp only [Bulk.bulk, Rows.uptoBulk, Rows.uptoBulkAll, List.map_cons, List.map_nil] at b0 b1 b2 b3 ⊢; omega⟩⟩

end Go.Proofs.YtjnljjbmmmpdiaaDoor
