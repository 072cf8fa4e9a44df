/-
  THE DATA TyItem, Ty: as plain Lean structures, and when a Go value reads as one. Conditions: none. Printed by gen.py.
-/
import Derived.Test.YtpomnlejlgojaaaGreatRows
import Derived.Test.YtpomnlejlgojaaaGreatBase
import Derived.Test.YtpomnlejlgojaaaGreatReads
set_option linter.unusedVariables false
namespace Go.Proofs.YtpomnlejlgojaaaGreat
open Go.RowKit Go.Proofs.YtpomnlejlgojaaaGreat.Ml

structure TyItem where
  var : Int
  name : ByteArray
  arity : Int
  deriving DecidableEq, Inhabited

def TyItem.rep (S : Nat → Prop) (w : World) (cs : List Value) (x : TyItem) : Prop := cs = [Value.int .i64 x.var, Value.string x.name, Value.int .i64 x.arity] ∧ (-9223372036854775808 ≤ x.var ∧ x.var ≤ 9223372036854775807) ∧ x.name.size ≤ maxLen ∧ (-9223372036854775808 ≤ x.arity ∧ x.arity ≤ 9223372036854775807)
instance : Rep TyItem where
  n := 3
  rep := TyItem.rep
  len := by rintro _ _ _ _ ⟨rfl, _⟩; rfl
  carry := by rintro _ _ _ _ _ _ ⟨rfl, h0, h1, h2⟩ hS hw; exact ⟨rfl, h0, h1, h2⟩
theorem TyItem.form {S : Nat → Prop} {w : World} {cs : List Value} {x : TyItem} (h : Rep.rep S w cs x) : cs = [Value.int .i64 x.var, Value.string x.name, Value.int .i64 x.arity] ∧ (-9223372036854775808 ≤ x.var ∧ x.var ≤ 9223372036854775807) ∧ x.name.size ≤ maxLen ∧ (-9223372036854775808 ≤ x.arity ∧ x.arity ≤ 9223372036854775807) := by
  obtain ⟨rfl, h0, h1, h2⟩ := h
  exact ⟨rfl, h0, h1, h2⟩
instance : Bulk TyItem := ⟨fun x => Bulk.bulk x.var + Bulk.bulk x.name + Bulk.bulk x.arity + 1, fun _ => by omega⟩

structure Ty where
  items : List TyItem
  deriving DecidableEq, Inhabited

def Ty.rep (S : Nat → Prop) (w : World) (cs : List Value) (x : Ty) : Prop := ∃ v0, cs = [v0] ∧ RepSl S w v0 x.items
instance : Rep Ty where
  n := 1
  rep := Ty.rep
  len := by rintro _ _ _ _ ⟨v0, rfl, _⟩; rfl
  carry := by rintro _ _ _ _ _ _ ⟨v0, rfl, h0⟩ hS hw; exact ⟨v0, rfl, h0.carry hS hw⟩
theorem Ty.form {S : Nat → Prop} {w : World} {cs : List Value} {x : Ty} (h : Rep.rep S w cs x) : ∃ a0 c0, cs = [Value.slice a0 x.items.length c0] ∧ RepSl S w (.slice a0 x.items.length c0) x.items := by
  obtain ⟨v0, rfl, h0⟩ := h
  obtain ⟨a0, c0, rfl⟩ := h0.form
  exact ⟨a0, c0, rfl, h0⟩
instance : Bulk Ty := ⟨fun x => Bulk.bulk x.items + 1, fun _ => by omega⟩

theorem readsTyItem : ReadsAs 245 TyItem := ⟨by kernel_rfl, fun {H enc w fuel cs x} h => by
  obtain ⟨xs, m, _, rfl, hlen, hxs, hf⟩ := DataW.trod_struct Tryz.underlying245 h
  have hn : Tryz.prog.cellsOf 245 = 3 := by kernel_rfl
  rw [hn] at hlen
  obtain ⟨c0, t0, rfl, l0⟩ := list_succ hlen
  obtain ⟨c1, t1, rfl, l1⟩ := list_succ l0
  obtain ⟨c2, t2, rfl, l2⟩ := list_succ l1
  obtain rfl := list_zero l2
  obtain ⟨y0, s0, rfl, n0⟩ := list_succ (n := 2) hxs
  obtain ⟨y1, s1, rfl, n1⟩ := list_succ (n := 1) n0
  obtain ⟨y2, s2, rfl, n2⟩ := list_succ (n := 0) n1
  obtain rfl := list_zero n2
  obtain ⟨z0, e0, b0⟩ := readsInt.get (cs := [c0]) (x := y0) (by have := hf 0 _ rfl; simpa [readsInt.n, Rep.n] using this)
  obtain ⟨z1, e1, b1⟩ := readsStr.get (cs := [c1]) (x := y1) (by have := hf 1 _ rfl; simpa [readsStr.n, Rep.n] using this)
  obtain ⟨z2, e2, b2⟩ := readsInt.get (cs := [c2]) (x := y2) (by have := hf 2 _ rfl; simpa [readsInt.n, Rep.n] using this)
  obtain ⟨q0, g0⟩ := e0; simp only [List.cons.injEq, and_true] at q0; subst q0
  obtain ⟨q1, g1⟩ := e1; simp only [List.cons.injEq, and_true] at q1; subst q1
  obtain ⟨q2, g2⟩ := e2; simp only [List.cons.injEq, and_true] at q2; subst q2
  exact ⟨⟨z0, z1, z2⟩, ⟨rfl, g0, g1, g2⟩, by simp only [Bulk.bulk, Rows.uptoBulk, Rows.uptoBulkAll, List.map_cons, List.map_nil] at b0 b1 b2 ⊢; omega⟩⟩

theorem readsTyItemS : ReadsAs 203 (List TyItem) := readsSlice readsTyItem Tryz.underlying203 (by kernel_rfl) (by simp [Rep.n])

theorem readsTy : ReadsAs 205 Ty := ⟨by kernel_rfl, fun {H enc w fuel cs x} h => by
  obtain ⟨xs, m, _, rfl, hlen, hxs, hf⟩ := DataW.trod_struct Tryz.underlying205 h
  have hn : Tryz.prog.cellsOf 205 = 1 := by kernel_rfl
  rw [hn] at hlen
  obtain ⟨c0, t0, rfl, l0⟩ := list_succ hlen
  obtain rfl := list_zero l0
  obtain ⟨y0, s0, rfl, n0⟩ := list_succ (n := 0) hxs
  obtain rfl := list_zero n0
  obtain ⟨z0, e0, b0⟩ := readsTyItemS.get (cs := [c0]) (x := y0) (by have := hf 0 _ rfl; simpa [readsTyItemS.n, Rep.n] using this)
  obtain ⟨v0, q0, g0⟩ := e0; simp only [List.cons.injEq, and_true] at q0; subst q0
  exact ⟨⟨z0⟩, ⟨c0, rfl, g0⟩, by simp only [Bulk.bulk, Rows.uptoBulk, Rows.uptoBulkAll, List.map_cons, List.map_nil] at b0 ⊢; omega⟩⟩

end Go.Proofs.YtpomnlejlgojaaaGreat
