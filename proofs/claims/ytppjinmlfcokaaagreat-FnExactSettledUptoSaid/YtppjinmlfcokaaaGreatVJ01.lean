/-
 THE DATA List Int: as plain Lean structures, and when a Go value reads as one. Conditions: none. Printed by gen.py.
-/
import Derived.Test.YtppjinmlfcokaaaGreatRows
import Derived.Test.YtppjinmlfcokaaaGreatVJ00
set_option linter.unusedVariables false
namespace Go.Proofs.YtppjinmlfcokaaaGreat
open Go.RowKit Go.Proofs.YtppjinmlfcokaaaGreat.Ml

theorem KZ : Da 46 (List Int) := Fx Db Tryz.underlying46 (by kernel_rfl) (by simp [Rep.n])

end Go.Proofs.YtppjinmlfcokaaaGreat
set_option linter.unusedVariables false
namespace Go.Proofs.YtppjinmlfcokaaaGreat
open Go.RowKit Go.Proofs.YtppjinmlfcokaaaGreat.Ml

structure Bg where
 kind : Int
 n : Int
 s : ByteArray
 kids : List Int
 deriving DecidableEq, Inhabited

def Bg.rep (S : Nat → Prop) (w : World) (cs : List Value) (x : Bg) : Prop := ∃ v3, cs = [Value.int .i64 x.kind, Value.int .i64 x.n, Value.string x.s, v3] ∧ (-9223372036854775808 ≤ x.kind ∧ x.kind ≤ 9223372036854775807) ∧ (-9223372036854775808 ≤ x.n ∧ x.n ≤ 9223372036854775807) ∧ x.s.size ≤ maxLen ∧ Gb S w v3 x.kids
instance : Rep Bg where
 n := 4
 rep := Bg.rep
 len := by rintro _ _ _ _ ⟨v3, rfl, _⟩; rfl
 carry := by rintro _ _ _ _ _ _ ⟨v3, rfl, h0, h1, h2, h3⟩ hS hw; exact ⟨v3, rfl, h0, h1, h2, h3.carry hS hw⟩
instance : Ac Bg := ⟨fun x => Ac.bulk x.kind + Ac.bulk x.n + Ac.bulk x.s + Ac.bulk x.kids + 1, fun _ => by omega⟩

structure Pat where
 nodes : List Bg
 deriving DecidableEq, Inhabited

def Pat.rep (S : Nat → Prop) (w : World) (cs : List Value) (x : Pat) : Prop := ∃ v0, cs = [v0] ∧ Gb S w v0 x.nodes
instance : Rep Pat where
 n := 1
 rep := Pat.rep
 len := by rintro _ _ _ _ ⟨v0, rfl, _⟩; rfl
 carry := by rintro _ _ _ _ _ _ ⟨v0, rfl, h0⟩ hS hw; exact ⟨v0, rfl, h0.carry hS hw⟩
instance : Ac Pat := ⟨fun x => Ac.bulk x.nodes + 1, fun _ => by omega⟩

theorem XS : Da 214 Bg := ⟨by kernel_rfl, fun {H enc w fuel cs x} h => by
 obtain ⟨xs, m, _, rfl, hlen, hxs, hf⟩ := DataW.trod_struct Tryz.underlying214 h
 have hn : Tryz.prog.cellsOf 214 = 4 := by kernel_rfl
 rw [hn] at hlen
 obtain ⟨c0, t0, rfl, l0⟩ := AG hlen
 obtain ⟨c1, t1, rfl, l1⟩ := AG l0
 obtain ⟨c2, t2, rfl, l2⟩ := AG l1
 obtain ⟨c3, t3, rfl, l3⟩ := AG l2
 obtain rfl := Cr l3
 obtain ⟨y0, s0, rfl, n0⟩ := AG (n := 3) hxs
 obtain ⟨y1, s1, rfl, n1⟩ := AG (n := 2) n0
 obtain ⟨y2, s2, rfl, n2⟩ := AG (n := 1) n1
 obtain ⟨y3, s3, rfl, n3⟩ := AG (n := 0) n2
 obtain rfl := Cr n3
 obtain ⟨z0, e0, b0⟩ := Db.get (cs := [c0]) (x := y0) (by have := hf 0 _ rfl; simpa [Db.n, Rep.n] using this)
 obtain ⟨z1, e1, b1⟩ := Db.get (cs := [c1]) (x := y1) (by have := hf 1 _ rfl; simpa [Db.n, Rep.n] using this)
 obtain ⟨z2, e2, b2⟩ := Fj.get (cs := [c2]) (x := y2) (by have := hf 2 _ rfl; simpa [Fj.n, Rep.n] using this)
 obtain ⟨z3, e3, b3⟩ := KZ.get (cs := [c3]) (x := y3) (by have := hf 3 _ rfl; simpa [KZ.n, Rep.n] using this)
 obtain ⟨q0, g0⟩ := e0; simp only [List.cons.injEq, and_true] at q0; subst q0
 obtain ⟨q1, g1⟩ := e1; simp only [List.cons.injEq, and_true] at q1; subst q1
 obtain ⟨q2, g2⟩ := e2; simp only [List.cons.injEq, and_true] at q2; subst q2
 obtain ⟨v3, q3, g3⟩ := e3; simp only [List.cons.injEq, and_true] at q3; subst q3
 exact ⟨⟨z0, z1, z2, z3⟩, ⟨c3, rfl, g0, g1, g2, g3⟩, by simp only [Ac.bulk, Rows.uptoBulk, Rows.uptoBulkAll, List.map_cons, List.map_nil] at b0 b1 b2 b3 ⊢; omega⟩⟩

theorem NZ : Da 166 (List Bg) := Fx XS Tryz.underlying166 (by kernel_rfl) (by simp [Rep.n])

theorem AcD : Da 168 Pat := ⟨by kernel_rfl, fun {H enc w fuel cs x} h => by
 obtain ⟨xs, m, _, rfl, hlen, hxs, hf⟩ := DataW.trod_struct Tryz.underlying168 h
 have hn : Tryz.prog.cellsOf 168 = 1 := by kernel_rfl
 rw [hn] at hlen
 obtain ⟨c0, t0, rfl, l0⟩ := AG hlen
 obtain rfl := Cr l0
 obtain ⟨y0, s0, rfl, n0⟩ := AG (n := 0) hxs
 obtain rfl := Cr n0
 obtain ⟨z0, e0, b0⟩ := NZ.get (cs := [c0]) (x := y0) (by have := hf 0 _ rfl; simpa [NZ.n, Rep.n] using this)
 obtain ⟨v0, q0, g0⟩ := e0; simp only [List.cons.injEq, and_true] at q0; subst q0
 exact ⟨⟨z0⟩, ⟨c0, rfl, g0⟩, by simp only [Ac.bulk, Rows.uptoBulk, Rows.uptoBulkAll, List.map_cons, List.map_nil] at b0 ⊢; omega⟩⟩

end Go.Proofs.YtppjinmlfcokaaaGreat
set_option linter.unusedVariables false
namespace Go.Proofs.YtppjinmlfcokaaaGreat
open Go.RowKit Go.Proofs.YtppjinmlfcokaaaGreat.Ml

theorem RF : Da 64 (List Pat) := Fx AcD Tryz.underlying64 (by kernel_rfl) (by simp [Rep.n])

end Go.Proofs.YtppjinmlfcokaaaGreat
set_option linter.unusedVariables false
namespace Go.Proofs.YtppjinmlfcokaaaGreat
open Go.RowKit Go.Proofs.YtppjinmlfcokaaaGreat.Ml

structure AY where
 var : Int
 name : ByteArray
 arity : Int
 deriving DecidableEq, Inhabited

def AY.rep (S : Nat → Prop) (w : World) (cs : List Value) (x : AY) : Prop := cs = [Value.int .i64 x.var, Value.string x.name, Value.int .i64 x.arity] ∧ (-9223372036854775808 ≤ x.var ∧ x.var ≤ 9223372036854775807) ∧ x.name.size ≤ maxLen ∧ (-9223372036854775808 ≤ x.arity ∧ x.arity ≤ 9223372036854775807)
instance : Rep AY where
 n := 3
 rep := AY.rep
 len := by rintro _ _ _ _ ⟨rfl, _⟩; rfl
 carry := by rintro _ _ _ _ _ _ ⟨rfl, h0, h1, h2⟩ hS hw; exact ⟨rfl, h0, h1, h2⟩
instance : Ac AY := ⟨fun x => Ac.bulk x.var + Ac.bulk x.name + Ac.bulk x.arity + 1, fun _ => by omega⟩

structure Ty where
 items : List AY
 deriving DecidableEq, Inhabited

def Ty.rep (S : Nat → Prop) (w : World) (cs : List Value) (x : Ty) : Prop := ∃ v0, cs = [v0] ∧ Gb S w v0 x.items
instance : Rep Ty where
 n := 1
 rep := Ty.rep
 len := by rintro _ _ _ _ ⟨v0, rfl, _⟩; rfl
 carry := by rintro _ _ _ _ _ _ ⟨v0, rfl, h0⟩ hS hw; exact ⟨v0, rfl, h0.carry hS hw⟩
instance : Ac Ty := ⟨fun x => Ac.bulk x.items + 1, fun _ => by omega⟩

theorem U0 : Da 219 AY := ⟨by kernel_rfl, fun {H enc w fuel cs x} h => by
 obtain ⟨xs, m, _, rfl, hlen, hxs, hf⟩ := DataW.trod_struct Tryz.underlying219 h
 have hn : Tryz.prog.cellsOf 219 = 3 := by kernel_rfl
 rw [hn] at hlen
 obtain ⟨c0, t0, rfl, l0⟩ := AG hlen
 obtain ⟨c1, t1, rfl, l1⟩ := AG l0
 obtain ⟨c2, t2, rfl, l2⟩ := AG l1
 obtain rfl := Cr l2
 obtain ⟨y0, s0, rfl, n0⟩ := AG (n := 2) hxs
 obtain ⟨y1, s1, rfl, n1⟩ := AG (n := 1) n0
 obtain ⟨y2, s2, rfl, n2⟩ := AG (n := 0) n1
 obtain rfl := Cr n2
 obtain ⟨z0, e0, b0⟩ := Db.get (cs := [c0]) (x := y0) (by have := hf 0 _ rfl; simpa [Db.n, Rep.n] using this)
 obtain ⟨z1, e1, b1⟩ := Fj.get (cs := [c1]) (x := y1) (by have := hf 1 _ rfl; simpa [Fj.n, Rep.n] using this)
 obtain ⟨z2, e2, b2⟩ := Db.get (cs := [c2]) (x := y2) (by have := hf 2 _ rfl; simpa [Db.n, Rep.n] using this)
 obtain ⟨q0, g0⟩ := e0; simp only [List.cons.injEq, and_true] at q0; subst q0
 obtain ⟨q1, g1⟩ := e1; simp only [List.cons.injEq, and_true] at q1; subst q1
 obtain ⟨q2, g2⟩ := e2; simp only [List.cons.injEq, and_true] at q2; subst q2
 exact ⟨⟨z0, z1, z2⟩, ⟨rfl, g0, g1, g2⟩, by simp only [Ac.bulk, Rows.uptoBulk, Rows.uptoBulkAll, List.map_cons, List.map_nil] at b0 b1 b2 ⊢; omega⟩⟩

theorem Mh : Da 160 (List AY) := Fx U0 Tryz.underlying160 (by kernel_rfl) (by simp [Rep.n])

theorem Zo : Da 162 Ty := ⟨by kernel_rfl, fun {H enc w fuel cs x} h => by
 obtain ⟨xs, m, _, rfl, hlen, hxs, hf⟩ := DataW.trod_struct Tryz.underlying162 h
 have hn : Tryz.prog.cellsOf 162 = 1 := by kernel_rfl
 rw [hn] at hlen
 obtain ⟨c0, t0, rfl, l0⟩ := AG hlen
 obtain rfl := Cr l0
 obtain ⟨y0, s0, rfl, n0⟩ := AG (n := 0) hxs
 obtain rfl := Cr n0
 obtain ⟨z0, e0, b0⟩ := Mh.get (cs := [c0]) (x := y0) (by have := hf 0 _ rfl; simpa [Mh.n, Rep.n] using this)
 obtain ⟨v0, q0, g0⟩ := e0; simp only [List.cons.injEq, and_true] at q0; subst q0
 exact ⟨⟨z0⟩, ⟨c0, rfl, g0⟩, by simp only [Ac.bulk, Rows.uptoBulk, Rows.uptoBulkAll, List.map_cons, List.map_nil] at b0 ⊢; omega⟩⟩

end Go.Proofs.YtppjinmlfcokaaaGreat
set_option linter.unusedVariables false
namespace Go.Proofs.YtppjinmlfcokaaaGreat
open Go.RowKit Go.Proofs.YtppjinmlfcokaaaGreat.Ml

structure Con where
 name : ByteArray
 has : Bool
 arg : Ty
 deriving DecidableEq, Inhabited

def Con.rep (S : Nat → Prop) (w : World) (cs : List Value) (x : Con) : Prop := ∃ v2, cs = [Value.string x.name, Value.bool x.has, v2] ∧ x.name.size ≤ maxLen ∧ Gb S w v2 x.arg.items
instance : Rep Con where
 n := 3
 rep := Con.rep
 len := by rintro _ _ _ _ ⟨v2, rfl, _⟩; rfl
 carry := by rintro _ _ _ _ _ _ ⟨v2, rfl, h0, h1⟩ hS hw; exact ⟨v2, rfl, h0, h1.carry hS hw⟩
instance : Ac Con := ⟨fun x => Ac.bulk x.name + Ac.bulk x.has + Ac.bulk x.arg + 1, fun _ => by omega⟩

structure BF where
 name : ByteArray
 params : Int
 cons : List Con
 deriving DecidableEq, Inhabited

def BF.rep (S : Nat → Prop) (w : World) (cs : List Value) (x : BF) : Prop := ∃ v2, cs = [Value.string x.name, Value.int .i64 x.params, v2] ∧ x.name.size ≤ maxLen ∧ (-9223372036854775808 ≤ x.params ∧ x.params ≤ 9223372036854775807) ∧ Gb S w v2 x.cons
instance : Rep BF where
 n := 3
 rep := BF.rep
 len := by rintro _ _ _ _ ⟨v2, rfl, _⟩; rfl
 carry := by rintro _ _ _ _ _ _ ⟨v2, rfl, h0, h1, h2⟩ hS hw; exact ⟨v2, rfl, h0, h1, h2.carry hS hw⟩
instance : Ac BF := ⟨fun x => Ac.bulk x.name + Ac.bulk x.params + Ac.bulk x.cons + 1, fun _ => by omega⟩

structure Node where
 kind : Int
 pos : Int
 n : Int
 s : ByteArray
 kids : List Int
 Ae : List Pat
 deriving DecidableEq, Inhabited

def Node.rep (S : Nat → Prop) (w : World) (cs : List Value) (x : Node) : Prop := ∃ v4 v5, cs = [Value.int .i64 x.kind, Value.int .i64 x.pos, Value.int .i64 x.n, Value.string x.s, v4, v5] ∧ (-9223372036854775808 ≤ x.kind ∧ x.kind ≤ 9223372036854775807) ∧ (-9223372036854775808 ≤ x.pos ∧ x.pos ≤ 9223372036854775807) ∧ (-9223372036854775808 ≤ x.n ∧ x.n ≤ 9223372036854775807) ∧ x.s.size ≤ maxLen ∧ Gb S w v4 x.kids ∧ Gb S w v5 x.Ae
instance : Rep Node where
 n := 6
 rep := Node.rep
 len := by rintro _ _ _ _ ⟨v4, v5, rfl, _⟩; rfl
 carry := by rintro _ _ _ _ _ _ ⟨v4, v5, rfl, h0, h1, h2, h3, h4, h5⟩ hS hw; exact ⟨v4, v5, rfl, h0, h1, h2, h3, h4.carry hS hw, h5.carry hS hw⟩
instance : Ac Node := ⟨fun x => Ac.bulk x.kind + Ac.bulk x.pos + Ac.bulk x.n + Ac.bulk x.s + Ac.bulk x.kids + Ac.bulk x.Ae + 1, fun _ => by omega⟩

structure Program where
 types : List BF
 nodes : List Node
 deriving DecidableEq, Inhabited

def Program.rep (S : Nat → Prop) (w : World) (cs : List Value) (x : Program) : Prop := ∃ v0 v1, cs = [v0, v1] ∧ Gb S w v0 x.types ∧ Gb S w v1 x.nodes
instance : Rep Program where
 n := 2
 rep := Program.rep
 len := by rintro _ _ _ _ ⟨v0, v1, rfl, _⟩; rfl
 carry := by rintro _ _ _ _ _ _ ⟨v0, v1, rfl, h0, h1⟩ hS hw; exact ⟨v0, v1, rfl, h0.carry hS hw, h1.carry hS hw⟩
instance : Ac Program := ⟨fun x => Ac.bulk x.types + Ac.bulk x.nodes + 1, fun _ => by omega⟩

theorem AcE : Da 164 Con := ⟨by kernel_rfl, fun {H enc w fuel cs x} h => by
 obtain ⟨xs, m, _, rfl, hlen, hxs, hf⟩ := DataW.trod_struct Tryz.underlying164 h
 have hn : Tryz.prog.cellsOf 164 = 3 := by kernel_rfl
 rw [hn] at hlen
 obtain ⟨c0, t0, rfl, l0⟩ := AG hlen
 obtain ⟨c1, t1, rfl, l1⟩ := AG l0
 obtain ⟨c2, t2, rfl, l2⟩ := AG l1
 obtain rfl := Cr l2
 obtain ⟨y0, s0, rfl, n0⟩ := AG (n := 2) hxs
 obtain ⟨y1, s1, rfl, n1⟩ := AG (n := 1) n0
 obtain ⟨y2, s2, rfl, n2⟩ := AG (n := 0) n1
 obtain rfl := Cr n2
 obtain ⟨z0, e0, b0⟩ := Fj.get (cs := [c0]) (x := y0) (by have := hf 0 _ rfl; simpa [Fj.n, Rep.n] using this)
 obtain ⟨z1, e1, b1⟩ := RH.get (cs := [c1]) (x := y1) (by have := hf 1 _ rfl; simpa [RH.n, Rep.n] using this)
 obtain ⟨z2, e2, b2⟩ := Zo.get (cs := [c2]) (x := y2) (by have := hf 2 _ rfl; simpa [Zo.n, Rep.n] using this)
 obtain ⟨q0, g0⟩ := e0; simp only [List.cons.injEq, and_true] at q0; subst q0
 have q1 := e1; simp only [Rep.rep, List.cons.injEq, and_true] at q1; subst q1
 obtain ⟨v2_0, q2, r2_0⟩ := e2
 simp only [List.cons.injEq, and_true] at q2; subst q2
 exact ⟨⟨z0, z1, z2⟩, ⟨c2, rfl, g0, r2_0⟩, by simp only [Ac.bulk, Rows.uptoBulk, Rows.uptoBulkAll, List.map_cons, List.map_nil] at b0 b1 b2 ⊢; omega⟩⟩

theorem RG : Da 60 (List Con) := Fx AcE Tryz.underlying60 (by kernel_rfl) (by simp [Rep.n])

theorem Abs : Da 62 BF := ⟨by kernel_rfl, fun {H enc w fuel cs x} h => by
 obtain ⟨xs, m, _, rfl, hlen, hxs, hf⟩ := DataW.trod_struct Tryz.underlying62 h
 have hn : Tryz.prog.cellsOf 62 = 3 := by kernel_rfl
 rw [hn] at hlen
 obtain ⟨c0, t0, rfl, l0⟩ := AG hlen
 obtain ⟨c1, t1, rfl, l1⟩ := AG l0
 obtain ⟨c2, t2, rfl, l2⟩ := AG l1
 obtain rfl := Cr l2
 obtain ⟨y0, s0, rfl, n0⟩ := AG (n := 2) hxs
 obtain ⟨y1, s1, rfl, n1⟩ := AG (n := 1) n0
 obtain ⟨y2, s2, rfl, n2⟩ := AG (n := 0) n1
 obtain rfl := Cr n2
 obtain ⟨z0, e0, b0⟩ := Fj.get (cs := [c0]) (x := y0) (by have := hf 0 _ rfl; simpa [Fj.n, Rep.n] using this)
 obtain ⟨z1, e1, b1⟩ := Db.get (cs := [c1]) (x := y1) (by have := hf 1 _ rfl; simpa [Db.n, Rep.n] using this)
 obtain ⟨z2, e2, b2⟩ := RG.get (cs := [c2]) (x := y2) (by have := hf 2 _ rfl; simpa [RG.n, Rep.n] using this)
 obtain ⟨q0, g0⟩ := e0; simp only [List.cons.injEq, and_true] at q0; subst q0
 obtain ⟨q1, g1⟩ := e1; simp only [List.cons.injEq, and_true] at q1; subst q1
 obtain ⟨v2, q2, g2⟩ := e2; simp only [List.cons.injEq, and_true] at q2; subst q2
 exact ⟨⟨z0, z1, z2⟩, ⟨c2, rfl, g0, g1, g2⟩, by simp only [Ac.bulk, Rows.uptoBulk, Rows.uptoBulkAll, List.map_cons, List.map_nil] at b0 b1 b2 ⊢; omega⟩⟩

theorem Abt : Da 66 Node := ⟨by kernel_rfl, fun {H enc w fuel cs x} h => by
 obtain ⟨xs, m, _, rfl, hlen, hxs, hf⟩ := DataW.trod_struct Tryz.underlying66 h
 have hn : Tryz.prog.cellsOf 66 = 6 := by kernel_rfl
 rw [hn] at hlen
 obtain ⟨c0, t0, rfl, l0⟩ := AG hlen
 obtain ⟨c1, t1, rfl, l1⟩ := AG l0
 obtain ⟨c2, t2, rfl, l2⟩ := AG l1
 obtain ⟨c3, t3, rfl, l3⟩ := AG l2
 obtain ⟨c4, t4, rfl, l4⟩ := AG l3
 obtain ⟨c5, t5, rfl, l5⟩ := AG l4
 obtain rfl := Cr l5
 obtain ⟨y0, s0, rfl, n0⟩ := AG (n := 5) hxs
 obtain ⟨y1, s1, rfl, n1⟩ := AG (n := 4) n0
 obtain ⟨y2, s2, rfl, n2⟩ := AG (n := 3) n1
 obtain ⟨y3, s3, rfl, n3⟩ := AG (n := 2) n2
 obtain ⟨y4, s4, rfl, n4⟩ := AG (n := 1) n3
 obtain ⟨y5, s5, rfl, n5⟩ := AG (n := 0) n4
 obtain rfl := Cr n5
 obtain ⟨z0, e0, b0⟩ := Db.get (cs := [c0]) (x := y0) (by have := hf 0 _ rfl; simpa [Db.n, Rep.n] using this)
 obtain ⟨z1, e1, b1⟩ := Db.get (cs := [c1]) (x := y1) (by have := hf 1 _ rfl; simpa [Db.n, Rep.n] using this)
 obtain ⟨z2, e2, b2⟩ := Db.get (cs := [c2]) (x := y2) (by have := hf 2 _ rfl; simpa [Db.n, Rep.n] using this)
 obtain ⟨z3, e3, b3⟩ := Fj.get (cs := [c3]) (x := y3) (by have := hf 3 _ rfl; simpa [Fj.n, Rep.n] using this)
 obtain ⟨z4, e4, b4⟩ := KZ.get (cs := [c4]) (x := y4) (by have := hf 4 _ rfl; simpa [KZ.n, Rep.n] using this)
 obtain ⟨z5, e5, b5⟩ := RF.get (cs := [c5]) (x := y5) (by have := hf 5 _ rfl; simpa [RF.n, Rep.n] using this)
 obtain ⟨q0, g0⟩ := e0; simp only [List.cons.injEq, and_true] at q0; subst q0
 obtain ⟨q1, g1⟩ := e1; simp only [List.cons.injEq, and_true] at q1; subst q1
 obtain ⟨q2, g2⟩ := e2; simp only [List.cons.injEq, and_true] at q2; subst q2
 obtain ⟨q3, g3⟩ := e3; simp only [List.cons.injEq, and_true] at q3; subst q3
 obtain ⟨v4, q4, g4⟩ := e4; simp only [List.cons.injEq, and_true] at q4; subst q4
 obtain ⟨v5, q5, g5⟩ := e5; simp only [List.cons.injEq, and_true] at q5; subst q5
 exact ⟨⟨z0, z1, z2, z3, z4, z5⟩, ⟨c4, c5, rfl, g0, g1, g2, g3, g4, g5⟩, by simp only [Ac.bulk, Rows.uptoBulk, Rows.uptoBulkAll, List.map_cons, List.map_nil] at b0 b1 b2 b3 b4 b5 ⊢; omega⟩⟩

theorem Pp : Da 22 (List BF) := Fx Abs Tryz.underlying22 (by kernel_rfl) (by simp [Rep.n])

theorem Pq : Da 23 (List Node) := Fx Abt Tryz.underlying23 (by kernel_rfl) (by simp [Rep.n])

theorem Tt : Da 25 Program := ⟨by kernel_rfl, fun {H enc w fuel cs x} h => by
 obtain ⟨xs, m, _, rfl, hlen, hxs, hf⟩ := DataW.trod_struct Tryz.underlying25 h
 have hn : Tryz.prog.cellsOf 25 = 2 := by kernel_rfl
 rw [hn] at hlen
 obtain ⟨c0, t0, rfl, l0⟩ := AG hlen
 obtain ⟨c1, t1, rfl, l1⟩ := AG l0
 obtain rfl := Cr l1
 obtain ⟨y0, s0, rfl, n0⟩ := AG (n := 1) hxs
 obtain ⟨y1, s1, rfl, n1⟩ := AG (n := 0) n0
 obtain rfl := Cr n1
 obtain ⟨z0, e0, b0⟩ := Pp.get (cs := [c0]) (x := y0) (by have := hf 0 _ rfl; simpa [Pp.n, Rep.n] using this)
 obtain ⟨z1, e1, b1⟩ := Pq.get (cs := [c1]) (x := y1) (by have := hf 1 _ rfl; simpa [Pq.n, Rep.n] using this)
 obtain ⟨v0, q0, g0⟩ := e0; simp only [List.cons.injEq, and_true] at q0; subst q0
 obtain ⟨v1, q1, g1⟩ := e1; simp only [List.cons.injEq, and_true] at q1; subst q1
 exact ⟨⟨z0, z1⟩, ⟨c0, c1, rfl, g0, g1⟩, by simp only [Ac.bulk, Rows.uptoBulk, Rows.uptoBulkAll, List.map_cons, List.map_nil] at b0 b1 ⊢; omega⟩⟩

end Go.Proofs.YtppjinmlfcokaaaGreat
