/-
 THE DATA List Int: as plain Lean structures, and when a Go value reads as one. Conditions: none. Printed by gen.py.
-/
import Derived.Test.YtppjinmlfcokaaaGreatRows
import Derived.Test.YtppjinmlfcokaaaGreatJJ00
set_option linter.unusedVariables false
namespace Go.Proofs.YtppjinmlfcokaaaGreat
open Go.RowKit Go.Proofs.YtppjinmlfcokaaaGreat.Ml

theorem Lk : C7 46 (List Int) := Fx Cx Tryz.underlying46 (by kernel_rfl) (by simp [Rep.n])

end Go.Proofs.YtppjinmlfcokaaaGreat
set_option linter.unusedVariables false
namespace Go.Proofs.YtppjinmlfcokaaaGreat
open Go.RowKit Go.Proofs.YtppjinmlfcokaaaGreat.Ml

structure Bu where
 kind : Int
 n : Int
 s : ByteArray
 kids : List Int
 deriving DecidableEq, Inhabited

def Bu.rep (S : Nat → Prop) (w : World) (cs : List Value) (x : Bu) : Prop := ∃ v3, cs = [Value.int .i64 x.kind, Value.int .i64 x.n, Value.string x.s, v3] ∧ (-9223372036854775808 ≤ x.kind ∧ x.kind ≤ 9223372036854775807) ∧ (-9223372036854775808 ≤ x.n ∧ x.n ≤ 9223372036854775807) ∧ x.s.size ≤ maxLen ∧ Ga S w v3 x.kids
instance : Rep Bu where
 n := 4
 rep := Bu.rep
 len := by rintro _ _ _ _ ⟨v3, rfl, _⟩; rfl
 carry := by rintro _ _ _ _ _ _ ⟨v3, rfl, h0, h1, h2, h3⟩ hS hw; exact ⟨v3, rfl, h0, h1, h2, h3.carry hS hw⟩
instance : Ac Bu := ⟨fun x => Ac.bulk x.kind + Ac.bulk x.n + Ac.bulk x.s + Ac.bulk x.kids + 1, fun _ => by omega⟩

structure Pat where
 nodes : List Bu
 deriving DecidableEq, Inhabited

def Pat.rep (S : Nat → Prop) (w : World) (cs : List Value) (x : Pat) : Prop := ∃ v0, cs = [v0] ∧ Ga S w v0 x.nodes
instance : Rep Pat where
 n := 1
 rep := Pat.rep
 len := by rintro _ _ _ _ ⟨v0, rfl, _⟩; rfl
 carry := by rintro _ _ _ _ _ _ ⟨v0, rfl, h0⟩ hS hw; exact ⟨v0, rfl, h0.carry hS hw⟩
instance : Ac Pat := ⟨fun x => Ac.bulk x.nodes + 1, fun _ => by omega⟩

theorem XO : C7 214 Bu := ⟨by kernel_rfl, fun {H enc w fuel cs x} h => by
 obtain ⟨xs, m, _, rfl, hlen, hxs, hf⟩ := DataW.trod_struct Tryz.underlying214 h
 have hn : Tryz.prog.cellsOf 214 = 4 := by kernel_rfl
 rw [hn] at hlen
 obtain ⟨c0, t0, rfl, l0⟩ := AL hlen
 obtain ⟨c1, t1, rfl, l1⟩ := AL l0
 obtain ⟨c2, t2, rfl, l2⟩ := AL l1
 obtain ⟨c3, t3, rfl, l3⟩ := AL l2
 obtain rfl := Cs l3
 obtain ⟨y0, s0, rfl, n0⟩ := AL (n := 3) hxs
 obtain ⟨y1, s1, rfl, n1⟩ := AL (n := 2) n0
 obtain ⟨y2, s2, rfl, n2⟩ := AL (n := 1) n1
 obtain ⟨y3, s3, rfl, n3⟩ := AL (n := 0) n2
 obtain rfl := Cs n3
 obtain ⟨z0, e0, b0⟩ := Cx.get (cs := [c0]) (x := y0) (by have := hf 0 _ rfl; simpa [Cx.n, Rep.n] using this)
 obtain ⟨z1, e1, b1⟩ := Cx.get (cs := [c1]) (x := y1) (by have := hf 1 _ rfl; simpa [Cx.n, Rep.n] using this)
 obtain ⟨z2, e2, b2⟩ := Ff.get (cs := [c2]) (x := y2) (by have := hf 2 _ rfl; simpa [Ff.n, Rep.n] using this)
 obtain ⟨z3, e3, b3⟩ := Lk.get (cs := [c3]) (x := y3) (by have := hf 3 _ rfl; simpa [Lk.n, Rep.n] using this)
 obtain ⟨q0, g0⟩ := e0; simp only [List.cons.injEq, and_true] at q0; subst q0
 obtain ⟨q1, g1⟩ := e1; simp only [List.cons.injEq, and_true] at q1; subst q1
 obtain ⟨q2, g2⟩ := e2; simp only [List.cons.injEq, and_true] at q2; subst q2
 obtain ⟨v3, q3, g3⟩ := e3; simp only [List.cons.injEq, and_true] at q3; subst q3
 exact ⟨⟨z0, z1, z2, z3⟩, ⟨c3, rfl, g0, g1, g2, g3⟩, by simp only [Ac.bulk, Rows.uptoBulk, Rows.uptoBulkAll, List.map_cons, List.map_nil] at b0 b1 b2 b3 ⊢; omega⟩⟩

theorem Oe : C7 166 (List Bu) := Fx XO Tryz.underlying166 (by kernel_rfl) (by simp [Rep.n])

theorem Ace : C7 168 Pat := ⟨by kernel_rfl, fun {H enc w fuel cs x} h => by
 obtain ⟨xs, m, _, rfl, hlen, hxs, hf⟩ := DataW.trod_struct Tryz.underlying168 h
 have hn : Tryz.prog.cellsOf 168 = 1 := by kernel_rfl
 rw [hn] at hlen
 obtain ⟨c0, t0, rfl, l0⟩ := AL hlen
 obtain rfl := Cs l0
 obtain ⟨y0, s0, rfl, n0⟩ := AL (n := 0) hxs
 obtain rfl := Cs n0
 obtain ⟨z0, e0, b0⟩ := Oe.get (cs := [c0]) (x := y0) (by have := hf 0 _ rfl; simpa [Oe.n, Rep.n] using this)
 obtain ⟨v0, q0, g0⟩ := e0; simp only [List.cons.injEq, and_true] at q0; subst q0
 exact ⟨⟨z0⟩, ⟨c0, rfl, g0⟩, by simp only [Ac.bulk, Rows.uptoBulk, Rows.uptoBulkAll, List.map_cons, List.map_nil] at b0 ⊢; omega⟩⟩

end Go.Proofs.YtppjinmlfcokaaaGreat
set_option linter.unusedVariables false
namespace Go.Proofs.YtppjinmlfcokaaaGreat
open Go.RowKit Go.Proofs.YtppjinmlfcokaaaGreat.Ml

theorem RK : C7 64 (List Pat) := Fx Ace Tryz.underlying64 (by kernel_rfl) (by simp [Rep.n])

end Go.Proofs.YtppjinmlfcokaaaGreat
set_option linter.unusedVariables false
namespace Go.Proofs.YtppjinmlfcokaaaGreat
open Go.RowKit Go.Proofs.YtppjinmlfcokaaaGreat.Ml

structure Bb where
 var : Int
 name : ByteArray
 arity : Int
 deriving DecidableEq, Inhabited

def Bb.rep (S : Nat → Prop) (w : World) (cs : List Value) (x : Bb) : Prop := cs = [Value.int .i64 x.var, Value.string x.name, Value.int .i64 x.arity] ∧ (-9223372036854775808 ≤ x.var ∧ x.var ≤ 9223372036854775807) ∧ x.name.size ≤ maxLen ∧ (-9223372036854775808 ≤ x.arity ∧ x.arity ≤ 9223372036854775807)
instance : Rep Bb where
 n := 3
 rep := Bb.rep
 len := by rintro _ _ _ _ ⟨rfl, _⟩; rfl
 carry := by rintro _ _ _ _ _ _ ⟨rfl, h0, h1, h2⟩ hS hw; exact ⟨rfl, h0, h1, h2⟩
instance : Ac Bb := ⟨fun x => Ac.bulk x.var + Ac.bulk x.name + Ac.bulk x.arity + 1, fun _ => by omega⟩

structure Ty where
 items : List Bb
 deriving DecidableEq, Inhabited

def Ty.rep (S : Nat → Prop) (w : World) (cs : List Value) (x : Ty) : Prop := ∃ v0, cs = [v0] ∧ Ga S w v0 x.items
instance : Rep Ty where
 n := 1
 rep := Ty.rep
 len := by rintro _ _ _ _ ⟨v0, rfl, _⟩; rfl
 carry := by rintro _ _ _ _ _ _ ⟨v0, rfl, h0⟩ hS hw; exact ⟨v0, rfl, h0.carry hS hw⟩
instance : Ac Ty := ⟨fun x => Ac.bulk x.items + 1, fun _ => by omega⟩

theorem UX : C7 219 Bb := ⟨by kernel_rfl, fun {H enc w fuel cs x} h => by
 obtain ⟨xs, m, _, rfl, hlen, hxs, hf⟩ := DataW.trod_struct Tryz.underlying219 h
 have hn : Tryz.prog.cellsOf 219 = 3 := by kernel_rfl
 rw [hn] at hlen
 obtain ⟨c0, t0, rfl, l0⟩ := AL hlen
 obtain ⟨c1, t1, rfl, l1⟩ := AL l0
 obtain ⟨c2, t2, rfl, l2⟩ := AL l1
 obtain rfl := Cs l2
 obtain ⟨y0, s0, rfl, n0⟩ := AL (n := 2) hxs
 obtain ⟨y1, s1, rfl, n1⟩ := AL (n := 1) n0
 obtain ⟨y2, s2, rfl, n2⟩ := AL (n := 0) n1
 obtain rfl := Cs n2
 obtain ⟨z0, e0, b0⟩ := Cx.get (cs := [c0]) (x := y0) (by have := hf 0 _ rfl; simpa [Cx.n, Rep.n] using this)
 obtain ⟨z1, e1, b1⟩ := Ff.get (cs := [c1]) (x := y1) (by have := hf 1 _ rfl; simpa [Ff.n, Rep.n] using this)
 obtain ⟨z2, e2, b2⟩ := Cx.get (cs := [c2]) (x := y2) (by have := hf 2 _ rfl; simpa [Cx.n, Rep.n] using this)
 obtain ⟨q0, g0⟩ := e0; simp only [List.cons.injEq, and_true] at q0; subst q0
 obtain ⟨q1, g1⟩ := e1; simp only [List.cons.injEq, and_true] at q1; subst q1
 obtain ⟨q2, g2⟩ := e2; simp only [List.cons.injEq, and_true] at q2; subst q2
 exact ⟨⟨z0, z1, z2⟩, ⟨rfl, g0, g1, g2⟩, by simp only [Ac.bulk, Rows.uptoBulk, Rows.uptoBulkAll, List.map_cons, List.map_nil] at b0 b1 b2 ⊢; omega⟩⟩

theorem My : C7 160 (List Bb) := Fx UX Tryz.underlying160 (by kernel_rfl) (by simp [Rep.n])

theorem Y6 : C7 162 Ty := ⟨by kernel_rfl, fun {H enc w fuel cs x} h => by
 obtain ⟨xs, m, _, rfl, hlen, hxs, hf⟩ := DataW.trod_struct Tryz.underlying162 h
 have hn : Tryz.prog.cellsOf 162 = 1 := by kernel_rfl
 rw [hn] at hlen
 obtain ⟨c0, t0, rfl, l0⟩ := AL hlen
 obtain rfl := Cs l0
 obtain ⟨y0, s0, rfl, n0⟩ := AL (n := 0) hxs
 obtain rfl := Cs n0
 obtain ⟨z0, e0, b0⟩ := My.get (cs := [c0]) (x := y0) (by have := hf 0 _ rfl; simpa [My.n, Rep.n] using this)
 obtain ⟨v0, q0, g0⟩ := e0; simp only [List.cons.injEq, and_true] at q0; subst q0
 exact ⟨⟨z0⟩, ⟨c0, rfl, g0⟩, by simp only [Ac.bulk, Rows.uptoBulk, Rows.uptoBulkAll, List.map_cons, List.map_nil] at b0 ⊢; omega⟩⟩

end Go.Proofs.YtppjinmlfcokaaaGreat
set_option linter.unusedVariables false
namespace Go.Proofs.YtppjinmlfcokaaaGreat
open Go.RowKit Go.Proofs.YtppjinmlfcokaaaGreat.Ml

structure Con where
 name : ByteArray
 has : Bool
 arg : Ty
 deriving DecidableEq, Inhabited

def Con.rep (S : Nat → Prop) (w : World) (cs : List Value) (x : Con) : Prop := ∃ v2, cs = [Value.string x.name, Value.bool x.has, v2] ∧ x.name.size ≤ maxLen ∧ Ga S w v2 x.arg.items
instance : Rep Con where
 n := 3
 rep := Con.rep
 len := by rintro _ _ _ _ ⟨v2, rfl, _⟩; rfl
 carry := by rintro _ _ _ _ _ _ ⟨v2, rfl, h0, h1⟩ hS hw; exact ⟨v2, rfl, h0, h1.carry hS hw⟩
instance : Ac Con := ⟨fun x => Ac.bulk x.name + Ac.bulk x.has + Ac.bulk x.arg + 1, fun _ => by omega⟩

structure BK where
 name : ByteArray
 params : Int
 cons : List Con
 deriving DecidableEq, Inhabited

def BK.rep (S : Nat → Prop) (w : World) (cs : List Value) (x : BK) : Prop := ∃ v2, cs = [Value.string x.name, Value.int .i64 x.params, v2] ∧ x.name.size ≤ maxLen ∧ (-9223372036854775808 ≤ x.params ∧ x.params ≤ 9223372036854775807) ∧ Ga S w v2 x.cons
instance : Rep BK where
 n := 3
 rep := BK.rep
 len := by rintro _ _ _ _ ⟨v2, rfl, _⟩; rfl
 carry := by rintro _ _ _ _ _ _ ⟨v2, rfl, h0, h1, h2⟩ hS hw; exact ⟨v2, rfl, h0, h1, h2.carry hS hw⟩
instance : Ac BK := ⟨fun x => Ac.bulk x.name + Ac.bulk x.params + Ac.bulk x.cons + 1, fun _ => by omega⟩

structure Node where
 kind : Int
 pos : Int
 n : Int
 s : ByteArray
 kids : List Int
 Ai : List Pat
 deriving DecidableEq, Inhabited

def Node.rep (S : Nat → Prop) (w : World) (cs : List Value) (x : Node) : Prop := ∃ v4 v5, cs = [Value.int .i64 x.kind, Value.int .i64 x.pos, Value.int .i64 x.n, Value.string x.s, v4, v5] ∧ (-9223372036854775808 ≤ x.kind ∧ x.kind ≤ 9223372036854775807) ∧ (-9223372036854775808 ≤ x.pos ∧ x.pos ≤ 9223372036854775807) ∧ (-9223372036854775808 ≤ x.n ∧ x.n ≤ 9223372036854775807) ∧ x.s.size ≤ maxLen ∧ Ga S w v4 x.kids ∧ Ga S w v5 x.Ai
instance : Rep Node where
 n := 6
 rep := Node.rep
 len := by rintro _ _ _ _ ⟨v4, v5, rfl, _⟩; rfl
 carry := by rintro _ _ _ _ _ _ ⟨v4, v5, rfl, h0, h1, h2, h3, h4, h5⟩ hS hw; exact ⟨v4, v5, rfl, h0, h1, h2, h3, h4.carry hS hw, h5.carry hS hw⟩
instance : Ac Node := ⟨fun x => Ac.bulk x.kind + Ac.bulk x.pos + Ac.bulk x.n + Ac.bulk x.s + Ac.bulk x.kids + Ac.bulk x.Ai + 1, fun _ => by omega⟩

structure Program where
 types : List BK
 nodes : List Node
 deriving DecidableEq, Inhabited

def Program.rep (S : Nat → Prop) (w : World) (cs : List Value) (x : Program) : Prop := ∃ v0 v1, cs = [v0, v1] ∧ Ga S w v0 x.types ∧ Ga S w v1 x.nodes
instance : Rep Program where
 n := 2
 rep := Program.rep
 len := by rintro _ _ _ _ ⟨v0, v1, rfl, _⟩; rfl
 carry := by rintro _ _ _ _ _ _ ⟨v0, v1, rfl, h0, h1⟩ hS hw; exact ⟨v0, v1, rfl, h0.carry hS hw, h1.carry hS hw⟩
instance : Ac Program := ⟨fun x => Ac.bulk x.types + Ac.bulk x.nodes + 1, fun _ => by omega⟩

theorem Acf : C7 164 Con := ⟨by kernel_rfl, fun {H enc w fuel cs x} h => by
 obtain ⟨xs, m, _, rfl, hlen, hxs, hf⟩ := DataW.trod_struct Tryz.underlying164 h
 have hn : Tryz.prog.cellsOf 164 = 3 := by kernel_rfl
 rw [hn] at hlen
 obtain ⟨c0, t0, rfl, l0⟩ := AL hlen
 obtain ⟨c1, t1, rfl, l1⟩ := AL l0
 obtain ⟨c2, t2, rfl, l2⟩ := AL l1
 obtain rfl := Cs l2
 obtain ⟨y0, s0, rfl, n0⟩ := AL (n := 2) hxs
 obtain ⟨y1, s1, rfl, n1⟩ := AL (n := 1) n0
 obtain ⟨y2, s2, rfl, n2⟩ := AL (n := 0) n1
 obtain rfl := Cs n2
 obtain ⟨z0, e0, b0⟩ := Ff.get (cs := [c0]) (x := y0) (by have := hf 0 _ rfl; simpa [Ff.n, Rep.n] using this)
 obtain ⟨z1, e1, b1⟩ := RM.get (cs := [c1]) (x := y1) (by have := hf 1 _ rfl; simpa [RM.n, Rep.n] using this)
 obtain ⟨z2, e2, b2⟩ := Y6.get (cs := [c2]) (x := y2) (by have := hf 2 _ rfl; simpa [Y6.n, Rep.n] using this)
 obtain ⟨q0, g0⟩ := e0; simp only [List.cons.injEq, and_true] at q0; subst q0
 have q1 := e1; simp only [Rep.rep, List.cons.injEq, and_true] at q1; subst q1
 obtain ⟨v2_0, q2, r2_0⟩ := e2
 simp only [List.cons.injEq, and_true] at q2; subst q2
 exact ⟨⟨z0, z1, z2⟩, ⟨c2, rfl, g0, r2_0⟩, by simp only [Ac.bulk, Rows.uptoBulk, Rows.uptoBulkAll, List.map_cons, List.map_nil] at b0 b1 b2 ⊢; omega⟩⟩

theorem RL : C7 60 (List Con) := Fx Acf Tryz.underlying60 (by kernel_rfl) (by simp [Rep.n])

theorem Aa6 : C7 62 BK := ⟨by kernel_rfl, fun {H enc w fuel cs x} h => by
 obtain ⟨xs, m, _, rfl, hlen, hxs, hf⟩ := DataW.trod_struct Tryz.underlying62 h
 have hn : Tryz.prog.cellsOf 62 = 3 := by kernel_rfl
 rw [hn] at hlen
 obtain ⟨c0, t0, rfl, l0⟩ := AL hlen
 obtain ⟨c1, t1, rfl, l1⟩ := AL l0
 obtain ⟨c2, t2, rfl, l2⟩ := AL l1
 obtain rfl := Cs l2
 obtain ⟨y0, s0, rfl, n0⟩ := AL (n := 2) hxs
 obtain ⟨y1, s1, rfl, n1⟩ := AL (n := 1) n0
 obtain ⟨y2, s2, rfl, n2⟩ := AL (n := 0) n1
 obtain rfl := Cs n2
 obtain ⟨z0, e0, b0⟩ := Ff.get (cs := [c0]) (x := y0) (by have := hf 0 _ rfl; simpa [Ff.n, Rep.n] using this)
 obtain ⟨z1, e1, b1⟩ := Cx.get (cs := [c1]) (x := y1) (by have := hf 1 _ rfl; simpa [Cx.n, Rep.n] using this)
 obtain ⟨z2, e2, b2⟩ := RL.get (cs := [c2]) (x := y2) (by have := hf 2 _ rfl; simpa [RL.n, Rep.n] using this)
 obtain ⟨q0, g0⟩ := e0; simp only [List.cons.injEq, and_true] at q0; subst q0
 obtain ⟨q1, g1⟩ := e1; simp only [List.cons.injEq, and_true] at q1; subst q1
 obtain ⟨v2, q2, g2⟩ := e2; simp only [List.cons.injEq, and_true] at q2; subst q2
 exact ⟨⟨z0, z1, z2⟩, ⟨c2, rfl, g0, g1, g2⟩, by simp only [Ac.bulk, Rows.uptoBulk, Rows.uptoBulkAll, List.map_cons, List.map_nil] at b0 b1 b2 ⊢; omega⟩⟩

theorem Aa7 : C7 66 Node := ⟨by kernel_rfl, fun {H enc w fuel cs x} h => by
 obtain ⟨xs, m, _, rfl, hlen, hxs, hf⟩ := DataW.trod_struct Tryz.underlying66 h
 have hn : Tryz.prog.cellsOf 66 = 6 := by kernel_rfl
 rw [hn] at hlen
 obtain ⟨c0, t0, rfl, l0⟩ := AL hlen
 obtain ⟨c1, t1, rfl, l1⟩ := AL l0
 obtain ⟨c2, t2, rfl, l2⟩ := AL l1
 obtain ⟨c3, t3, rfl, l3⟩ := AL l2
 obtain ⟨c4, t4, rfl, l4⟩ := AL l3
 obtain ⟨c5, t5, rfl, l5⟩ := AL l4
 obtain rfl := Cs l5
 obtain ⟨y0, s0, rfl, n0⟩ := AL (n := 5) hxs
 obtain ⟨y1, s1, rfl, n1⟩ := AL (n := 4) n0
 obtain ⟨y2, s2, rfl, n2⟩ := AL (n := 3) n1
 obtain ⟨y3, s3, rfl, n3⟩ := AL (n := 2) n2
 obtain ⟨y4, s4, rfl, n4⟩ := AL (n := 1) n3
 obtain ⟨y5, s5, rfl, n5⟩ := AL (n := 0) n4
 obtain rfl := Cs n5
 obtain ⟨z0, e0, b0⟩ := Cx.get (cs := [c0]) (x := y0) (by have := hf 0 _ rfl; simpa [Cx.n, Rep.n] using this)
 obtain ⟨z1, e1, b1⟩ := Cx.get (cs := [c1]) (x := y1) (by have := hf 1 _ rfl; simpa [Cx.n, Rep.n] using this)
 obtain ⟨z2, e2, b2⟩ := Cx.get (cs := [c2]) (x := y2) (by have := hf 2 _ rfl; simpa [Cx.n, Rep.n] using this)
 obtain ⟨z3, e3, b3⟩ := Ff.get (cs := [c3]) (x := y3) (by have := hf 3 _ rfl; simpa [Ff.n, Rep.n] using this)
 obtain ⟨z4, e4, b4⟩ := Lk.get (cs := [c4]) (x := y4) (by have := hf 4 _ rfl; simpa [Lk.n, Rep.n] using this)
 obtain ⟨z5, e5, b5⟩ := RK.get (cs := [c5]) (x := y5) (by have := hf 5 _ rfl; simpa [RK.n, Rep.n] using this)
 obtain ⟨q0, g0⟩ := e0; simp only [List.cons.injEq, and_true] at q0; subst q0
 obtain ⟨q1, g1⟩ := e1; simp only [List.cons.injEq, and_true] at q1; subst q1
 obtain ⟨q2, g2⟩ := e2; simp only [List.cons.injEq, and_true] at q2; subst q2
 obtain ⟨q3, g3⟩ := e3; simp only [List.cons.injEq, and_true] at q3; subst q3
 obtain ⟨v4, q4, g4⟩ := e4; simp only [List.cons.injEq, and_true] at q4; subst q4
 obtain ⟨v5, q5, g5⟩ := e5; simp only [List.cons.injEq, and_true] at q5; subst q5
 exact ⟨⟨z0, z1, z2, z3, z4, z5⟩, ⟨c4, c5, rfl, g0, g1, g2, g3, g4, g5⟩, by simp only [Ac.bulk, Rows.uptoBulk, Rows.uptoBulkAll, List.map_cons, List.map_nil] at b0 b1 b2 b3 b4 b5 ⊢; omega⟩⟩

theorem Pw : C7 22 (List BK) := Fx Aa6 Tryz.underlying22 (by kernel_rfl) (by simp [Rep.n])

theorem Px : C7 23 (List Node) := Fx Aa7 Tryz.underlying23 (by kernel_rfl) (by simp [Rep.n])

theorem Tp : C7 25 Program := ⟨by kernel_rfl, fun {H enc w fuel cs x} h => by
 obtain ⟨xs, m, _, rfl, hlen, hxs, hf⟩ := DataW.trod_struct Tryz.underlying25 h
 have hn : Tryz.prog.cellsOf 25 = 2 := by kernel_rfl
 rw [hn] at hlen
 obtain ⟨c0, t0, rfl, l0⟩ := AL hlen
 obtain ⟨c1, t1, rfl, l1⟩ := AL l0
 obtain rfl := Cs l1
 obtain ⟨y0, s0, rfl, n0⟩ := AL (n := 1) hxs
 obtain ⟨y1, s1, rfl, n1⟩ := AL (n := 0) n0
 obtain rfl := Cs n1
 obtain ⟨z0, e0, b0⟩ := Pw.get (cs := [c0]) (x := y0) (by have := hf 0 _ rfl; simpa [Pw.n, Rep.n] using this)
 obtain ⟨z1, e1, b1⟩ := Px.get (cs := [c1]) (x := y1) (by have := hf 1 _ rfl; simpa [Px.n, Rep.n] using this)
 obtain ⟨v0, q0, g0⟩ := e0; simp only [List.cons.injEq, and_true] at q0; subst q0
 obtain ⟨v1, q1, g1⟩ := e1; simp only [List.cons.injEq, and_true] at q1; subst q1
 exact ⟨⟨z0, z1⟩, ⟨c0, c1, rfl, g0, g1⟩, by simp only [Ac.bulk, Rows.uptoBulk, Rows.uptoBulkAll, List.map_cons, List.map_nil] at b0 b1 ⊢; omega⟩⟩

end Go.Proofs.YtppjinmlfcokaaaGreat
