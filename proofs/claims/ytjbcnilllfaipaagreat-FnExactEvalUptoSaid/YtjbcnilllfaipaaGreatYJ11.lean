/-
 THE DATA Con, Type, Node, Program: as plain Lean structures, and when a Go value reads as one. Conditions: none. Printed by gen.py.
-/
import Derived.Test.YtjbcnilllfaipaaGreatRows
import Derived.Test.YtjbcnilllfaipaaGreatYJ00
import Derived.Test.YtjbcnilllfaipaaGreatYJ10
import Derived.Test.YtjbcnilllfaipaaGreatProg
import Derived.Test.YtjbcnilllfaipaaGreatYAvDraw
import Derived.Test.YtjbcnilllfaipaaGreatYJ08
set_option linter.unusedVariables false
namespace Go.Proofs.YtjbcnilllfaipaaGreat
open Go.RowKit Go.Proofs.YtjbcnilllfaipaaGreat.Ml

structure Con where
 name : ByteArray
 has : Bool
 arg : Ty
 deriving DecidableEq, Inhabited

def Con.rep (S : Nat → Prop) (w : World) (cs : List Value) (x : Con) : Prop := ∃ v2, cs = [Value.string x.name, Value.bool x.has, v2] ∧ x.name.size ≤ maxLen ∧ Dj S w v2 x.arg.items
instance : Rep Con where
 n := 3
 rep := Con.rep
 len := by rintro _ _ _ _ ⟨v2, rfl, _⟩; rfl
 carry := by rintro _ _ _ _ _ _ ⟨v2, rfl, h0, h1⟩ hS hw; exact ⟨v2, rfl, h0, h1.carry hS hw⟩
theorem Con.form {S : Nat → Prop} {w : World} {cs : List Value} {x : Con} (h : Rep.rep S w cs x) : ∃ a2 c2, cs = [Value.string x.name, Value.bool x.has, Value.slice a2 x.arg.items.length c2] ∧ x.name.size ≤ maxLen ∧ Dj S w (.slice a2 x.arg.items.length c2) x.arg.items := by
 obtain ⟨v2, rfl, h0, h1⟩ := h
 obtain ⟨a2, c2, rfl⟩ := h1.form
 exact ⟨a2, c2, rfl, h0, h1⟩
instance : Ad Con := ⟨fun x => Ad.bulk x.name + Ad.bulk x.has + Ad.bulk x.arg + 1, fun _ => by omega⟩

structure BP where
 name : ByteArray
 params : Int
 cons : List Con
 deriving DecidableEq, Inhabited

def BP.rep (S : Nat → Prop) (w : World) (cs : List Value) (x : BP) : Prop := ∃ v2, cs = [Value.string x.name, Value.int .i64 x.params, v2] ∧ x.name.size ≤ maxLen ∧ (-9223372036854775808 ≤ x.params ∧ x.params ≤ 9223372036854775807) ∧ Dj S w v2 x.cons
instance : Rep BP where
 n := 3
 rep := BP.rep
 len := by rintro _ _ _ _ ⟨v2, rfl, _⟩; rfl
 carry := by rintro _ _ _ _ _ _ ⟨v2, rfl, h0, h1, h2⟩ hS hw; exact ⟨v2, rfl, h0, h1, h2.carry hS hw⟩
theorem BP.form {S : Nat → Prop} {w : World} {cs : List Value} {x : BP} (h : Rep.rep S w cs x) : ∃ a2 c2, cs = [Value.string x.name, Value.int .i64 x.params, Value.slice a2 x.cons.length c2] ∧ x.name.size ≤ maxLen ∧ (-9223372036854775808 ≤ x.params ∧ x.params ≤ 9223372036854775807) ∧ Dj S w (.slice a2 x.cons.length c2) x.cons := by
 obtain ⟨v2, rfl, h0, h1, h2⟩ := h
 obtain ⟨a2, c2, rfl⟩ := h2.form
 exact ⟨a2, c2, rfl, h0, h1, h2⟩
instance : Ad BP := ⟨fun x => Ad.bulk x.name + Ad.bulk x.params + Ad.bulk x.cons + 1, fun _ => by omega⟩

structure Node where
 kind : Int
 pos : Int
 n : Int
 s : ByteArray
 kids : List Int
 As : List Pat
 deriving DecidableEq, Inhabited

def Node.rep (S : Nat → Prop) (w : World) (cs : List Value) (x : Node) : Prop := ∃ v4 v5, cs = [Value.int .i64 x.kind, Value.int .i64 x.pos, Value.int .i64 x.n, Value.string x.s, v4, v5] ∧ (-9223372036854775808 ≤ x.kind ∧ x.kind ≤ 9223372036854775807) ∧ (-9223372036854775808 ≤ x.pos ∧ x.pos ≤ 9223372036854775807) ∧ (-9223372036854775808 ≤ x.n ∧ x.n ≤ 9223372036854775807) ∧ x.s.size ≤ maxLen ∧ Dj S w v4 x.kids ∧ Dj S w v5 x.As
instance : Rep Node where
 n := 6
 rep := Node.rep
 len := by rintro _ _ _ _ ⟨v4, v5, rfl, _⟩; rfl
 carry := by rintro _ _ _ _ _ _ ⟨v4, v5, rfl, h0, h1, h2, h3, h4, h5⟩ hS hw; exact ⟨v4, v5, rfl, h0, h1, h2, h3, h4.carry hS hw, h5.carry hS hw⟩
theorem Node.form {S : Nat → Prop} {w : World} {cs : List Value} {x : Node} (h : Rep.rep S w cs x) : ∃ a4 c4 a5 c5, cs = [Value.int .i64 x.kind, Value.int .i64 x.pos, Value.int .i64 x.n, Value.string x.s, Value.slice a4 x.kids.length c4, Value.slice a5 x.As.length c5] ∧ (-9223372036854775808 ≤ x.kind ∧ x.kind ≤ 9223372036854775807) ∧ (-9223372036854775808 ≤ x.pos ∧ x.pos ≤ 9223372036854775807) ∧ (-9223372036854775808 ≤ x.n ∧ x.n ≤ 9223372036854775807) ∧ x.s.size ≤ maxLen ∧ Dj S w (.slice a4 x.kids.length c4) x.kids ∧ Dj S w (.slice a5 x.As.length c5) x.As := by
 obtain ⟨v4, v5, rfl, h0, h1, h2, h3, h4, h5⟩ := h
 obtain ⟨a4, c4, rfl⟩ := h4.form
 obtain ⟨a5, c5, rfl⟩ := h5.form
 exact ⟨a4, c4, a5, c5, rfl, h0, h1, h2, h3, h4, h5⟩
instance : Ad Node := ⟨fun x => Ad.bulk x.kind + Ad.bulk x.pos + Ad.bulk x.n + Ad.bulk x.s + Ad.bulk x.kids + Ad.bulk x.As + 1, fun _ => by omega⟩

structure Program where
 types : List BP
 nodes : List Node
 deriving DecidableEq, Inhabited

def Program.rep (S : Nat → Prop) (w : World) (cs : List Value) (x : Program) : Prop := ∃ v0 v1, cs = [v0, v1] ∧ Dj S w v0 x.types ∧ Dj S w v1 x.nodes
instance : Rep Program where
 n := 2
 rep := Program.rep
 len := by rintro _ _ _ _ ⟨v0, v1, rfl, _⟩; rfl
 carry := by rintro _ _ _ _ _ _ ⟨v0, v1, rfl, h0, h1⟩ hS hw; exact ⟨v0, v1, rfl, h0.carry hS hw, h1.carry hS hw⟩
theorem Program.form {S : Nat → Prop} {w : World} {cs : List Value} {x : Program} (h : Rep.rep S w cs x) : ∃ a0 c0 a1 c1, cs = [Value.slice a0 x.types.length c0, Value.slice a1 x.nodes.length c1] ∧ Dj S w (.slice a0 x.types.length c0) x.types ∧ Dj S w (.slice a1 x.nodes.length c1) x.nodes := by
 obtain ⟨v0, v1, rfl, h0, h1⟩ := h
 obtain ⟨a0, c0, rfl⟩ := h0.form
 obtain ⟨a1, c1, rfl⟩ := h1.form
 exact ⟨a0, c0, a1, c1, rfl, h0, h1⟩
instance : Ad Program := ⟨fun x => Ad.bulk x.types + Ad.bulk x.nodes + 1, fun _ => by omega⟩

theorem Aaw : CD 183 Con := ⟨by kernel_rfl, fun {H enc w fuel cs x} h => by
 obtain ⟨xs, m, _, rfl, hlen, hxs, hf⟩ := DataW.trod_struct Tryz.underlying183 h
 have hn : Tryz.prog.cellsOf 183 = 3 := by kernel_rfl
 rw [hn] at hlen
 obtain ⟨c0, t0, rfl, l0⟩ := AK hlen
 obtain ⟨c1, t1, rfl, l1⟩ := AK l0
 obtain ⟨c2, t2, rfl, l2⟩ := AK l1
 obtain rfl := Cu l2
 obtain ⟨y0, s0, rfl, n0⟩ := AK (n := 2) hxs
 obtain ⟨y1, s1, rfl, n1⟩ := AK (n := 1) n0
 obtain ⟨y2, s2, rfl, n2⟩ := AK (n := 0) n1
 obtain rfl := Cu n2
 obtain ⟨z0, e0, b0⟩ := E9.get (cs := [c0]) (x := y0) (by have := hf 0 _ rfl; simpa [E9.n, Rep.n] using this)
 obtain ⟨z1, e1, b1⟩ := QF.get (cs := [c1]) (x := y1) (by have := hf 1 _ rfl; simpa [QF.n, Rep.n] using this)
 obtain ⟨z2, e2, b2⟩ := Xx.get (cs := [c2]) (x := y2) (by have := hf 2 _ rfl; simpa [Xx.n, Rep.n] using this)
 obtain ⟨q0, g0⟩ := e0; simp only [List.cons.injEq, and_true] at q0; subst q0
 have q1 := e1; simp only [Rep.rep, List.cons.injEq, and_true] at q1; subst q1
 obtain ⟨v2_0, q2, r2_0⟩ := e2
 simp only [List.cons.injEq, and_true] at q2; subst q2
 exact ⟨⟨z0, z1, z2⟩, ⟨c2, rfl, g0, r2_0⟩, by simp only [Ad.bulk, Rows.uptoBulk, Rows.uptoBulkAll, List.map_cons, List.map_nil] at b0 b1 b2 ⊢; omega⟩⟩

theorem QE : CD 77 (List Con) := Fq Aaw Tryz.underlying77 (by kernel_rfl) (by simp [Rep.n])

theorem Zq : CD 79 BP := ⟨by kernel_rfl, fun {H enc w fuel cs x} h => by
 obtain ⟨xs, m, _, rfl, hlen, hxs, hf⟩ := DataW.trod_struct Tryz.underlying79 h
 have hn : Tryz.prog.cellsOf 79 = 3 := by kernel_rfl
 rw [hn] at hlen
 obtain ⟨c0, t0, rfl, l0⟩ := AK hlen
 obtain ⟨c1, t1, rfl, l1⟩ := AK l0
 obtain ⟨c2, t2, rfl, l2⟩ := AK l1
 obtain rfl := Cu l2
 obtain ⟨y0, s0, rfl, n0⟩ := AK (n := 2) hxs
 obtain ⟨y1, s1, rfl, n1⟩ := AK (n := 1) n0
 obtain ⟨y2, s2, rfl, n2⟩ := AK (n := 0) n1
 obtain rfl := Cu n2
 obtain ⟨z0, e0, b0⟩ := E9.get (cs := [c0]) (x := y0) (by have := hf 0 _ rfl; simpa [E9.n, Rep.n] using this)
 obtain ⟨z1, e1, b1⟩ := CF.get (cs := [c1]) (x := y1) (by have := hf 1 _ rfl; simpa [CF.n, Rep.n] using this)
 obtain ⟨z2, e2, b2⟩ := QE.get (cs := [c2]) (x := y2) (by have := hf 2 _ rfl; simpa [QE.n, Rep.n] using this)
 obtain ⟨q0, g0⟩ := e0; simp only [List.cons.injEq, and_true] at q0; subst q0
 obtain ⟨q1, g1⟩ := e1; simp only [List.cons.injEq, and_true] at q1; subst q1
 obtain ⟨v2, q2, g2⟩ := e2; simp only [List.cons.injEq, and_true] at q2; subst q2
 exact ⟨⟨z0, z1, z2⟩, ⟨c2, rfl, g0, g1, g2⟩, by simp only [Ad.bulk, Rows.uptoBulk, Rows.uptoBulkAll, List.map_cons, List.map_nil] at b0 b1 b2 ⊢; omega⟩⟩

theorem Zr : CD 83 Node := ⟨by kernel_rfl, fun {H enc w fuel cs x} h => by
 obtain ⟨xs, m, _, rfl, hlen, hxs, hf⟩ := DataW.trod_struct Tryz.underlying83 h
 have hn : Tryz.prog.cellsOf 83 = 6 := by kernel_rfl
 rw [hn] at hlen
 obtain ⟨c0, t0, rfl, l0⟩ := AK hlen
 obtain ⟨c1, t1, rfl, l1⟩ := AK l0
 obtain ⟨c2, t2, rfl, l2⟩ := AK l1
 obtain ⟨c3, t3, rfl, l3⟩ := AK l2
 obtain ⟨c4, t4, rfl, l4⟩ := AK l3
 obtain ⟨c5, t5, rfl, l5⟩ := AK l4
 obtain rfl := Cu l5
 obtain ⟨y0, s0, rfl, n0⟩ := AK (n := 5) hxs
 obtain ⟨y1, s1, rfl, n1⟩ := AK (n := 4) n0
 obtain ⟨y2, s2, rfl, n2⟩ := AK (n := 3) n1
 obtain ⟨y3, s3, rfl, n3⟩ := AK (n := 2) n2
 obtain ⟨y4, s4, rfl, n4⟩ := AK (n := 1) n3
 obtain ⟨y5, s5, rfl, n5⟩ := AK (n := 0) n4
 obtain rfl := Cu n5
 obtain ⟨z0, e0, b0⟩ := CF.get (cs := [c0]) (x := y0) (by have := hf 0 _ rfl; simpa [CF.n, Rep.n] using this)
 obtain ⟨z1, e1, b1⟩ := CF.get (cs := [c1]) (x := y1) (by have := hf 1 _ rfl; simpa [CF.n, Rep.n] using this)
 obtain ⟨z2, e2, b2⟩ := CF.get (cs := [c2]) (x := y2) (by have := hf 2 _ rfl; simpa [CF.n, Rep.n] using this)
 obtain ⟨z3, e3, b3⟩ := E9.get (cs := [c3]) (x := y3) (by have := hf 3 _ rfl; simpa [E9.n, Rep.n] using this)
 obtain ⟨z4, e4, b4⟩ := Ic.get (cs := [c4]) (x := y4) (by have := hf 4 _ rfl; simpa [Ic.n, Rep.n] using this)
 obtain ⟨z5, e5, b5⟩ := QD.get (cs := [c5]) (x := y5) (by have := hf 5 _ rfl; simpa [QD.n, Rep.n] using this)
 obtain ⟨q0, g0⟩ := e0; simp only [List.cons.injEq, and_true] at q0; subst q0
 obtain ⟨q1, g1⟩ := e1; simp only [List.cons.injEq, and_true] at q1; subst q1
 obtain ⟨q2, g2⟩ := e2; simp only [List.cons.injEq, and_true] at q2; subst q2
 obtain ⟨q3, g3⟩ := e3; simp only [List.cons.injEq, and_true] at q3; subst q3
 obtain ⟨v4, q4, g4⟩ := e4; simp only [List.cons.injEq, and_true] at q4; subst q4
 obtain ⟨v5, q5, g5⟩ := e5; simp only [List.cons.injEq, and_true] at q5; subst q5
 exact ⟨⟨z0, z1, z2, z3, z4, z5⟩, ⟨c4, c5, rfl, g0, g1, g2, g3, g4, g5⟩, by simp only [Ad.bulk, Rows.uptoBulk, Rows.uptoBulkAll, List.map_cons, List.map_nil] at b0 b1 b2 b3 b4 b5 ⊢; omega⟩⟩

theorem Oi : CD 22 (List BP) := Fq Zq Tryz.underlying22 (by kernel_rfl) (by simp [Rep.n])

theorem Oj : CD 23 (List Node) := Fq Zr Tryz.underlying23 (by kernel_rfl) (by simp [Rep.n])

theorem Sb : CD 25 Program := ⟨by kernel_rfl, fun {H enc w fuel cs x} h => by
 obtain ⟨xs, m, _, rfl, hlen, hxs, hf⟩ := DataW.trod_struct Tryz.underlying25 h
 have hn : Tryz.prog.cellsOf 25 = 2 := by kernel_rfl
 rw [hn] at hlen
 obtain ⟨c0, t0, rfl, l0⟩ := AK hlen
 obtain ⟨c1, t1, rfl, l1⟩ := AK l0
 obtain rfl := Cu l1
 obtain ⟨y0, s0, rfl, n0⟩ := AK (n := 1) hxs
 obtain ⟨y1, s1, rfl, n1⟩ := AK (n := 0) n0
 obtain rfl := Cu n1
 obtain ⟨z0, e0, b0⟩ := Oi.get (cs := [c0]) (x := y0) (by have := hf 0 _ rfl; simpa [Oi.n, Rep.n] using this)
 obtain ⟨z1, e1, b1⟩ := Oj.get (cs := [c1]) (x := y1) (by have := hf 1 _ rfl; simpa [Oj.n, Rep.n] using this)
 obtain ⟨v0, q0, g0⟩ := e0; simp only [List.cons.injEq, and_true] at q0; subst q0
 obtain ⟨v1, q1, g1⟩ := e1; simp only [List.cons.injEq, and_true] at q1; subst q1
 exact ⟨⟨z0, z1⟩, ⟨c0, c1, rfl, g0, g1⟩, by simp only [Ad.bulk, Rows.uptoBulk, Rows.uptoBulkAll, List.map_cons, List.map_nil] at b0 b1 ⊢; omega⟩⟩

end Go.Proofs.YtjbcnilllfaipaaGreat
set_option linter.unusedVariables false
set_option maxRecDepth 100000
namespace Go.Proofs.YtjbcnilllfaipaaGreat
open Go.Proofs.YtjbcnilllfaipaaGreat.Av

theorem HT : Tryz.prog.follows .mixedOrders = true := by kernel_rfl

def Ey : Ir Tryz.prog 66 [(23, 7777)] [9999] 2 := ⟨_, _, Tryz.func66, HT, by kernel_rfl, Ag [] Tryz.progTables (by conv => lhs; cbv) (by kernel_rfl)⟩
def J4 : Ir Tryz.prog 84 [] [] 1 := ⟨_, _, Tryz.func84, HT, by kernel_rfl, Ag [] Tryz.progTables (by conv => lhs; cbv) (by kernel_rfl)⟩
def J9 : Ir Tryz.prog 108 [] [] 2 := ⟨_, _, Tryz.func108, HT, by kernel_rfl, Ag [] Tryz.progTables (by conv => lhs; cbv) (by kernel_rfl)⟩
end Go.Proofs.YtjbcnilllfaipaaGreat
set_option linter.unusedVariables false
set_option linter.unusedSimpArgs false
set_option maxRecDepth 100000
namespace Go.Proofs.YtjbcnilllfaipaaGreat
open Go.RowKit Go.Proofs.YtjbcnilllfaipaaGreat.Av Go.Proofs.YtjbcnilllfaipaaGreat.Ml
open Go.Proofs.YtjbcnilllfaipaaGreat.Av.AVal (av)

theorem Qi (l : List Pat) (n : Int) (hx : Ad.bulk l ≤ 1099511627776) (h1 : -1 ≤ n) (h2 : n ≤ 1099511627776) : Lk 66 [.sl (l.map av), .int .i64 n] := by
 have hl := Ao l
 refine Ey.H rfl ?_
 simp +contextual -dsimp only [↓SD, SU, simprocAttr, Ey, Aa]
 refine ⟨by omega, fun h => ?_, fun h => ?_⟩
 ·refine Af.post [] ?_; simp +contextual -dsimp only [↓SD, SU, simprocAttr, Ey]; exact ⟨_, rfl, rfl, by omega, by omega⟩
 refine Al (X := Nat × Int) (fun x => ⟨[(0, .sl (l.map av)), (1, .int .i64 x.2), (5, .int .i64 x.1)], []⟩) (fun x => x.1 ≤ l.length ∧ 0 ≤ x.2 ∧ x.2 ≤ 1099511627776) (fun x => l.length - x.1) (0, n - l.length) ⟨Nat.zero_le _, by simp only; omega, by simp only; omega⟩ (by simp +contextual -dsimp only [↓SD, SU, simprocAttr]) trivial ?_
 rintro ⟨k, m⟩ ⟨hk, hm0, hm1⟩
 simp only at hk hm0 hm1
 by_cases hlt : k < l.length
 ·have e := getD_map av l k .top hlt
  have hbk : Ad.bulk l[k] ≤ 1099511627776 := by have := AW (List.getElem_mem hlt); omega
  simp +contextual -dsimp only [↓SD, SU, simprocAttr, Aa, hlt, e, C9]
  refine Ae [] (Aaj l[k] m hbk (by omega) hm1) (by simp +contextual -dsimp only [↓SD, SU, simprocAttr]) ?_
  rintro r hp' ⟨q, rfl, rfl, hq1, hq2⟩
  simp +contextual -dsimp only [↓SD, SU, simprocAttr]
  (repeat' (first | intro _ | refine And.intro ?_ ?_))
  all_goals first | omega | (refine Af.post [] ?_; simp +contextual -dsimp only [↓SD, SU, simprocAttr, Ey]; exact ⟨_, rfl, rfl, by omega, by omega⟩) | exact Af.le ⟨(k + 1, q), ⟨⟨hlt, by simp only; omega, hq2⟩, (by first | omega | (simp only; omega))⟩, rfl⟩ (by simp +contextual -dsimp only [↓SD, SU, simprocAttr, Int.natCast_add]) trivial
 ·obtain rfl : k = l.length := by omega
  simp +contextual -dsimp only [↓SD, SU, simprocAttr, Aa, Nat.lt_irrefl]
  refine Af.post [] ?_
  simp +contextual -dsimp only [↓SD, SU, simprocAttr, Ey]
  exact ⟨_, rfl, rfl, by omega, by omega⟩

theorem Ze (l : List Pat) (hx : Ad.bulk l ≤ 1099511627776) : Ap Tryz.prog 84 [.sl (l.map av)] (.sl (l.map av)) := by
 have hl := Ao l
 refine J4.F rfl (by simp; exact Aq l) (Aq l) ?_
 simp +contextual -dsimp only [↓SD, SU, simprocAttr, J4, Aa]
 refine ⟨by omega, fun v => ?_⟩
 refine Al (X := Nat) (fun k => ⟨[(0, .sl (l.map av)), (3, .row 7 v l.length), (4, .int .i64 k)], [(7, ⟨v, false, 112, 1, FD l (AV.agg [.Ar]) k⟩)]⟩) (fun k => k ≤ l.length) (fun k => l.length - k) 0 (Nat.zero_le _) (by simp +contextual -dsimp only [↓SD, SU, simprocAttr]) (by simp +contextual -dsimp only [↓SD, SU, simprocAttr, Eg]) ?_
 intro k hk
 by_cases hlt : k < l.length
 ·have e := getD_map av l k .top hlt
  have e1 := Cv (AV.agg [.Ar]) hk
  have e2 := EO (AV.agg [.Ar]) hlt .top
  have e3 := EN (z := (AV.agg [.Ar])) hlt rfl
  have hbk : Ad.bulk l[k] ≤ 1099511627776 := by have := AW (List.getElem_mem hlt); omega
  rw [C9] at e3
  simp +contextual -dsimp only [↓SD, SU, simprocAttr, Aa, hlt, e, C9]
  have C := Aag l[k] hbk
  rw [C9] at C
  refine Ab _ C ?_
  simp +contextual -dsimp only [↓SD, SU, simprocAttr, Aa, hlt, e, C9, e1, e2, e3]
  refine ⟨by omega, Af.le ⟨k + 1, ⟨hlt, (by first | omega | (simp only; omega))⟩, rfl⟩ (by simp +contextual -dsimp only [↓SD, SU, simprocAttr, Int.natCast_add]) (by simp +contextual -dsimp only [↓SD, SU, simprocAttr, e2, e3])⟩
 ·obtain rfl : k = l.length := by omega
  have e1 := Cv (AV.agg [.Ar]) hk
  simp +contextual -dsimp only [↓SD, SU, simprocAttr, Aa, Nat.lt_irrefl, Eh, AA, List.take_length]
  try simp [List.take_of_length_le]

theorem ZN (l : List Pat) (hx : Ad.bulk l ≤ 1099511627776) : Ap Tryz.prog 108 [.sl (l.map av), .sl (l.map av)] (.bool true) := by
 have hl := Ao l
 refine J9.F rfl (by simp; exact Aq l) (Ac.bool _) ?_
 simp +contextual -dsimp only [↓SD, SU, simprocAttr, J9, Aa]
 refine Al (X := Nat) (fun k => ⟨[(0, .sl (l.map av)), (1, .sl (l.map av)), (5, .int .i64 k)], []⟩) (fun k => k ≤ l.length) (fun k => l.length - k) 0 (Nat.zero_le _) (by simp +contextual -dsimp only [↓SD, SU, simprocAttr]) trivial ?_
 intro k hk
 by_cases hlt : k < l.length
 ·have e := getD_map av l k .top hlt
  have hbk : Ad.bulk l[k] ≤ 1099511627776 := by have := AW (List.getElem_mem hlt); omega
  simp +contextual -dsimp only [↓SD, SU, simprocAttr, Aa, hlt, e, C9]
  have C := Abu l[k] hbk
  rw [C9] at C
  refine Ab _ C ?_
  simp +contextual -dsimp only [↓SD, SU, simprocAttr, Aa, hlt, e, C9]
  exact ⟨by omega, Af.le ⟨k + 1, ⟨hlt, (by first | omega | (simp only; omega))⟩, rfl⟩ (by simp +contextual -dsimp only [↓SD, SU, simprocAttr, Int.natCast_add]) trivial⟩
 ·obtain rfl : k = l.length := by omega
  simp +contextual -dsimp only [↓SD, SU, simprocAttr, Aa, Nat.lt_irrefl]

end Go.Proofs.YtjbcnilllfaipaaGreat
set_option linter.unusedVariables false
set_option maxRecDepth 100000
namespace Go.Proofs.YtjbcnilllfaipaaGreat
open Go.Proofs.YtjbcnilllfaipaaGreat.Av

theorem DM : Tryz.prog.follows .mixedOrders = true := by kernel_rfl

def F5 : Ir Tryz.prog 164 [] [9999] 2 := ⟨_, _, Tryz.func164, DM, by kernel_rfl, Ag [] Tryz.progTables (by conv => lhs; cbv) (by kernel_rfl)⟩
def Iu : Ir Tryz.prog 165 [] [] 1 := ⟨_, _, Tryz.func165, DM, by kernel_rfl, Ag [] Tryz.progTables (by conv => lhs; cbv) (by kernel_rfl)⟩
def IE : Ir Tryz.prog 167 [] [] 2 := ⟨_, _, Tryz.func167, DM, by kernel_rfl, Ag [] Tryz.progTables (by conv => lhs; cbv) (by kernel_rfl)⟩
def DJ : Ir Tryz.prog 156 [(23, 7777)] [9999] 2 := ⟨_, _, Tryz.func156, DM, by kernel_rfl, Ag [] Tryz.progTables (by conv => lhs; cbv) (by kernel_rfl)⟩
def Hx : Ir Tryz.prog 158 [] [] 1 := ⟨_, _, Tryz.func158, DM, by kernel_rfl, Ag [] Tryz.progTables (by conv => lhs; cbv) (by kernel_rfl)⟩
def HD : Ir Tryz.prog 162 [] [] 2 := ⟨_, _, Tryz.func162, DM, by kernel_rfl, Ag [] Tryz.progTables (by conv => lhs; cbv) (by kernel_rfl)⟩
def GO : Ir Tryz.prog 138 [(8, 7777)] [9999] 2 := ⟨_, _, Tryz.func138, DM, by kernel_rfl, Ag [] Tryz.progTables (by conv => lhs; cbv) (by kernel_rfl)⟩
def L0 : Ir Tryz.prog 141 [] [] 1 := ⟨_, _, Tryz.func141, DM, by kernel_rfl, Ag [] Tryz.progTables (by conv => lhs; cbv) (by kernel_rfl)⟩
def L1 : Ir Tryz.prog 154 [] [] 2 := ⟨_, _, Tryz.func154, DM, by kernel_rfl, Ag [] Tryz.progTables (by conv => lhs; cbv) (by kernel_rfl)⟩
end Go.Proofs.YtjbcnilllfaipaaGreat
