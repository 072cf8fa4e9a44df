/-
 THE DATA Con, Type, Node, Program: as plain Lean structures, and when a Go value reads as one. Conditions: none. Printed by gen.py.
-/
import Derived.Test.YtoffpbehgncakaaGreatRows
import Derived.Test.YtoffpbehgncakaaGreatKJ05
import Derived.Test.YtoffpbehgncakaaGreatKJ18
import Derived.Test.YtoffpbehgncakaaGreatProg
import Derived.Test.YtoffpbehgncakaaGreatKAvDraw
import Derived.Test.YtoffpbehgncakaaGreatKJ06
import Derived.Test.YtoffpbehgncakaaGreatKAvRen
set_option linter.unusedVariables false
namespace Go.Proofs.YtoffpbehgncakaaGreat
open Go.RowKit Go.Proofs.YtoffpbehgncakaaGreat.Ml

structure Con where
 name : ByteArray
 has : Bool
 arg : Ty
 deriving DecidableEq, Inhabited

def Con.rep (S : Nat → Prop) (w : World) (cs : List Value) (x : Con) : Prop := ∃ v2, cs = [Value.string x.name, Value.bool x.has, v2] ∧ x.name.size ≤ maxLen ∧ DG S w v2 x.arg.items
instance : Rep Con where
 n := 3
 rep := Con.rep
 len := by rintro _ _ _ _ ⟨v2, rfl, _⟩; rfl
 carry := by rintro _ _ _ _ _ _ ⟨v2, rfl, h0, h1⟩ hS hw; exact ⟨v2, rfl, h0, h1.carry hS hw⟩
instance : AE Con := ⟨fun x => AE.bulk x.name + AE.bulk x.has + AE.bulk x.arg + 1, fun _ => by omega⟩

structure Dm where
 name : ByteArray
 params : Int
 cons : List Con
 deriving DecidableEq, Inhabited

def Dm.rep (S : Nat → Prop) (w : World) (cs : List Value) (x : Dm) : Prop := ∃ v2, cs = [Value.string x.name, Value.int .i64 x.params, v2] ∧ x.name.size ≤ maxLen ∧ (-9223372036854775808 ≤ x.params ∧ x.params ≤ 9223372036854775807) ∧ DG S w v2 x.cons
instance : Rep Dm where
 n := 3
 rep := Dm.rep
 len := by rintro _ _ _ _ ⟨v2, rfl, _⟩; rfl
 carry := by rintro _ _ _ _ _ _ ⟨v2, rfl, h0, h1, h2⟩ hS hw; exact ⟨v2, rfl, h0, h1, h2.carry hS hw⟩
instance : AE Dm := ⟨fun x => AE.bulk x.name + AE.bulk x.params + AE.bulk x.cons + 1, fun _ => by omega⟩

structure Node where
 kind : Int
 pos : Int
 n : Int
 s : ByteArray
 kids : List Int
 AL : List Pat
 deriving DecidableEq, Inhabited

def Node.rep (S : Nat → Prop) (w : World) (cs : List Value) (x : Node) : Prop := ∃ v4 v5, cs = [Value.int .i64 x.kind, Value.int .i64 x.pos, Value.int .i64 x.n, Value.string x.s, v4, v5] ∧ (-9223372036854775808 ≤ x.kind ∧ x.kind ≤ 9223372036854775807) ∧ (-9223372036854775808 ≤ x.pos ∧ x.pos ≤ 9223372036854775807) ∧ (-9223372036854775808 ≤ x.n ∧ x.n ≤ 9223372036854775807) ∧ x.s.size ≤ maxLen ∧ DG S w v4 x.kids ∧ DG S w v5 x.AL
instance : Rep Node where
 n := 6
 rep := Node.rep
 len := by rintro _ _ _ _ ⟨v4, v5, rfl, _⟩; rfl
 carry := by rintro _ _ _ _ _ _ ⟨v4, v5, rfl, h0, h1, h2, h3, h4, h5⟩ hS hw; exact ⟨v4, v5, rfl, h0, h1, h2, h3, h4.carry hS hw, h5.carry hS hw⟩
instance : AE Node := ⟨fun x => AE.bulk x.kind + AE.bulk x.pos + AE.bulk x.n + AE.bulk x.s + AE.bulk x.kids + AE.bulk x.AL + 1, fun _ => by omega⟩

structure Program where
 types : List Dm
 nodes : List Node
 deriving DecidableEq, Inhabited

def Program.rep (S : Nat → Prop) (w : World) (cs : List Value) (x : Program) : Prop := ∃ v0 v1, cs = [v0, v1] ∧ DG S w v0 x.types ∧ DG S w v1 x.nodes
instance : Rep Program where
 n := 2
 rep := Program.rep
 len := by rintro _ _ _ _ ⟨v0, v1, rfl, _⟩; rfl
 carry := by rintro _ _ _ _ _ _ ⟨v0, v1, rfl, h0, h1⟩ hS hw; exact ⟨v0, v1, rfl, h0.carry hS hw, h1.carry hS hw⟩
instance : AE Program := ⟨fun x => AE.bulk x.types + AE.bulk x.nodes + 1, fun _ => by omega⟩

end Go.Proofs.YtoffpbehgncakaaGreat
set_option linter.unusedVariables false
set_option maxRecDepth 100000
set_option linter.unusedVariables false
set_option linter.unusedSimpArgs false
set_option maxRecDepth 100000
namespace Go.Proofs.YtoffpbehgncakaaGreat
open Go.RowKit Go.Proofs.YtoffpbehgncakaaGreat.Av Go.Proofs.YtoffpbehgncakaaGreat.Ml
open Go.Proofs.YtoffpbehgncakaaGreat.Av.AVal (av)

instance : AVal Bs := ⟨fun x => .agg [.int .i64 x.var, .str x.name, .int .i64 x.arity], 3, fun _ => rfl, fun _ => rfl, fun x y hy => by
 simp only [AV.cells, List.mem_cons, List.not_mem_nil, or_false] at hy
 rcases hy with rfl | rfl | rfl <;> first | exact Ap.int _ _ | exact Ap.str _ | exact Ap.bool _, fun _ _ => rfl, fun x y hy => by
 simp only [AV.cells, List.mem_cons, List.not_mem_nil, or_false] at hy
 rcases hy with rfl | rfl | rfl <;> rfl⟩
theorem BJ (x : Bs) : av x = .agg [.int .i64 x.var, .str x.name, .int .i64 x.arity] := eqq rfl
instance : Em Bs := ⟨fun {S w cs y} h => by
 obtain ⟨rfl, h0, h1, h2⟩ := h
 exact VRs.cons (.int _ _ h0.1 h0.2) (VRs.cons (.str _ h1) (VRs.cons (.int _ _ h2.1 h2.2) (VRs.nil)))⟩

instance : AVal Ty := ⟨fun x => .agg [.sl (x.items.map av)], 1, fun _ => rfl, fun _ => rfl, fun x y hy => by
 simp only [AV.cells, List.mem_cons, List.not_mem_nil, or_false] at hy
 subst hy; first | exact Ap.int _ _ | exact Ap.str _ | exact Ap.bool _ | exact AQ x.items, fun _ _ => rfl, fun x y hy => by
 simp only [AV.cells, List.mem_cons, List.not_mem_nil, or_false] at hy
 subst hy; rfl⟩
theorem P2 (x : Ty) : av x = .agg [.sl (x.items.map av)] := eqq rfl
instance : Em Ty := ⟨fun {S w cs y} h => by
 obtain ⟨v0, rfl, r0⟩ := h
 exact VRs.cons (C7 r0) (VRs.nil)⟩

end Go.Proofs.YtoffpbehgncakaaGreat
set_option linter.unusedVariables false
set_option maxRecDepth 100000
set_option linter.unusedVariables false
set_option linter.unusedSimpArgs false
set_option maxRecDepth 100000
namespace Go.Proofs.YtoffpbehgncakaaGreat
open Go.RowKit Go.Proofs.YtoffpbehgncakaaGreat.Av Go.Proofs.YtoffpbehgncakaaGreat.Ml
open Go.Proofs.YtoffpbehgncakaaGreat.Av.AVal (av)

instance : AVal Con := ⟨fun x => .agg [.str x.name, .bool x.has, .sl (x.arg.items.map av)], 3, fun _ => rfl, fun _ => rfl, fun x y hy => by
 simp only [AV.cells, List.mem_cons, List.not_mem_nil, or_false] at hy
 rcases hy with rfl | rfl | rfl <;> first | exact Ap.int _ _ | exact Ap.str _ | exact Ap.bool _ | exact AQ x.arg.items, fun _ _ => rfl, fun x y hy => by
 simp only [AV.cells, List.mem_cons, List.not_mem_nil, or_false] at hy
 rcases hy with rfl | rfl | rfl <;> rfl⟩
theorem GD (x : Con) : av x = .agg [.str x.name, .bool x.has, .sl (x.arg.items.map av)] := eqq rfl
instance : Em Con := ⟨fun {S w cs y} h => by
 obtain ⟨v2, rfl, h0, r2⟩ := h
 exact VRs.cons (.str _ h0) (VRs.cons (.bool _) (VRs.cons (C7 r2) (VRs.nil)))⟩

instance : AVal Dm := ⟨fun x => .agg [.str x.name, .int .i64 x.params, .sl (x.cons.map av)], 3, fun _ => rfl, fun _ => rfl, fun x y hy => by
 simp only [AV.cells, List.mem_cons, List.not_mem_nil, or_false] at hy
 rcases hy with rfl | rfl | rfl <;> first | exact Ap.int _ _ | exact Ap.str _ | exact Ap.bool _ | exact AQ x.cons, fun _ _ => rfl, fun x y hy => by
 simp only [AV.cells, List.mem_cons, List.not_mem_nil, or_false] at hy
 rcases hy with rfl | rfl | rfl <;> rfl⟩
theorem DD (x : Dm) : av x = .agg [.str x.name, .int .i64 x.params, .sl (x.cons.map av)] := eqq rfl
instance : Em Dm := ⟨fun {S w cs y} h => by
 obtain ⟨v2, rfl, h0, h1, r2⟩ := h
 exact VRs.cons (.str _ h0) (VRs.cons (.int _ _ h1.1 h1.2) (VRs.cons (C7 r2) (VRs.nil)))⟩

instance : AVal Node := ⟨fun x => .agg [.int .i64 x.kind, .int .i64 x.pos, .int .i64 x.n, .str x.s, .sl (x.kids.map av), .sl (x.AL.map av)], 6, fun _ => rfl, fun _ => rfl, fun x y hy => by
 simp only [AV.cells, List.mem_cons, List.not_mem_nil, or_false] at hy
 rcases hy with rfl | rfl | rfl | rfl | rfl | rfl <;> first | exact Ap.int _ _ | exact Ap.str _ | exact Ap.bool _ | exact AQ x.kids | exact AQ x.AL, fun _ _ => rfl, fun x y hy => by
 simp only [AV.cells, List.mem_cons, List.not_mem_nil, or_false] at hy
 rcases hy with rfl | rfl | rfl | rfl | rfl | rfl <;> rfl⟩
theorem Ba (x : Node) : av x = .agg [.int .i64 x.kind, .int .i64 x.pos, .int .i64 x.n, .str x.s, .sl (x.kids.map av), .sl (x.AL.map av)] := eqq rfl
instance : Em Node := ⟨fun {S w cs y} h => by
 obtain ⟨v4, v5, rfl, h0, h1, h2, h3, r4, r5⟩ := h
 exact VRs.cons (.int _ _ h0.1 h0.2) (VRs.cons (.int _ _ h1.1 h1.2) (VRs.cons (.int _ _ h2.1 h2.2) (VRs.cons (.str _ h3) (VRs.cons (C7 r4) (VRs.cons (C7 r5) (VRs.nil))))))⟩

instance : AVal Program := ⟨fun x => .agg [.sl (x.types.map av), .sl (x.nodes.map av)], 2, fun _ => rfl, fun _ => rfl, fun x y hy => by
 simp only [AV.cells, List.mem_cons, List.not_mem_nil, or_false] at hy
 rcases hy with rfl | rfl <;> first | exact Ap.int _ _ | exact Ap.str _ | exact Ap.bool _ | exact AQ x.types | exact AQ x.nodes, fun _ _ => rfl, fun x y hy => by
 simp only [AV.cells, List.mem_cons, List.not_mem_nil, or_false] at hy
 rcases hy with rfl | rfl <;> rfl⟩
theorem Aw (x : Program) : av x = .agg [.sl (x.types.map av), .sl (x.nodes.map av)] := eqq rfl
instance : Em Program := ⟨fun {S w cs y} h => by
 obtain ⟨v0, v1, rfl, r0, r1⟩ := h
 exact VRs.cons (C7 r0) (VRs.cons (C7 r1) (VRs.nil))⟩

end Go.Proofs.YtoffpbehgncakaaGreat
set_option linter.unusedVariables false
set_option linter.unusedSimpArgs false
namespace Go.Proofs.YtoffpbehgncakaaGreat
open Go.RowKit Go.Proofs.YtoffpbehgncakaaGreat.Av
open Go.Proofs.YtoffpbehgncakaaGreat.Av.AVal (av)
open AVal (av)
open OVal (ov oh on)

theorem Av.VR.Abn {S : Nat → Prop} {w : World} {μ : Mu} {u : Value} {cs : List AV} {off : Nat} {y : AV} (h : VR S w μ u (.tup cs)) (hy : ∀ x v, cs[off]? = some x → VR S w μ v x → VR S w μ v y) : VR S w μ u (.tup (cs.set off y)) := by
 cases h with
 | tup vs _ hl hh =>
  refine .tup vs _ (by simpa using hl) (fun q v x p e => ?_)
  rw [List.getElem?_set] at e
  split at e
  ·rename_i hq
   subst hq
   split at e
   ·rename_i hlt
    cases e
    exact hy _ v (List.getElem?_eq_getElem hlt) (hh off v _ p (List.getElem?_eq_getElem hlt))
   ·cases e
  ·exact hh q v x p e
theorem Ai.Acy {s : St} {T : St → Prop} (i o2 off j k : Nat) {v n : Nat} {ts cs : List AV} {b : Box} (hi : Bf s.fr i = .tup ts) (ht : ts[o2]? = some (.agg cs)) (hc : cs[off]? = some (.row j v n)) (hb : Ay s.hp j = some b) (hv : b.ver = v)
  (h : ∀ v', Ai ⟨(i, .tup (ts.set o2 (.agg (cs.set off (.row k v' n))))) :: s.fr, (k, ⟨v', b.frz, b.ty, b.esz, b.es⟩) :: BU [j] s.hp⟩ T) : Ai s T :=
 Ai.Abt (fun v' => (i, .tup (ts.set o2 (.agg (cs.set off (.row k v' n))))) :: s.fr) j k hb hv (fun v' S w μ a e hf => QO hf (Av.VR.Abn (hi ▸ hf i) fun x u hx hu => by
  rw [ht] at hx; cases hx
  exact hu.Z3 rfl fun x u hx hu => by rw [hc] at hx; cases hx; exact hu.ren e)) h
theorem Ai.Jk {s : St} {T : St → Prop} (k : Nat) {b : Box} (hb : Ay s.hp k = some b) (h : Ai ⟨s.fr, (k, ⟨b.ver, b.frz, b.ty, b.esz, b.es.map (AV.pur s.hp)⟩) :: s.hp⟩ T) : Ai s T := by
 refine ⟨?_⟩
 rintro E nt a w ⟨hd, hn, S, μ, hw, hf⟩
 have hget' : ∀ j bj, Ay ((k, (⟨b.ver, b.frz, b.ty, b.esz, b.es.map (AV.pur s.hp)⟩ : Box)) :: s.hp) j = some bj → ∃ bo, Ay s.hp j = some bo ∧ bo.ver = bj.ver ∧ bo.frz = bj.frz := fun j bj hj => by
  simp only [Ay] at hj
  split at hj
  ·rename_i e; subst e; cases hj; exact ⟨b, hb, rfl, rfl⟩
  ·exact ⟨bj, hj, rfl, rfl⟩
 refine h.run E nt a w ⟨hd, hn, S, μ, ⟨hw.ext, hw.lt, hw.base, hw.new, hw.fresh, fun j bj hj => ?_, ?_, hw.le⟩, hf⟩
 ·simp only [Ay] at hj
  split at hj
  ·rename_i e; subst e; cases hj
   obtain ⟨B0, h0, hz0, hh⟩ := hw.box k b hb
   refine ⟨B0, h0, hz0, ?_⟩
   cases hbl : B0.blk with
   | none => rw [hbl] at hh; simp only at hh ⊢; rw [hh, List.map_nil]
   | some g =>
    rw [hbl] at hh
    obtain ⟨a1, a2, a3, cu, a4, a5, a6, a7, a8⟩ := hh
    have hok : ∀ e ∈ b.es, e.ok = true := fun e he => by
     by_cases hq : e.isAgg = true
     ·simp [AV.ok, hq]
     ·have : e.cells = [e] := by cases e <;> first | rfl | (simp [AV.isAgg] at hq)
      simp [AV.ok, (a8.1 e he).2 e (by rw [this]; simp)]
    exact ⟨a1, a2, a3, cu, a4, a5, a6, by simpa using a7, a8.pur hw hok⟩
  ·exact hw.box j bj hj
 ·intro j j' bj bj' Bj Bj' g hj hj' hne hf1 hf2 hBj hBj' hbl
  obtain ⟨bo, g1, g2, g3⟩ := hget' j bj hj
  obtain ⟨bo', g1', g2', g3'⟩ := hget' j' bj' hj'
  rw [← g2] at hBj; rw [← g2'] at hBj'
  exact hw.apart j j' bo bo' Bj Bj' g g1 g1' hne (g3.trans hf1) (g3'.trans hf2) hBj hBj' hbl
theorem Ai.AbV {s : St} {T : St → Prop} (k i : Nat) (y : AV) {b : Box} (hb : Ay s.hp k = some b)
  (hy : ∀ e, b.es[i]? = some e → (y.cells.length = e.cells.length ∧ ∀ x ∈ y.cells, x.one = true) ∧ ∀ (S : Nat → Prop) (w : World) (μ : Mu) (j : Nat) (x' : AV), y.cells[j]? = some x' → ∃ x, e.cells[j]? = some x ∧ ∀ v, VR S w μ v x → VR S w μ v x')
  (h : Ai ⟨s.fr, (k, ⟨b.ver, b.frz, b.ty, b.esz, b.es.set i y⟩) :: s.hp⟩ T) : Ai s T := by
 refine ⟨?_⟩
 rintro E nt a w ⟨hd, hn, S, μ, hw, hf⟩
 have hget' : ∀ j bj, Ay ((k, (⟨b.ver, b.frz, b.ty, b.esz, b.es.set i y⟩ : Box)) :: s.hp) j = some bj → ∃ bo, Ay s.hp j = some bo ∧ bo.ver = bj.ver ∧ bo.frz = bj.frz := fun j bj hj => by
  simp only [Ay] at hj
  split at hj
  ·rename_i e; subst e; cases hj; exact ⟨b, hb, rfl, rfl⟩
  ·exact ⟨bj, hj, rfl, rfl⟩
 refine h.run E nt a w ⟨hd, hn, S, μ, ⟨hw.ext, hw.lt, hw.base, hw.new, hw.fresh, fun j bj hj => ?_, ?_, hw.le⟩, hf⟩
 ·simp only [Ay] at hj
  split at hj
  ·rename_i e; subst e; cases hj
   obtain ⟨B0, h0, hz0, hh⟩ := hw.box k b hb
   refine ⟨B0, h0, hz0, ?_⟩
   cases hbl : B0.blk with
   | none => rw [hbl] at hh; simp only at hh ⊢; rw [hh, List.set_nil]
   | some g =>
    rw [hbl] at hh
    obtain ⟨a1, a2, a3, cu, a4, a5, a6, a7, a8⟩ := hh
    refine ⟨a1, a2, a3, cu, a4, a5, a6, by simpa using a7, fun e he => ?_, fun q j e x p hx => ?_⟩
    ·by_cases hi : i < b.es.length
     ·rcases List.mem_or_eq_of_mem_set he with he | rfl
      ·exact a8.1 e he
      ·have h1 := hy _ (List.getElem?_eq_getElem hi)
       exact ⟨h1.1.1.trans (a8.1 _ (List.getElem_mem hi)).1, h1.1.2⟩
     ·rw [List.set_eq_of_length_le (by omega)] at he
      exact a8.1 e he
    ·rw [List.getElem?_set] at p
     split at p
     ·rename_i hq
      subst hq
      split at p
      ·rename_i hlt
       cases p
       obtain ⟨x0, hx0, hv⟩ := (hy _ (List.getElem?_eq_getElem hlt)).2 S w μ j x hx
       obtain ⟨v, hv1, hv2⟩ := a8.2 i j _ x0 (List.getElem?_eq_getElem hlt) hx0
       exact ⟨v, hv1, hv v hv2⟩
      ·cases p
     ·exact a8.2 q j e x p hx
  ·exact hw.box j bj hj
 ·intro j j' bj bj' Bj Bj' g hj hj' hne hf1 hf2 hBj hBj' hbl
  obtain ⟨bo, g1, g2, g3⟩ := hget' j bj hj
  obtain ⟨bo', g1', g2', g3'⟩ := hget' j' bj' hj'
  rw [← g2] at hBj; rw [← g2'] at hBj'
  exact hw.apart j j' bo bo' Bj Bj' g g1 g1' hne (g3.trans hf1) (g3'.trans hf2) hBj hBj' hbl
theorem Ai.slB {s : St} {T : St → Prop} (k i off : Nat) {b : Box} (hb : Ay s.hp k = some b) {cs : List AV} (he : b.es[i]? = some (.agg cs)) (ho : ∀ x ∈ cs, x.one = true) (hc : cs[off]? = some .Au)
  (h : Ai ⟨s.fr, (k, ⟨b.ver, b.frz, b.ty, b.esz, b.es.set i (.agg (cs.set off (.sl [])))⟩) :: s.hp⟩ T) : Ai s T := by
 refine Ai.AbV k i (.agg (cs.set off (.sl []))) hb (fun e h1 => ?_) h
 rw [he] at h1
 cases h1
 refine ⟨⟨by simp [AV.cells], fun x hx => ?_⟩, fun S w μ j x' hx => ?_⟩
 ·rcases List.mem_or_eq_of_mem_set (show x ∈ cs.set off (.sl []) from hx) with h2 | rfl
  ·exact ho x h2
  ·rfl
 ·rw [show (AV.agg (cs.set off (.sl []))).cells = cs.set off (.sl []) from rfl, List.getElem?_set] at hx
  split at hx
  ·rename_i hq
   subst hq
   split at hx
   ·cases hx
    exact ⟨.Au, hc, fun v hv => by cases hv; exact .sl0 none 0 (Nat.zero_le _)⟩
   ·cases hx
  ·exact ⟨x', hx, fun v hv => hv⟩
end Go.Proofs.YtoffpbehgncakaaGreat
