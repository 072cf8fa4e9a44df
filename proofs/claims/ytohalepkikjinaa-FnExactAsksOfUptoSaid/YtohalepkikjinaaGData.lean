/-
  DNode, Data BY ABSTRACT TEXTS: as abstract values, copies, comparisons, sizes. Conditions: none. Printed by genav.py.
-/
import Derived.Test.YtohalepkikjinaaDData
import Derived.Test.YtohalepkikjinaaPackG
import Derived.Test.YtohalepkikjinaaIrGData
set_option linter.unusedVariables false
set_option linter.unusedSimpArgs false
set_option maxRecDepth 100000
namespace Go.Proofs.Ytohalepkikjinaa
open Go.RowKit Go.Proofs.Ytohalepkikjinaa.Av Go.Proofs.Ytohalepkikjinaa.Ml
open Go.Proofs.Ytohalepkikjinaa.Av.AVal (av)

instance : AVal DNode := ⟨fun x => .agg [.int .i64 x.kind, .int .i64 x.n, .str x.s, .sl (x.kids.map av)], 4, fun _ => rfl, fun _ => rfl, fun x y hy => by
  simp only [AV.cells, List.mem_cons, List.not_mem_nil, or_false] at hy
  rcases hy with rfl | rfl | rfl | rfl <;> first | exact AvPure.int _ _ | exact AvPure.str _ | exact AvPure.bool _ | exact lav_clean x.kids, fun _ _ => rfl, fun x y hy => by
  simp only [AV.cells, List.mem_cons, List.not_mem_nil, or_false] at hy
  rcases hy with rfl | rfl | rfl | rfl <;> rfl⟩
theorem av_DNode (x : DNode) : av x = .agg [.int .i64 x.kind, .int .i64 x.n, .str x.s, .sl (x.kids.map av)] := eqq rfl
instance : AvRep DNode := ⟨fun {S w cs y} h => by
  obtain ⟨v3, rfl, h0, h1, h2, r3⟩ := h
  exact VRs.cons (.int _ _ h0.1 h0.2) (VRs.cons (.int _ _ h1.1 h1.2) (VRs.cons (.str _ h2) (VRs.cons (repSl_vr r3) (VRs.nil))))⟩

instance : AVal Data := ⟨fun x => .agg [.sl (x.nodes.map av)], 1, fun _ => rfl, fun _ => rfl, fun x y hy => by
  simp only [AV.cells, List.mem_cons, List.not_mem_nil, or_false] at hy
  subst hy; first | exact AvPure.int _ _ | exact AvPure.str _ | exact AvPure.bool _ | exact lav_clean x.nodes, fun _ _ => rfl, fun x y hy => by
  simp only [AV.cells, List.mem_cons, List.not_mem_nil, or_false] at hy
  subst hy; rfl⟩
theorem av_Data (x : Data) : av x = .agg [.sl (x.nodes.map av)] := eqq rfl
instance : AvRep Data := ⟨fun {S w cs y} h => by
  obtain ⟨v0, rfl, r0⟩ := h
  exact VRs.cons (repSl_vr r0) (VRs.nil)⟩

end Go.Proofs.Ytohalepkikjinaa
