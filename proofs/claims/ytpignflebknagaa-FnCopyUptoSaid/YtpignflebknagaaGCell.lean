/-
  Val, Cell BY ABSTRACT TEXTS: as abstract values, copies, comparisons, sizes. Conditions: none. Printed by genav.py.
-/
import Derived.Test.YtpignflebknagaaDCell
import Derived.Test.YtpignflebknagaaAvRep
import Derived.Test.YtpignflebknagaaIrGCell
set_option linter.unusedVariables false
set_option linter.unusedSimpArgs false
set_option maxRecDepth 100000
namespace Go.Proofs.Ytpignflebknagaa
open Go.RowKit Go.Proofs.Ytpignflebknagaa.Av Go.Proofs.Ytpignflebknagaa.Ml
open Go.Proofs.Ytpignflebknagaa.Av.AVal (av)

instance : AVal Val := ⟨fun x => .agg [.int .i64 x.kind, .int .i64 x.n, .str x.s], 3, fun _ => rfl, fun _ => rfl, fun x y hy => by
  simp only [AV.cells, List.mem_cons, List.not_mem_nil, or_false] at hy
  rcases hy with rfl | rfl | rfl <;> first | exact AvPure.int _ _ | exact AvPure.str _ | exact AvPure.bool _, fun _ _ => rfl, fun x y hy => by
  simp only [AV.cells, List.mem_cons, List.not_mem_nil, or_false] at hy
  rcases hy with rfl | rfl | rfl <;> rfl⟩
theorem av_Val (x : Val) : av x = .agg [.int .i64 x.kind, .int .i64 x.n, .str x.s] := eqq rfl
instance : AvRep Val := ⟨fun {S w cs y} h => by
  obtain ⟨rfl, h0, h1, h2⟩ := h
  exact VRs.cons (.int _ _ h0.1 h0.2) (VRs.cons (.int _ _ h1.1 h1.2) (VRs.cons (.str _ h2) (VRs.nil)))⟩

instance : AVal Cell := ⟨fun x => .agg [.int .i64 x.kind, .int .i64 x.n, .str x.s, .int .i64 x.a.kind, .int .i64 x.a.n, .str x.a.s, .int .i64 x.b.kind, .int .i64 x.b.n, .str x.b.s], 9, fun _ => rfl, fun _ => rfl, fun x y hy => by
  simp only [AV.cells, List.mem_cons, List.not_mem_nil, or_false] at hy
  rcases hy with rfl | rfl | rfl | rfl | rfl | rfl | rfl | rfl | rfl <;> first | exact AvPure.int _ _ | exact AvPure.str _ | exact AvPure.bool _, fun _ _ => rfl, fun x y hy => by
  simp only [AV.cells, List.mem_cons, List.not_mem_nil, or_false] at hy
  rcases hy with rfl | rfl | rfl | rfl | rfl | rfl | rfl | rfl | rfl <;> rfl⟩
theorem av_Cell (x : Cell) : av x = .agg [.int .i64 x.kind, .int .i64 x.n, .str x.s, .int .i64 x.a.kind, .int .i64 x.a.n, .str x.a.s, .int .i64 x.b.kind, .int .i64 x.b.n, .str x.b.s] := eqq rfl
instance : AvRep Cell := ⟨fun {S w cs y} h => by
  obtain ⟨rfl, h0, h1, h2, h3, h4, h5, h6, h7, h8⟩ := h
  exact VRs.cons (.int _ _ h0.1 h0.2) (VRs.cons (.int _ _ h1.1 h1.2) (VRs.cons (.str _ h2) (VRs.cons (.int _ _ h3.1 h3.2) (VRs.cons (.int _ _ h4.1 h4.2) (VRs.cons (.str _ h5) (VRs.cons (.int _ _ h6.1 h6.2) (VRs.cons (.int _ _ h7.1 h7.2) (VRs.cons (.str _ h8) (VRs.nil)))))))))⟩

end Go.Proofs.Ytpignflebknagaa
