/-
 Outcome BY ABSTRACT TEXTS: as abstract values, copies, comparisons, sizes. Conditions: none. Printed by genav.py.
-/
import Derived.Test.YtjnljjbmmmpdiaaDoorDOut
import Derived.Test.YtjnljjbmmmpdiaaDoorGStr
import Derived.Test.YtjnljjbmmmpdiaaDoorIrGOut
set_option linter.unusedVariables false
set_option linter.unusedSimpArgs false
set_option maxRecDepth 100000
namespace Go.Proofs.YtjnljjbmmmpdiaaDoor
open Go.RowKit Go.Proofs.YtjnljjbmmmpdiaaDoor.Av Go.Proofs.YtjnljjbmmmpdiaaDoor.Ml
open Go.Proofs.YtjnljjbmmmpdiaaDoor.Av.AVal (av)

instance : AVal Outcome := ⟨fun x => .agg [.int .i64 x.kind, .int .i64 x.n, .sl (x.trace.map av), .int .i64 x.steps], 4, fun _ => rfl, fun _ => rfl, fun x y hy => by
 simp only [AV.cells, List.mem_cons, List.not_mem_nil, or_false] at hy
 rcases hy with rfl | rfl | rfl | rfl <;> first | exact AvPure.int _ _ | exact AvPure.str _ | exact AvPure.bool _ | exact lav_clean x.trace, fun _ _ => rfl, fun x y hy => by
 simp only [AV.cells, List.mem_cons, List.not_mem_nil, or_false] at hy
 rcases hy with rfl | rfl | rfl | rfl <;> rfl⟩
theorem av_Outcome (x : Outcome) : av x = .agg [.int .i64 x.kind, .int .i64 x.n, .sl (x.trace.map av), .int .i64 x.steps] := eqq rfl
instance : AvRep Outcome := ⟨fun {S w cs y} h => by
 obtain ⟨v2, rfl, h0, h1, h3, r2⟩ := h
 exact VRs.cons (.int _ _ h0.1 h0.2) (VRs.cons (.int _ _ h1.1 h1.2) (VRs.cons (repSl_vr r2) (VRs.cons (.int _ _ h3.1 h3.2) (VRs.nil))))⟩

theorem szOutcome_ok (x : Outcome) (n : Int) (hx : Bulk.bulk x ≤ 1048576) (h1 : -1 ≤ n) (h2 : n ≤ 1048576) : SzOk 4 [av x, .int .i64 n] := by
 have hb : Bulk.bulk x.kind + Bulk.bulk x.n + Bulk.bulk x.trace + Bulk.bulk x.steps + 1 ≤ 1048576 := hx
 refine funH_laws_szOutcome rfl ?_
 simp +contextual -dsimp only [↓SD, SU, SB, simprocAttr, ir_laws_szOutcome, rs_laws_szOutcome, av_Outcome]
 (repeat' (first | intro _ | refine And.intro ?_ ?_))
 all_goals first | omega | (refine Goes.post [] ?_; simp +contextual -dsimp only [↓SD, SU, SB, simprocAttr, rs_laws_szOutcome]; exact ⟨_, rfl, rfl, by omega, by omega⟩) | (refine aCallH_of [] (szStringS_ok x.trace _ (by omega)  (by omega) (by omega)) (by simp +contextual -dsimp only [↓SD, SU, SB, simprocAttr]) ?_; rintro r hp' ⟨m, rfl, rfl, hm1, hm2⟩; simp +contextual -dsimp only [↓SD, SU, SB, simprocAttr]; (repeat' (first | intro _ | refine And.intro ?_ ?_)))
 all_goals first | omega | (refine Goes.post [] ?_; simp +contextual -dsimp only [↓SD, SU, SB, simprocAttr, rs_laws_szOutcome]; exact ⟨_, rfl, rfl, by omega, by omega⟩)

theorem toOutcome_ok (x : Outcome) (hx : Bulk.bulk x ≤ 1048576) : CallsF Tryd.prog 6 [av x] (av x) := by
 have hb : Bulk.bulk x.kind + Bulk.bulk x.n + Bulk.bulk x.trace + Bulk.bulk x.steps + 1 ≤ 1048576 := hx
 refine fun_laws_toOutcome rfl (by simp; exact AVal.clean x) (AVal.clean x) ?_
 simp +contextual -dsimp only [↓SD, SU, SB, simprocAttr, ir_laws_toOutcome, rs_laws_toOutcome, av_Outcome]
 (repeat' (first | intro _ | refine And.intro ?_ ?_))
 refine aCallK_of _ (toStringS_ok x.trace (by omega)) ?_
 simp +contextual -dsimp only [↓SD, SU, SB, simprocAttr]

theorem eqOutcome_ok (x : Outcome) (hx : Bulk.bulk x ≤ 1048576) : CallsF Tryd.prog 8 [av x, av x] (.bool true) := by
 have hb : Bulk.bulk x.kind + Bulk.bulk x.n + Bulk.bulk x.trace + Bulk.bulk x.steps + 1 ≤ 1048576 := hx
 refine fun_laws_eqOutcome rfl (by simp; exact AVal.clean x) (AvPure.bool _) ?_
 simp +contextual -dsimp only [↓SD, SU, SB, simprocAttr, ir_laws_eqOutcome, rs_laws_eqOutcome, av_Outcome, beq_self_eq_true]
 refine aCallK_of _ (eqStringS_ok x.trace (by omega)) ?_
 simp +contextual -dsimp only [↓SD, SU, SB, simprocAttr, beq_self_eq_true]

end Go.Proofs.YtjnljjbmmmpdiaaDoor
