/-
 THE STATEMENT 'FnExactReportUptoSaid': for every input of bulk at most 1048576 the law returns true, and what came in reads as it did. Conditions: the statement's own.
-/
import Derived.Test.YtjnljjbmmmpdiaaDoorLaidI
import Derived.Test.YtjnljjbmmmpdiaaDoorReads
import Derived.Test.YtjnljjbmmmpdiaaDoorReportW
set_option linter.unusedVariables false
namespace Go.Proofs.YtjnljjbmmmpdiaaDoor
open Go.ChangeShapes Go.WideShapes Go.ChangeAt Go.RowKit Go.Proofs.YtjnljjbmmmpdiaaDoor.Ml Go.Proofs.YtjnljjbmmmpdiaaDoor.Av

set_option maxRecDepth 100000 in
theorem fnExactReport_contract (H : Type) (enc : TypeId × Value → H) (W : World) (base : Nat) (args : Array Value) (ds gs : List (DataW H)) (before : List MemPlace)
  (hval : ∀ (j : Nat) t v, Tryd.f3.params[j]? = some t → args[j]? = some v → Value.okWide Tryd.prog W .any base t v)
  (hW : DataW.Whole enc Tryd.prog Tryd.f3.params.toList Rows.fnExactReportSpec.vars false W args.toList ds gs before) (hk : Rows.uptoSmall H (ds ++ gs) = true) (hsh : W.ShapedOpen Tryd.prog) :
  Calls Tryd.prog 3 args W fun e W' => ∃ v, e = .returned v ∧ Rows.fnExactReportSpec.post enc Tryd.prog Tryd.f3 false true false false W args v W' := by
 obtain ⟨m, hb0, hmr⟩ := glob_met hsh
 clear hsh
 have hbulk : Rows.uptoBulkAll (ds ++ gs) ≤ 1048576 := of_decide_eq_true hk
 have hW' := hW
 obtain ⟨p, q, hA0, hV, rfl, hfz, hnd⟩ := hW
 have hA : DataW.TrodAll enc Tryd.prog W 0 (fun _ => true) true Tryd.f3.params.toList args.toList ds p := hA0
 rw [Tryd.params3] at hA hval
 obtain ⟨v0, vs0, d0, ds0, p0, q0, hargs0, rfl, rfl, h0, t0⟩ := trodAll_cons hA
 obtain ⟨rfl, rfl, rfl⟩ := trodAll_nil t0
 obtain rfl : args = #[v0] := by cases args; simp_all
 have hV2 := hV
 obtain ⟨rfl, rfl⟩ := trodVars_none hV
 simp only [List.append_nil, Rows.uptoBulkAll] at hbulk
 obtain ⟨cs0, rfl, y0, r0, b0⟩ := open_struct readsOutcome Tryd.underlying24 (hval 0 24 v0 rfl rfl) h0
 have hcalls : Calls Tryd.prog 3 #[.agg cs0.toArray] W (fun e w' => e = .returned (.bool true) ∧ Below W.heap.size W w') := by
  clear hval hW' hV hV2 hfz hnd hA0 hargs0 hA
  have hk0 : Bulk.bulk y0 ≤ 1048576 := by omega
  have C := calls_of_glob (lawReport_ok y0 m 3 hk0) (AvPure.bool _) (S := fun b => b < W.heap.size) (w := W) (vs := [.agg cs0.toArray]) (fun _ h => h) hb0 hmr (VRs.cons (repAgg_vr r0 rfl) (VRs.nil))
  exact C.mono fun e w' ⟨v, S', he, hv, hb⟩ => by cases hv; exact ⟨he, hb⟩
 exact hcalls.mono fun e W' ⟨he, hb⟩ => ⟨_, he, law_post rfl rfl (by kernel_rfl) hW' rfl hb⟩

set_option maxRecDepth 100000 in
theorem fnExactReport_lifted (os : Os) (started : os.Started) (H : Type) (enc : TypeId × Value → H) (F : Stop.Interp) :
  ReturnsInHanded {} Tryd.checked os 3 .any ((Rows.OpenSpec.upto Rows.fnExactReportSpec).preRow enc Tryd.prog Tryd.f3 Rows.fnExactReportUptoRow.domain false Rows.fnExactReportUptoRow.laid) (((Rows.OpenSpec.upto Rows.fnExactReportSpec).at F).post enc Tryd.prog Tryd.f3 false true false false) := by
 have hx : DataW.whole enc Tryd.prog ((laidWorld os).forCall (fun _ _ => 0) ⟨#[], #[.agg #[.int .i64 0, .int .i64 0, .slice none 0 0, .int .i64 0]], []⟩).memory Tryd.f3.params.toList Rows.fnExactReportSpec.vars false (#[.agg #[.int .i64 0, .int .i64 0, .slice none 0 0, .int .i64 0]] : Array Value).toList 8 = some ([.agg [.lit (.int .i64 0), .lit (.int .i64 0), .nil, .lit (.int .i64 0)]], [], []) := by kernel_rfl
 refine returnsInHanded_of_row (C := Tryd.checked) (s := Rows.OpenSpec.upto Rows.fnExactReportSpec) own' started (by kernel_rfl) Tryd.func3
  (witness_row_at (enc := enc) (C := Tryd.checked) false (laidWorld os) #[.agg #[.int .i64 0, .int .i64 0, .slice none 0 0, .int .i64 0]] rfl (by kernel_rfl) (by kernel_rfl) (by kernel_rfl)
   (OpenSpec.preRow_of_cond 8 hx (by kernel_rfl) (fun k hk => by cases hk; kernel_rfl) (by kernel_rfl) (laid_met os _))) ?_
 intro W base args ds gs before hval hW _ hk _ _ hsh _
 exact fnExactReport_contract H enc W base args ds gs before hval hW (hk _ rfl) hsh

theorem fnExactReport_said : Rows.FnExactReportUptoSaid :=
 OpenClaim.holds_of_cond 3 Tryd.f3 rfl rfl rfl rfl rfl rfl rfl ⟨rfl, rfl, rfl, rfl, rfl⟩ rfl rfl rfl rfl rfl (by kernel_rfl) Tryd.func3 (by kernel_rfl)
  (of_decide_eq_true (by kernel_rfl)) (by unfold Func.isWrapper; first | (rw [if_pos (by decide +kernel)]; kernel_rfl) | (rw [if_neg (by decide +kernel)]; exact ⟨rfl, rfl⟩))
  (fun os started H enc _ F => by rw [OpenClaim.pre_eq_preRow]; exact fnExactReport_lifted os started H enc F)

theorem fnExactReport_plain (f : FuncId) (fn : Func) (hf : Tryd.pinned.checked.prog.funcNamed Rows.fnExactReportUptoRow.func = some f) (hfn : Tryd.pinned.checked.prog.funcs[f]? = some fn) :
  false = Tryd.pinned.checked.prog.looks [] ∧ ∀ (j : Nat) t, fn.params[j]? = some t → Tryd.pinned.checked.prog.wantsStandIn t = false := by
 obtain rfl : f = 3 := Option.some.inj ((show Tryd.prog.funcNamed Rows.fnExactReportUptoRow.func = some 3 by kernel_rfl).symm.trans hf) |>.symm
 obtain rfl : fn = Tryd.f3 := (Option.some.inj (Tryd.func3.symm.trans hfn)).symm
 refine ⟨by kernel_rfl, fun j t ht => ?_⟩
 rw [Tryd.params3] at ht
 have hmem := Array.mem_of_getElem? ht
 simp only [List.mem_toArray, List.mem_cons, List.not_mem_nil, or_false] at hmem
 rcases hmem with rfl
 ·exact (show Tryd.prog.wantsStandIn 24 = false by kernel_rfl)

theorem fnExactReport_card : Rows.FnExactReportUptoCardSaid :=
 Claim7.holds_tied_plain_at .later [] _ _ _ _ fnExactReport_said (fun _ h => by cases h) (by kernel_rfl) (fun _ h => by cases h) fnExactReportUpto_row_tie rfl ⟨rfl, rfl⟩ (by kernel_rfl) rfl fnExactReport_plain (by kernel_rfl)

end Go.Proofs.YtjnljjbmmmpdiaaDoor
