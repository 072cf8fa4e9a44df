/-
  THE STATEMENT 'FnExactHitUptoSaid': for every input of bulk at most 1048576 the law returns true, and what came in reads as it did. Conditions: the statement's own.
-/
import Derived.Test.YtfdkgbejhdmpbaaPackA
import Derived.Test.YtfdkgbejhdmpbaaWExactHit
set_option linter.unusedVariables false
namespace Go.Proofs.Ytfdkgbejhdmpbaa
open Go.ChangeShapes Go.WideShapes Go.ChangeAt Go.RowKit Go.Proofs.Ytfdkgbejhdmpbaa.Ml Go.Proofs.Ytfdkgbejhdmpbaa.Av

set_option maxRecDepth 100000 in
theorem fnExactHit_contract (H : Type) (enc : TypeId × Value → H) (W : World) (base : Nat) (args : Array Value) (ds gs : List (DataW H)) (before : List MemPlace)
    (hval : ∀ (j : Nat) t v, Try.f4.params[j]? = some t → args[j]? = some v → Value.okWide Try.prog W .any base t v)
    (hW : DataW.Whole enc Try.prog Try.f4.params.toList Rows.fnExactHitSpec.vars false W args.toList ds gs before) (hk : Rows.uptoSmall H (ds ++ gs) = true) :
    Calls Try.prog 4 args W fun e W' => ∃ v, e = .returned v ∧ Rows.fnExactHitSpec.post enc Try.prog Try.f4 false true false false W args v W' := by
  have hbulk : Rows.uptoBulkAll (ds ++ gs) ≤ 1048576 := of_decide_eq_true hk
  have hW' := hW
  obtain ⟨p, q, hA0, hV, rfl, hfz, hnd⟩ := hW
  have hA : DataW.TrodAll enc Try.prog W 0 (fun _ => true) true Try.f4.params.toList args.toList ds p := hA0
  rw [Try.params4] at hA hval
  obtain ⟨v0, vs0, d0, ds0, p0, q0, hargs0, rfl, rfl, h0, t0⟩ := trodAll_cons hA
  obtain ⟨v1, vs1, d1, ds1, p1, q1, rfl, rfl, rfl, h1, t1⟩ := trodAll_cons t0
  obtain ⟨rfl, rfl, rfl⟩ := trodAll_nil t1
  obtain rfl : args = #[v0, v1] := by cases args; simp_all
  have hV2 := hV
  obtain ⟨rfl, rfl⟩ := trodVars_none hV
  simp only [List.append_nil, Rows.uptoBulkAll] at hbulk
  obtain ⟨cs0, rfl, y0, r0, b0⟩ := open_struct readsPat Try.underlying40 (hval 0 40 v0 rfl rfl) h0
  obtain ⟨cs1, rfl, y1, r1, b1⟩ := open_struct readsData Try.underlying25 (hval 1 25 v1 rfl rfl) h1
  have hcalls : Calls Try.prog 4 #[.agg cs0.toArray, .agg cs1.toArray] W (fun e w' => e = .returned (.bool true) ∧ Below W.heap.size W w') := by
    clear hval hW' hV hV2 hfz hnd hA0 hargs0 hA
    have hk0 : Bulk.bulk y0 ≤ 1048576 := by omega
    have hk1 : Bulk.bulk y1 ≤ 1048576 := by omega
    exact law_calls (lawHit_ok y0 hk0 y1 hk1) (VRs.cons (repAgg_vr r0 rfl) (VRs.cons (repAgg_vr r1 rfl) (VRs.nil)))
  exact hcalls.mono fun e W' ⟨he, hb⟩ => ⟨_, he, law_post rfl rfl (by kernel_rfl) hW' rfl hb⟩

set_option maxRecDepth 100000 in
theorem fnExactHit_lifted (os : Os) (started : os.Started) (H : Type) (enc : TypeId × Value → H) (F : Stop.Interp) :
    ReturnsInHanded {} Try.checked os 4 .any ((Rows.OpenSpec.upto Rows.fnExactHitSpec).pre6 enc Try.prog Try.f4 Rows.fnExactHitUptoRow.domain false) (((Rows.OpenSpec.upto Rows.fnExactHitSpec).at F).post enc Try.prog Try.f4 false true false false) := by
  refine returnsInHanded_of_cond (C := Try.checked) (s := Rows.OpenSpec.upto Rows.fnExactHitSpec) (k := Rows.uptoSmall) rfl own' started (by kernel_rfl) Try.func4
    (OpenSpec.witness (enc := enc) (C := Try.checked) (s := Rows.OpenSpec.upto Rows.fnExactHitSpec) (k := Rows.uptoSmall) rfl false ⟨#[], #[.agg #[.slice none 0 0], .agg #[.slice none 0 0]], []⟩ 8 (by kernel_rfl) (by kernel_rfl) (by kernel_rfl)
      (x := ([.agg [.nil], .agg [.nil]], [], [])) (by kernel_rfl) rfl (by kernel_rfl)) ?_
  intro W base args ds gs before hval hW _ hk _
  exact fnExactHit_contract H enc W base args ds gs before hval hW hk

theorem fnExactHit_named : Try.pinned.checked.prog.funcNamed Rows.fnExactHitUptoRow.func = some 4 := by kernel_rfl
theorem fnExactHit_closed : joinedFacts Try.pinned.checked.prog 4 Try.f4 (Rows.OpenSpec.upto Rows.fnExactHitSpec).bare Rows.fnExactHitUptoRow = true := by kernel_rfl
theorem fnExactHit_holds : Rows.FnExactHitUptoSaid :=
  OpenClaim.holds_of_cond 4 Try.f4 rfl rfl rfl rfl rfl rfl rfl ⟨rfl, rfl, rfl, rfl, rfl⟩ rfl rfl rfl rfl rfl fnExactHit_named Try.func4 fnExactHit_closed
    (of_decide_eq_true (by kernel_rfl)) (by unfold Func.isWrapper; first | (rw [if_pos (by decide +kernel)]; kernel_rfl) | (rw [if_neg (by decide +kernel)]; exact ⟨rfl, rfl⟩))
    (fun os started H enc _ F => fnExactHit_lifted os started H enc F)

end Go.Proofs.Ytfdkgbejhdmpbaa
