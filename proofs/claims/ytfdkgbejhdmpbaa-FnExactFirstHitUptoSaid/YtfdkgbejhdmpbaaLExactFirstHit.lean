/-
  THE STATEMENT 'FnExactFirstHitUptoSaid': for every input of bulk at most 1048576 the law returns true, and what came in reads as it did. Conditions: the statement's own.
-/
import Derived.Test.YtfdkgbejhdmpbaaPackA
import Derived.Test.YtfdkgbejhdmpbaaWExactFirstHit
set_option linter.unusedVariables false
namespace Go.Proofs.Ytfdkgbejhdmpbaa
open Go.ChangeShapes Go.WideShapes Go.ChangeAt Go.RowKit Go.Proofs.Ytfdkgbejhdmpbaa.Ml Go.Proofs.Ytfdkgbejhdmpbaa.Av

set_option maxRecDepth 100000 in
theorem fnExactFirstHit_contract (H : Type) (enc : TypeId × Value → H) (W : World) (base : Nat) (args : Array Value) (ds gs : List (DataW H)) (before : List MemPlace)
    (hval : ∀ (j : Nat) t v, Try.f3.params[j]? = some t → args[j]? = some v → Value.okWide Try.prog W .any base t v)
    (hW : DataW.Whole enc Try.prog Try.f3.params.toList Rows.fnExactFirstHitSpec.vars false W args.toList ds gs before) (hk : Rows.uptoSmall H (ds ++ gs) = true) :
    Calls Try.prog 3 args W fun e W' => ∃ v, e = .returned v ∧ Rows.fnExactFirstHitSpec.post enc Try.prog Try.f3 false true false false W args v W' := by
  have hbulk : Rows.uptoBulkAll (ds ++ gs) ≤ 1048576 := of_decide_eq_true hk
  have hW' := hW
  obtain ⟨p, q, hA0, hV, rfl, hfz, hnd⟩ := hW
  have hA : DataW.TrodAll enc Try.prog W 0 (fun _ => true) true Try.f3.params.toList args.toList ds p := hA0
  rw [Try.params3] at hA hval
  obtain ⟨v0, vs0, d0, ds0, p0, q0, hargs0, rfl, rfl, h0, t0⟩ := trodAll_cons hA
  obtain ⟨v1, vs1, d1, ds1, p1, q1, rfl, rfl, rfl, h1, t1⟩ := trodAll_cons t0
  obtain ⟨rfl, rfl, rfl⟩ := trodAll_nil t1
  obtain rfl : args = #[v0, v1] := by cases args; simp_all
  have hV2 := hV
  obtain ⟨rfl, rfl⟩ := trodVars_none hV
  simp only [List.append_nil, Rows.uptoBulkAll] at hbulk
  obtain ⟨l0, r0, b0⟩ := open_sl readsPatS Try.underlying22 (hval 0 22 v0 rfl rfl) h0
  obtain ⟨cs1, rfl, y1, r1, b1⟩ := open_struct readsData Try.underlying25 (hval 1 25 v1 rfl rfl) h1
  have hcalls : Calls Try.prog 3 #[v0, .agg cs1.toArray] W (fun e w' => e = .returned (.bool true) ∧ Below W.heap.size W w') := by
    clear hval hW' hV hV2 hfz hnd hA0 hargs0 hA
    have hk0 : Bulk.bulk l0 ≤ 1048576 := by omega
    have hk1 : Bulk.bulk y1 ≤ 1048576 := by omega
    exact law_calls (lawFirstHit_ok l0 hk0 y1 hk1) (VRs.cons (repSl_vr r0) (VRs.cons (repAgg_vr r1 rfl) (VRs.nil)))
  exact hcalls.mono fun e W' ⟨he, hb⟩ => ⟨_, he, law_post rfl rfl (by kernel_rfl) hW' rfl hb⟩

set_option maxRecDepth 100000 in
theorem fnExactFirstHit_lifted (os : Os) (started : os.Started) (H : Type) (enc : TypeId × Value → H) (F : Stop.Interp) :
    ReturnsInHanded {} Try.checked os 3 .any ((Rows.OpenSpec.upto Rows.fnExactFirstHitSpec).pre6 enc Try.prog Try.f3 Rows.fnExactFirstHitUptoRow.domain false) (((Rows.OpenSpec.upto Rows.fnExactFirstHitSpec).at F).post enc Try.prog Try.f3 false true false false) := by
  refine returnsInHanded_of_cond (C := Try.checked) (s := Rows.OpenSpec.upto Rows.fnExactFirstHitSpec) (k := Rows.uptoSmall) rfl own' started (by kernel_rfl) Try.func3
    (OpenSpec.witness (enc := enc) (C := Try.checked) (s := Rows.OpenSpec.upto Rows.fnExactFirstHitSpec) (k := Rows.uptoSmall) rfl false ⟨#[], #[.slice none 0 0, .agg #[.slice none 0 0]], []⟩ 8 (by kernel_rfl) (by kernel_rfl) (by kernel_rfl)
      (x := ([.nil, .agg [.nil]], [], [])) (by kernel_rfl) rfl (by kernel_rfl)) ?_
  intro W base args ds gs before hval hW _ hk _
  exact fnExactFirstHit_contract H enc W base args ds gs before hval hW hk

theorem fnExactFirstHit_named : Try.pinned.checked.prog.funcNamed Rows.fnExactFirstHitUptoRow.func = some 3 := by kernel_rfl
theorem fnExactFirstHit_closed : joinedFacts Try.pinned.checked.prog 3 Try.f3 (Rows.OpenSpec.upto Rows.fnExactFirstHitSpec).bare Rows.fnExactFirstHitUptoRow = true := by kernel_rfl
theorem fnExactFirstHit_holds : Rows.FnExactFirstHitUptoSaid :=
  OpenClaim.holds_of_cond 3 Try.f3 rfl rfl rfl rfl rfl rfl rfl ⟨rfl, rfl, rfl, rfl, rfl⟩ rfl rfl rfl rfl rfl fnExactFirstHit_named Try.func3 fnExactFirstHit_closed
    (of_decide_eq_true (by kernel_rfl)) (by unfold Func.isWrapper; first | (rw [if_pos (by decide +kernel)]; kernel_rfl) | (rw [if_neg (by decide +kernel)]; exact ⟨rfl, rfl⟩))
    (fun os started H enc _ F => fnExactFirstHit_lifted os started H enc F)

end Go.Proofs.Ytfdkgbejhdmpbaa
