/-
  THE STATEMENT 'FnExactCopyUptoSaid': for every input of bulk at most 1048576 the law returns true, and what came in reads as it did. Conditions: the statement's own.
-/
import Derived.Test.YtpnnhgminiihnaaReads
import Derived.Test.YtpnnhgminiihnaaWExactCopy
set_option linter.unusedVariables false
namespace Go.Proofs.Ytpnnhgminiihnaa
open Go.ChangeShapes Go.WideShapes Go.ChangeAt Go.RowKit Go.Proofs.Ytpnnhgminiihnaa.Ml Go.Proofs.Ytpnnhgminiihnaa.Av

set_option maxRecDepth 100000 in
theorem fnExactCopy_contract (H : Type) (enc : TypeId × Value → H) (W : World) (base : Nat) (args : Array Value) (ds gs : List (DataW H)) (before : List MemPlace)
    (hval : ∀ (j : Nat) t v, Try.f5.params[j]? = some t → args[j]? = some v → Value.okWide Try.prog W .any base t v)
    (hW : DataW.Whole enc Try.prog Try.f5.params.toList Rows.fnExactCopySpec.vars false W args.toList ds gs before) (hk : Rows.uptoSmall H (ds ++ gs) = true) :
    Calls Try.prog 5 args W fun e W' => ∃ v, e = .returned v ∧ Rows.fnExactCopySpec.post enc Try.prog Try.f5 false true false false W args v W' := by
  have hbulk : Rows.uptoBulkAll (ds ++ gs) ≤ 1048576 := of_decide_eq_true hk
  have hW' := hW
  obtain ⟨p, q, hA0, hV, rfl, hfz, hnd⟩ := hW
  have hA : DataW.TrodAll enc Try.prog W 0 (fun _ => true) true Try.f5.params.toList args.toList ds p := hA0
  rw [Try.params5] at hA hval
  obtain ⟨v0, vs0, d0, ds0, p0, q0, hargs0, rfl, rfl, h0, t0⟩ := trodAll_cons hA
  obtain ⟨v1, vs1, d1, ds1, p1, q1, rfl, rfl, rfl, h1, t1⟩ := trodAll_cons t0
  obtain ⟨rfl, rfl, rfl⟩ := trodAll_nil t1
  obtain rfl : args = #[v0, v1] := by cases args; simp_all
  have hV2 := hV
  obtain ⟨rfl, rfl⟩ := trodVars_none hV
  simp only [List.append_nil, Rows.uptoBulkAll] at hbulk
  obtain ⟨l0, r0, b0⟩ := open_sl readsCellS Try.underlying22 (hval 0 22 v0 rfl rfl) h0
  obtain ⟨l1, r1, b1⟩ := open_sl readsValS Try.underlying34 (hval 1 34 v1 rfl rfl) h1
  have hcalls : Calls Try.prog 5 #[v0, v1] W (fun e w' => e = .returned (.bool true) ∧ Below W.heap.size W w') := by
    clear hval hW' hV hV2 hfz hnd hA0 hargs0 hA
    have hk0 : Bulk.bulk l0 ≤ 1048576 := by omega
    have hk1 : Bulk.bulk l1 ≤ 1048576 := by omega
    exact law_calls (lawCopy_ok l0 hk0 l1 hk1) (VRs.cons (repSl_vr r0) (VRs.cons (repSl_vr r1) (VRs.nil)))
  exact hcalls.mono fun e W' ⟨he, hb⟩ => ⟨_, he, law_post rfl rfl (by kernel_rfl) hW' rfl hb⟩

set_option maxRecDepth 100000 in
theorem fnExactCopy_lifted (os : Os) (started : os.Started) (H : Type) (enc : TypeId × Value → H) (F : Stop.Interp) :
    ReturnsInHanded {} Try.checked os 5 .any ((Rows.OpenSpec.upto Rows.fnExactCopySpec).pre6 enc Try.prog Try.f5 Rows.fnExactCopyUptoRow.domain false) (((Rows.OpenSpec.upto Rows.fnExactCopySpec).at F).post enc Try.prog Try.f5 false true false false) := by
  refine returnsInHanded_of_cond (C := Try.checked) (s := Rows.OpenSpec.upto Rows.fnExactCopySpec) (k := Rows.uptoSmall) rfl own' started (by kernel_rfl) Try.func5
    (OpenSpec.witness (enc := enc) (C := Try.checked) (s := Rows.OpenSpec.upto Rows.fnExactCopySpec) (k := Rows.uptoSmall) rfl false ⟨#[], #[.slice none 0 0, .slice none 0 0], []⟩ 8 (by kernel_rfl) (by kernel_rfl) (by kernel_rfl)
      (x := ([.nil, .nil], [], [])) (by kernel_rfl) rfl (by kernel_rfl)) ?_
  intro W base args ds gs before hval hW _ hk _
  exact fnExactCopy_contract H enc W base args ds gs before hval hW hk

theorem fnExactCopy_holds : Rows.FnExactCopyUptoSaid :=
  OpenClaim.holds_of_cond 5 Try.f5 rfl rfl rfl rfl rfl rfl rfl ⟨rfl, rfl, rfl, rfl, rfl⟩ rfl rfl rfl rfl rfl (by kernel_rfl) Try.func5 (by kernel_rfl)
    (of_decide_eq_true (by kernel_rfl)) (by unfold Func.isWrapper; first | (rw [if_pos (by decide +kernel)]; kernel_rfl) | (rw [if_neg (by decide +kernel)]; exact ⟨rfl, rfl⟩))
    (fun os started H enc _ F => fnExactCopy_lifted os started H enc F)

end Go.Proofs.Ytpnnhgminiihnaa
