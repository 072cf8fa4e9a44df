/-
  THE STATEMENT 'FnCopyUptoSaid': for every input of bulk at most 1048576 the law returns true, and what came in reads as it did. Conditions: the statement's own.
-/
import Derived.Test.YtpignflebknagaaReads
import Derived.Test.YtpignflebknagaaDByte
import Derived.Test.YtpignflebknagaaWCopy
set_option linter.unusedVariables false
namespace Go.Proofs.Ytpignflebknagaa
open Go.ChangeShapes Go.WideShapes Go.ChangeAt Go.RowKit Go.Proofs.Ytpignflebknagaa.Ml Go.Proofs.Ytpignflebknagaa.Av

set_option maxRecDepth 100000 in
theorem fnCopy_contract (H : Type) (enc : TypeId × Value → H) (W : World) (base : Nat) (args : Array Value) (ds gs : List (DataW H)) (before : List MemPlace)
    (hval : ∀ (j : Nat) t v, Try.f4.params[j]? = some t → args[j]? = some v → Value.okWide Try.prog W .any base t v)
    (hW : DataW.Whole enc Try.prog Try.f4.params.toList Rows.fnCopySpec.vars false W args.toList ds gs before) (hk : Rows.uptoSmall H (ds ++ gs) = true) :
    Calls Try.prog 4 args W fun e W' => ∃ v, e = .returned v ∧ Rows.fnCopySpec.post enc Try.prog Try.f4 false true false false W args v W' := by
  have hbulk : Rows.uptoBulkAll (ds ++ gs) ≤ 1048576 := of_decide_eq_true hk
  have hW' := hW
  obtain ⟨p, q, hA0, hV, rfl, hfz, hnd⟩ := hW
  have hA : DataW.TrodAll enc Try.prog W 0 (fun _ => true) true Try.f4.params.toList args.toList ds p := hA0
  rw [Try.params4] at hA hval
  obtain ⟨v0, vs0, d0, ds0, p0, q0, hargs0, rfl, rfl, h0, t0⟩ := trodAll_cons hA
  obtain ⟨rfl, rfl, rfl⟩ := trodAll_nil t0
  obtain rfl : args = #[v0] := by cases args; simp_all
  have hV2 := hV
  obtain ⟨rfl, rfl⟩ := trodVars_none hV
  simp only [List.append_nil, Rows.uptoBulkAll] at hbulk
  obtain ⟨l0, r0, b0⟩ := open_sl readsU8S Try.underlying22 (hval 0 22 v0 rfl rfl) h0
  have hcalls : Calls Try.prog 4 #[v0] W (fun e w' => e = .returned (.bool true) ∧ Below W.heap.size W w') := by
    clear hval hW' hV hV2 hfz hnd hA0 hargs0 hA
    have hk0 : Bulk.bulk l0 ≤ 1048576 := by omega
    exact law_calls (lawCopyD_ok l0 hk0) (VRs.cons (repSl_vr r0) (VRs.nil))
  exact hcalls.mono fun e W' ⟨he, hb⟩ => ⟨_, he, law_post rfl rfl (by kernel_rfl) hW' rfl hb⟩

set_option maxRecDepth 100000 in
theorem fnCopy_lifted (os : Os) (started : os.Started) (H : Type) (enc : TypeId × Value → H) (F : Stop.Interp) :
    ReturnsInHanded {} Try.checked os 4 .any ((Rows.OpenSpec.upto Rows.fnCopySpec).pre6 enc Try.prog Try.f4 Rows.fnCopyUptoRow.domain false) (((Rows.OpenSpec.upto Rows.fnCopySpec).at F).post enc Try.prog Try.f4 false true false false) := by
  refine returnsInHanded_of_cond (C := Try.checked) (s := Rows.OpenSpec.upto Rows.fnCopySpec) (k := Rows.uptoSmall) rfl own' started (by kernel_rfl) Try.func4
    (OpenSpec.witness (enc := enc) (C := Try.checked) (s := Rows.OpenSpec.upto Rows.fnCopySpec) (k := Rows.uptoSmall) rfl false ⟨#[], #[.slice none 0 0], []⟩ 8 (by kernel_rfl) (by kernel_rfl) (by kernel_rfl)
      (x := ([.nil], [], [])) (by kernel_rfl) rfl (by kernel_rfl)) ?_
  intro W base args ds gs before hval hW _ hk _
  exact fnCopy_contract H enc W base args ds gs before hval hW hk

theorem fnCopy_named : Try.pinned.checked.prog.funcNamed Rows.fnCopyUptoRow.func = some 4 := by kernel_rfl
theorem fnCopy_closed : joinedFacts Try.pinned.checked.prog 4 Try.f4 (Rows.OpenSpec.upto Rows.fnCopySpec).bare Rows.fnCopyUptoRow = true := by kernel_rfl
theorem fnCopy_holds : Rows.FnCopyUptoSaid :=
  OpenClaim.holds_of_cond 4 Try.f4 rfl rfl rfl rfl rfl rfl rfl ⟨rfl, rfl, rfl, rfl, rfl⟩ rfl rfl rfl rfl rfl fnCopy_named Try.func4 fnCopy_closed
    (of_decide_eq_true (by kernel_rfl)) (by unfold Func.isWrapper; first | (rw [if_pos (by decide +kernel)]; kernel_rfl) | (rw [if_neg (by decide +kernel)]; exact ⟨rfl, rfl⟩))
    (fun os started H enc _ F => fnCopy_lifted os started H enc F)

end Go.Proofs.Ytpignflebknagaa
