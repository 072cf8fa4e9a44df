/-
  THE STATEMENT 'FnExactAsksOfUptoSaid': for every input of bulk at most 1048576 the law returns true, and what came in reads as it did. Conditions: the statement's own.
-/
import Derived.Test.YtohalepkikjinaaPackA
import Derived.Test.YtohalepkikjinaaWExactAsksOf
set_option linter.unusedVariables false
namespace Go.Proofs.Ytohalepkikjinaa
open Go.ChangeShapes Go.WideShapes Go.ChangeAt Go.RowKit Go.Proofs.Ytohalepkikjinaa.Ml Go.Proofs.Ytohalepkikjinaa.Av

set_option maxRecDepth 100000 in
theorem fnExactAsksOf_contract (H : Type) (enc : TypeId × Value → H) (W : World) (base : Nat) (args : Array Value) (ds gs : List (DataW H)) (before : List MemPlace)
    (hval : ∀ (j : Nat) t v, Try.f3.params[j]? = some t → args[j]? = some v → Value.okWide Try.prog W .any base t v)
    (hW : DataW.Whole enc Try.prog Try.f3.params.toList Rows.fnExactAsksOfSpec.vars false W args.toList ds gs before) (hk : Rows.uptoSmall H (ds ++ gs) = true) :
    Calls Try.prog 3 args W fun e W' => ∃ v, e = .returned v ∧ Rows.fnExactAsksOfSpec.post enc Try.prog Try.f3 false true false false W args v W' := by
  have hbulk : Rows.uptoBulkAll (ds ++ gs) ≤ 1048576 := of_decide_eq_true hk
  have hW' := hW
  obtain ⟨p, q, hA0, hV, rfl, hfz, hnd⟩ := hW
  have hA : DataW.TrodAll enc Try.prog W 0 (fun _ => true) true Try.f3.params.toList args.toList ds p := hA0
  rw [Try.params3] at hA hval
  obtain ⟨v0, vs0, d0, ds0, p0, q0, hargs0, rfl, rfl, h0, t0⟩ := trodAll_cons hA
  obtain ⟨rfl, rfl, rfl⟩ := trodAll_nil t0
  obtain rfl : args = #[v0] := by cases args; simp_all
  have hV2 := hV
  obtain ⟨rfl, rfl⟩ := trodVars_none hV
  simp only [List.append_nil, Rows.uptoBulkAll] at hbulk
  obtain ⟨l0, r0, b0⟩ := open_sl readsPatS Try.underlying22 (hval 0 22 v0 rfl rfl) h0
  have hcalls : Calls Try.prog 3 #[v0] W (fun e w' => e = .returned (.bool true) ∧ Below W.heap.size W w') := by
    clear hval hW' hV hV2 hfz hnd hA0 hargs0 hA
    have hk0 : Bulk.bulk l0 ≤ 1048576 := by omega
    exact law_calls (lawAsksOf_ok l0 hk0) (VRs.cons (repSl_vr r0) (VRs.nil))
  exact hcalls.mono fun e W' ⟨he, hb⟩ => ⟨_, he, law_post rfl rfl (by kernel_rfl) hW' rfl hb⟩

set_option maxRecDepth 100000 in
theorem fnExactAsksOf_lifted (os : Os) (started : os.Started) (H : Type) (enc : TypeId × Value → H) (F : Stop.Interp) :
    ReturnsInHanded {} Try.checked os 3 .any ((Rows.OpenSpec.upto Rows.fnExactAsksOfSpec).pre6 enc Try.prog Try.f3 Rows.fnExactAsksOfUptoRow.domain false) (((Rows.OpenSpec.upto Rows.fnExactAsksOfSpec).at F).post enc Try.prog Try.f3 false true false false) := by
  refine returnsInHanded_of_cond (C := Try.checked) (s := Rows.OpenSpec.upto Rows.fnExactAsksOfSpec) (k := Rows.uptoSmall) rfl own' started (by kernel_rfl) Try.func3
    (OpenSpec.witness (enc := enc) (C := Try.checked) (s := Rows.OpenSpec.upto Rows.fnExactAsksOfSpec) (k := Rows.uptoSmall) rfl false ⟨#[], #[.slice none 0 0], []⟩ 8 (by kernel_rfl) (by kernel_rfl) (by kernel_rfl)
      (x := ([.nil], [], [])) (by kernel_rfl) rfl (by kernel_rfl)) ?_
  intro W base args ds gs before hval hW _ hk _
  exact fnExactAsksOf_contract H enc W base args ds gs before hval hW hk

theorem fnExactAsksOf_named : Try.pinned.checked.prog.funcNamed Rows.fnExactAsksOfUptoRow.func = some 3 := by kernel_rfl
theorem fnExactAsksOf_closed : joinedFacts Try.pinned.checked.prog 3 Try.f3 (Rows.OpenSpec.upto Rows.fnExactAsksOfSpec).bare Rows.fnExactAsksOfUptoRow = true := by kernel_rfl
theorem fnExactAsksOf_holds : Rows.FnExactAsksOfUptoSaid :=
  OpenClaim.holds_of_cond 3 Try.f3 rfl rfl rfl rfl rfl rfl rfl ⟨rfl, rfl, rfl, rfl, rfl⟩ rfl rfl rfl rfl rfl fnExactAsksOf_named Try.func3 fnExactAsksOf_closed
    (of_decide_eq_true (by kernel_rfl)) (by unfold Func.isWrapper; first | (rw [if_pos (by decide +kernel)]; kernel_rfl) | (rw [if_neg (by decide +kernel)]; exact ⟨rfl, rfl⟩))
    (fun os started H enc _ F => fnExactAsksOf_lifted os started H enc F)

end Go.Proofs.Ytohalepkikjinaa
