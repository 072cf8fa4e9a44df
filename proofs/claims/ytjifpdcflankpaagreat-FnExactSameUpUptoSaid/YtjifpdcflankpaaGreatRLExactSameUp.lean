/-
 THE STATEMENT 'FnExactSameUpUptoSaid': for every input of bulk at most 4294967296 the law returns true, and what came in reads as it did. Conditions: the statement's own.
-/
import Derived.Test.YtjifpdcflankpaaGreatRPackA
import Derived.Test.YtjifpdcflankpaaGreatRPackZ
set_option linter.unusedVariables false
namespace Go.Proofs.YtjifpdcflankpaaGreat
open Go.ChangeShapes Go.WideShapes Go.ChangeAt Go.RowKit Go.Proofs.YtjifpdcflankpaaGreat.Ml Go.Proofs.YtjifpdcflankpaaGreat.Av

set_option maxRecDepth 100000 in
theorem fnExactSameUp_contract (H : Type) (enc : TypeId × Value → H) (W : World) (base : Nat) (args : Array Value) (ds gs : List (DataW H)) (before : List MemPlace)
  (hval : ∀ (j : Nat) t v, Tryz.f6.params[j]? = some t → args[j]? = some v → Value.okWide Tryz.prog W .any base t v)
  (hW : DataW.Whole enc Tryz.prog Tryz.f6.params.toList Rows.fnExactSameUpSpec.vars false W args.toList ds gs before) (hk : Rows.uptoSmall H (ds ++ gs) = true) :
  Calls Tryz.prog 6 args W fun e W' => ∃ v, e = .returned v ∧ Rows.fnExactSameUpSpec.post enc Tryz.prog Tryz.f6 false true false false W args v W' := by
 have hbulk : Rows.uptoBulkAll (ds ++ gs) ≤ 1048576 := of_decide_eq_true hk
 have hW' := hW
 obtain ⟨p, q, hA0, hV, rfl, hfz, hnd⟩ := hW
 have hA : DataW.TrodAll enc Tryz.prog W 0 (fun _ => true) true Tryz.f6.params.toList args.toList ds p := hA0
 rw [Tryz.params6] at hA hval
 obtain ⟨v0, vs0, d0, ds0, p0, q0, hargs0, rfl, rfl, h0, t0⟩ := trodAll_cons hA
 obtain ⟨v1, vs1, d1, ds1, p1, q1, rfl, rfl, rfl, h1, t1⟩ := trodAll_cons t0
 obtain ⟨rfl, rfl, rfl⟩ := trodAll_nil t1
 obtain rfl : args = #[v0, v1] := by cases args; simp_all
 have hV2 := hV
 obtain ⟨rfl, rfl⟩ := trodVars_none hV
 simp only [List.append_nil, Rows.uptoBulkAll] at hbulk
 obtain ⟨cs0, rfl, y0, r0, b0⟩ := open_struct readsProgram Tryz.underlying25 (hval 0 25 v0 rfl rfl) h0
 obtain ⟨cs1, rfl, y1, r1, b1⟩ := open_struct readsProgram Tryz.underlying25 (hval 1 25 v1 rfl rfl) h1
 have hcalls : Calls Tryz.prog 6 #[.agg cs0.toArray, .agg cs1.toArray] W (fun e w' => e = .returned (.bool true) ∧ Below W.heap.size W w') := by
  clear hval hW' hV hV2 hfz hnd hA0 hargs0 hA
  have hk0 : Bulk.bulk y0 ≤ 1048576 := by omega -- 
  have hk1 : Bulk.bulk y1 ≤ 1048576 := by omega -- 
  exact law_calls (lawSameUp_ok y0 hk0 y1 hk1) (VRs.cons (repAgg_vr r0 rfl) (VRs.cons (repAgg_vr r1 rfl) (VRs.nil)))
 exact hcalls.mono fun e W' ⟨he, hb⟩ => ⟨_, he, law_post rfl rfl (by kernel_rfl) hW' rfl hb⟩

set_option maxRecDepth 100000 in
theorem fnExactSameUp_lifted (os : Os) (started : os.Started) (H : Type) (enc : TypeId × Value → H) (F : Stop.Interp) :
  ReturnsInHanded {} Tryz.checked os 6 .any ((Rows.OpenSpec.upto Rows.fnExactSameUpSpec).pre6 enc Tryz.prog Tryz.f6 Rows.fnExactSameUpUptoRow.domain false) (((Rows.OpenSpec.upto Rows.fnExactSameUpSpec).at F).post enc Tryz.prog Tryz.f6 false true false false) := by
 refine returnsInHanded_of_cond (C := Tryz.checked) (s := Rows.OpenSpec.upto Rows.fnExactSameUpSpec) (k := Rows.uptoSmall) rfl own' started (by kernel_rfl) Tryz.func6
  (OpenSpec.witness (enc := enc) (C := Tryz.checked) (s := Rows.OpenSpec.upto Rows.fnExactSameUpSpec) (k := Rows.uptoSmall) rfl false ⟨#[], #[.agg #[.slice none 0 0, .slice none 0 0], .agg #[.slice none 0 0, .slice none 0 0]], []⟩ 8 (by kernel_rfl) (by kernel_rfl) (by kernel_rfl)
   (x := ([.agg [.nil, .nil], .agg [.nil, .nil]], [], [])) (by kernel_rfl) rfl (by kernel_rfl)) ?_
 intro W base args ds gs before hval hW _ hk _
 exact fnExactSameUp_contract H enc W base args ds gs before hval hW hk

theorem fnExactSameUp_named : Tryz.pinned.checked.prog.funcNamed Rows.fnExactSameUpUptoRow.func = some 6 := by kernel_rfl
theorem fnExactSameUp_closed : joinedFacts Tryz.pinned.checked.prog 6 Tryz.f6 (Rows.OpenSpec.upto Rows.fnExactSameUpSpec).bare Rows.fnExactSameUpUptoRow = true := by kernel_rfl
theorem fnExactSameUp_holds : Rows.FnExactSameUpUptoSaid :=
 OpenClaim.holds_of_cond 6 Tryz.f6 rfl rfl rfl rfl rfl rfl rfl ⟨rfl, rfl, rfl, rfl, rfl⟩ rfl rfl rfl rfl rfl fnExactSameUp_named Tryz.func6 fnExactSameUp_closed
  (of_decide_eq_true (by kernel_rfl)) (by unfold Func.isWrapper; first | (rw [if_pos (by decide +kernel)]; kernel_rfl) | (rw [if_neg (by decide +kernel)]; exact ⟨rfl, rfl⟩))
  (fun os started H enc _ F => fnExactSameUp_lifted os started H enc F)

end Go.Proofs.YtjifpdcflankpaaGreat
