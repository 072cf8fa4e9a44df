/-
 THE STATEMENT 'FnExactSimpleUptoSaid': for every input of bulk at most 4294967296 the law returns true, and what came in reads as it did. Conditions: the statement's own.
-/
import Derived.Test.YtppjinmlfcokaaaGreatJJ00
import Derived.Test.YtppjinmlfcokaaaGreatJJ48
set_option linter.unusedVariables false
namespace Go.Proofs.YtppjinmlfcokaaaGreat
open Go.ChangeShapes Go.WideShapes Go.ChangeAt Go.RowKit Go.Proofs.YtppjinmlfcokaaaGreat.Ml Go.Proofs.YtppjinmlfcokaaaGreat.Av

set_option maxRecDepth 100000 in
theorem JQ (H : Type) (enc : TypeId × Value → H) (W : World) (base : Nat) (args : Array Value) (ds gs : List (DataW H)) (before : List MemPlace)
  (hval : ∀ (j : Nat) t v, Tryz.f4.params[j]? = some t → args[j]? = some v → Value.okWide Tryz.prog W .any base t v)
  (hW : DataW.Whole enc Tryz.prog Tryz.f4.params.toList Rows.fnExactSimpleSpec.vars false W args.toList ds gs before) (hk : Rows.uptoSmall H (ds ++ gs) = true) :
  Calls Tryz.prog 4 args W fun e W' => ∃ v, e = .returned v ∧ Rows.fnExactSimpleSpec.post enc Tryz.prog Tryz.f4 false true false false W args v W' := by
 have hbulk : Rows.uptoBulkAll (ds ++ gs) ≤ 1048576 := of_decide_eq_true hk
 have hW' := hW
 obtain ⟨p, q, hA0, hV, rfl, hfz, hnd⟩ := hW
 have hA : DataW.TrodAll enc Tryz.prog W 0 (fun _ => true) true Tryz.f4.params.toList args.toList ds p := hA0
 rw [Tryz.params4] at hA hval
 obtain ⟨v0, vs0, d0, ds0, p0, q0, hargs0, rfl, rfl, h0, t0⟩ := trodAll_cons hA
 obtain ⟨v1, vs1, d1, ds1, p1, q1, rfl, rfl, rfl, h1, t1⟩ := trodAll_cons t0
 obtain ⟨rfl, rfl, rfl⟩ := trodAll_nil t1
 obtain rfl : args = #[v0, v1] := by cases args; simp_all
 have hV2 := hV
 obtain ⟨rfl, rfl⟩ := trodVars_none hV
 simp only [List.append_nil, Rows.uptoBulkAll] at hbulk
 obtain ⟨cs0, rfl, y0, r0, b0⟩ := Vp Tp Tryz.underlying25 (hval 0 25 v0 rfl rfl) h0
 obtain ⟨n1, rfl, g1⟩ := Acv (hval 1 3 v1 rfl rfl) h1
 have hcalls : Calls Tryz.prog 4 #[.agg cs0.toArray, .int .i64 n1] W (fun e w' => e = .returned (.bool true) ∧ Below W.heap.size W w') := by
  clear hval hW' hV hV2 hfz hnd hA0 hargs0 hA
  have hk0 : Ac.bulk y0 ≤ 1048576 := by omega -- 
  exact Abl (TI y0 hk0 n1 g1) (VRs.cons (Aa5 r0 rfl) (VRs.cons (.int _ _ g1.1 g1.2) (VRs.nil)))
 exact hcalls.mono fun e W' ⟨he, hb⟩ => ⟨_, he, Ac2 rfl rfl (by kernel_rfl) hW' rfl hb⟩

set_option maxRecDepth 100000 in
theorem K4 (os : Os) (started : os.Started) (H : Type) (enc : TypeId × Value → H) (F : Stop.Interp) :
  ReturnsInHanded {} Tryz.checked os 4 .any ((Rows.OpenSpec.upto Rows.fnExactSimpleSpec).pre6 enc Tryz.prog Tryz.f4 Rows.fnExactSimpleUptoRow.domain false) (((Rows.OpenSpec.upto Rows.fnExactSimpleSpec).at F).post enc Tryz.prog Tryz.f4 false true false false) := by
 refine returnsInHanded_of_cond (C := Tryz.checked) (s := Rows.OpenSpec.upto Rows.fnExactSimpleSpec) (k := Rows.uptoSmall) rfl AfU started (by kernel_rfl) Tryz.func4
  (OpenSpec.witness (enc := enc) (C := Tryz.checked) (s := Rows.OpenSpec.upto Rows.fnExactSimpleSpec) (k := Rows.uptoSmall) rfl false ⟨#[], #[.agg #[.slice none 0 0, .slice none 0 0], .int .i64 0], []⟩ 8 (by kernel_rfl) (by kernel_rfl) (by kernel_rfl)
   (x := ([.agg [.nil, .nil], .lit (.int .i64 0)], [], [])) (by kernel_rfl) rfl (by kernel_rfl)) ?_
 intro W base args ds gs before hval hW _ hk _
 exact JQ H enc W base args ds gs before hval hW hk

theorem Lz : Tryz.pinned.checked.prog.funcNamed Rows.fnExactSimpleUptoRow.func = some 4 := by kernel_rfl
theorem K5 : joinedFacts Tryz.pinned.checked.prog 4 Tryz.f4 (Rows.OpenSpec.upto Rows.fnExactSimpleSpec).bare Rows.fnExactSimpleUptoRow = true := by kernel_rfl
theorem fnExactSimple_holds : Rows.FnExactSimpleUptoSaid :=
 OpenClaim.holds_of_cond 4 Tryz.f4 rfl rfl rfl rfl rfl rfl rfl ⟨rfl, rfl, rfl, rfl, rfl⟩ rfl rfl rfl rfl rfl Lz Tryz.func4 K5
  (of_decide_eq_true (by kernel_rfl)) (by unfold Func.isWrapper; first | (rw [if_pos (by decide +kernel)]; kernel_rfl) | (rw [if_neg (by decide +kernel)]; exact ⟨rfl, rfl⟩))
  (fun os started H enc _ F => K4 os started H enc F)

end Go.Proofs.YtppjinmlfcokaaaGreat
