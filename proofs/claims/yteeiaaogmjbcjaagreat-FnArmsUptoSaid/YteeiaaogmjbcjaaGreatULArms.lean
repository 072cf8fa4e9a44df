/-
 THE STATEMENT 'FnArmsUptoSaid': for every input of bulk at most 1048576 the law returns true, and what came in reads as it did. Conditions: the statement's own.
-/
import Derived.Test.YteeiaaogmjbcjaaGreatUJ06
import Derived.Test.YteeiaaogmjbcjaaGreatUJ48
set_option linter.unusedVariables false
namespace Go.Proofs.YteeiaaogmjbcjaaGreat
open Go.ChangeShapes Go.WideShapes Go.ChangeAt Go.RowKit Go.Proofs.YteeiaaogmjbcjaaGreat.Ml Go.Proofs.YteeiaaogmjbcjaaGreat.Av

set_option maxRecDepth 100000 in
theorem L1 (H : Type) (enc : TypeId × Value → H) (W : World) (base : Nat) (args : Array Value) (ds gs : List (DataW H)) (before : List MemPlace)
  (hval : ∀ (j : Nat) t v, Tryz.f5.params[j]? = some t → args[j]? = some v → Value.okWide Tryz.prog W .any base t v)
  (hW : DataW.Whole enc Tryz.prog Tryz.f5.params.toList Rows.fnArmsSpec.vars false W args.toList ds gs before) (hk : Rows.uptoSmall H (ds ++ gs) = true) :
  Calls Tryz.prog 5 args W fun e W' => ∃ v, e = .returned v ∧ Rows.fnArmsSpec.post enc Tryz.prog Tryz.f5 false true false false W args v W' := by
 have hbulk : Rows.uptoBulkAll (ds ++ gs) ≤ 1048576 := of_decide_eq_true hk
 have hW' := hW
 obtain ⟨p, q, hA0, hV, rfl, hfz, hnd⟩ := hW
 have hA : DataW.TrodAll enc Tryz.prog W 0 (fun _ => true) true Tryz.f5.params.toList args.toList ds p := hA0
 rw [Tryz.params5] at hA hval
 obtain ⟨v0, vs0, d0, ds0, p0, q0, hargs0, rfl, rfl, h0, t0⟩ := trodAll_cons hA
 obtain ⟨rfl, rfl, rfl⟩ := trodAll_nil t0
 obtain rfl : args = #[v0] := by cases args; simp_all
 have hV2 := hV
 obtain ⟨rfl, rfl⟩ := trodVars_none hV
 simp only [List.append_nil, Rows.uptoBulkAll] at hbulk
 obtain ⟨l0, r0, b0⟩ := Aa6 Y1 Tryz.underlying22 (hval 0 22 v0 rfl rfl) h0
 have hcalls : Calls Tryz.prog 5 #[v0] W (fun e w' => e = .returned (.bool true) ∧ Below W.heap.size W w') := by
  clear hval hW' hV hV2 hfz hnd hA0 hargs0 hA
  have hk0 : AE.bulk l0 ≤ 1048576 := by omega
  exact XT (Sm l0 hk0) (VRs.cons (Cp r0) (VRs.nil))
 exact hcalls.mono fun e W' ⟨he, hb⟩ => ⟨_, he, ZJ rfl rfl (by kernel_rfl) hW' rfl hb⟩

set_option maxRecDepth 100000 in
theorem Oe (os : Os) (started : os.Started) (H : Type) (enc : TypeId × Value → H) (F : Stop.Interp) :
  ReturnsInHanded {} Tryz.checked os 5 .any ((Rows.OpenSpec.upto Rows.fnArmsSpec).pre6 enc Tryz.prog Tryz.f5 Rows.fnArmsUptoRow.domain false) (((Rows.OpenSpec.upto Rows.fnArmsSpec).at F).post enc Tryz.prog Tryz.f5 false true false false) := by
 refine returnsInHanded_of_cond (C := Tryz.checked) (s := Rows.OpenSpec.upto Rows.fnArmsSpec) (k := Rows.uptoSmall) rfl Ac4 started (by kernel_rfl) Tryz.func5
  (OpenSpec.witness (enc := enc) (C := Tryz.checked) (s := Rows.OpenSpec.upto Rows.fnArmsSpec) (k := Rows.uptoSmall) rfl false ⟨#[], #[.slice none 0 0], []⟩ 8 (by kernel_rfl) (by kernel_rfl) (by kernel_rfl)
   (x := ([.nil], [], [])) (by kernel_rfl) rfl (by kernel_rfl)) ?_
 intro W base args ds gs before hval hW _ hk _
 exact L1 H enc W base args ds gs before hval hW hk

theorem QI : Tryz.pinned.checked.prog.funcNamed Rows.fnArmsUptoRow.func = some 5 := by kernel_rfl
theorem Of : joinedFacts Tryz.pinned.checked.prog 5 Tryz.f5 (Rows.OpenSpec.upto Rows.fnArmsSpec).bare Rows.fnArmsUptoRow = true := by kernel_rfl
theorem fnArms_holds : Rows.FnArmsUptoSaid :=
 OpenClaim.holds_of_cond 5 Tryz.f5 rfl rfl rfl rfl rfl rfl rfl ⟨rfl, rfl, rfl, rfl, rfl⟩ rfl rfl rfl rfl rfl QI Tryz.func5 Of
  (of_decide_eq_true (by kernel_rfl)) (by unfold Func.isWrapper; first | (rw [if_pos (by decide +kernel)]; kernel_rfl) | (rw [if_neg (by decide +kernel)]; exact ⟨rfl, rfl⟩))
  (fun os started H enc _ F => Oe os started H enc F)

end Go.Proofs.YteeiaaogmjbcjaaGreat
