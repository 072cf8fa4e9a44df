/-
 THE STATEMENT 'FnAsksUptoSaid': for every input of bulk at most 1048576 the law returns true, and what came in reads as it did. Conditions: the statement's own.
-/
import Derived.Test.YteeiaaogmjbcjaaGreatKJ06
import Derived.Test.YteeiaaogmjbcjaaGreatKJ48
set_option linter.unusedVariables false
namespace Go.Proofs.YteeiaaogmjbcjaaGreat
open Go.ChangeShapes Go.WideShapes Go.ChangeAt Go.RowKit Go.Proofs.YteeiaaogmjbcjaaGreat.Ml Go.Proofs.YteeiaaogmjbcjaaGreat.Av

set_option maxRecDepth 100000 in
theorem M8 (H : Type) (enc : TypeId × Value → H) (W : World) (base : Nat) (args : Array Value) (ds gs : List (DataW H)) (before : List MemPlace)
  (hval : ∀ (j : Nat) t v, Tryz.f4.params[j]? = some t → args[j]? = some v → Value.okWide Tryz.prog W .any base t v)
  (hW : DataW.Whole enc Tryz.prog Tryz.f4.params.toList Rows.fnAsksSpec.vars false W args.toList ds gs before) (hk : Rows.uptoSmall H (ds ++ gs) = true) :
  Calls Tryz.prog 4 args W fun e W' => ∃ v, e = .returned v ∧ Rows.fnAsksSpec.post enc Tryz.prog Tryz.f4 false true false false W args v W' := by
 have hbulk : Rows.uptoBulkAll (ds ++ gs) ≤ 1048576 := of_decide_eq_true hk
 have hW' := hW
 obtain ⟨p, q, hA0, hV, rfl, hfz, hnd⟩ := hW
 have hA : DataW.TrodAll enc Tryz.prog W 0 (fun _ => true) true Tryz.f4.params.toList args.toList ds p := hA0
 rw [Tryz.params4] at hA hval
 obtain ⟨v0, vs0, d0, ds0, p0, q0, hargs0, rfl, rfl, h0, t0⟩ := trodAll_cons hA
 obtain ⟨rfl, rfl, rfl⟩ := trodAll_nil t0
 obtain rfl : args = #[v0] := by cases args; simp_all
 have hV2 := hV
 obtain ⟨rfl, rfl⟩ := trodVars_none hV
 simp only [List.append_nil, Rows.uptoBulkAll] at hbulk
 obtain ⟨l0, r0, b0⟩ := Acn Aai Tryz.underlying22 (hval 0 22 v0 rfl rfl) h0
 have hcalls : Calls Tryz.prog 4 #[v0] W (fun e w' => e = .returned (.bool true) ∧ Below W.heap.size W w') := by
  clear hval hW' hV hV2 hfz hnd hA0 hargs0 hA
  have hk0 : AB.bulk l0 ≤ 1048576 := by omega
  exact Zk (Tx l0 hk0) (VRs.cons (C6 r0) (VRs.nil))
 exact hcalls.mono fun e W' ⟨he, hb⟩ => ⟨_, he, AaY rfl rfl (by kernel_rfl) hW' rfl hb⟩

set_option maxRecDepth 100000 in
theorem Pw (os : Os) (started : os.Started) (H : Type) (enc : TypeId × Value → H) (F : Stop.Interp) :
  ReturnsInHanded {} Tryz.checked os 4 .any ((Rows.OpenSpec.upto Rows.fnAsksSpec).pre6 enc Tryz.prog Tryz.f4 Rows.fnAsksUptoRow.domain false) (((Rows.OpenSpec.upto Rows.fnAsksSpec).at F).post enc Tryz.prog Tryz.f4 false true false false) := by
 refine returnsInHanded_of_cond (C := Tryz.checked) (s := Rows.OpenSpec.upto Rows.fnAsksSpec) (k := Rows.uptoSmall) rfl Aep started (by kernel_rfl) Tryz.func4
  (OpenSpec.witness (enc := enc) (C := Tryz.checked) (s := Rows.OpenSpec.upto Rows.fnAsksSpec) (k := Rows.uptoSmall) rfl false ⟨#[], #[.slice none 0 0], []⟩ 8 (by kernel_rfl) (by kernel_rfl) (by kernel_rfl)
   (x := ([.nil], [], [])) (by kernel_rfl) rfl (by kernel_rfl)) ?_
 intro W base args ds gs before hval hW _ hk _
 exact M8 H enc W base args ds gs before hval hW hk

theorem RV : Tryz.pinned.checked.prog.funcNamed Rows.fnAsksUptoRow.func = some 4 := by kernel_rfl
theorem Py : joinedFacts Tryz.pinned.checked.prog 4 Tryz.f4 (Rows.OpenSpec.upto Rows.fnAsksSpec).bare Rows.fnAsksUptoRow = true := by kernel_rfl
theorem fnAsks_holds : Rows.FnAsksUptoSaid :=
 OpenClaim.holds_of_cond 4 Tryz.f4 rfl rfl rfl rfl rfl rfl rfl ⟨rfl, rfl, rfl, rfl, rfl⟩ rfl rfl rfl rfl rfl RV Tryz.func4 Py
  (of_decide_eq_true (by kernel_rfl)) (by unfold Func.isWrapper; first | (rw [if_pos (by decide +kernel)]; kernel_rfl) | (rw [if_neg (by decide +kernel)]; exact ⟨rfl, rfl⟩))
  (fun os started H enc _ F => Pw os started H enc F)

end Go.Proofs.YteeiaaogmjbcjaaGreat
