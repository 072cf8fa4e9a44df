/-
 THE STATEMENT 'FnOccursUptoSaid': for every input of bulk at most 1099511627776 the law returns true, and what came in reads as it did. Conditions: the statement's own.
-/
import Derived.Test.YtoffpbehgncakaaGreatKJ05
import Derived.Test.YtoffpbehgncakaaGreatKJ06
import Derived.Test.YtoffpbehgncakaaGreatKJ48
set_option linter.unusedVariables false
namespace Go.Proofs.YtoffpbehgncakaaGreat
open Go.ChangeShapes Go.WideShapes Go.ChangeAt Go.RowKit Go.Proofs.YtoffpbehgncakaaGreat.Ml Go.Proofs.YtoffpbehgncakaaGreat.Av

set_option maxRecDepth 100000 in
theorem KH (H : Type) (enc : TypeId × Value → H) (W : World) (base : Nat) (args : Array Value) (ds gs : List (DataW H)) (before : List MemPlace)
  (hval : ∀ (j : Nat) t v, Tryz.f3.params[j]? = some t → args[j]? = some v → Value.okWide Tryz.prog W .any base t v)
  (hW : DataW.Whole enc Tryz.prog Tryz.f3.params.toList Rows.fnOccursSpec.vars false W args.toList ds gs before) (hk : Rows.uptoSmall H (ds ++ gs) = true) :
  Calls Tryz.prog 3 args W fun e W' => ∃ v, e = .returned v ∧ Rows.fnOccursSpec.post enc Tryz.prog Tryz.f3 false true false false W args v W' := by
 have hbulk : Rows.uptoBulkAll (ds ++ gs) ≤ 1048576 := of_decide_eq_true hk
 have hW' := hW
 obtain ⟨p, q, hA0, hV, rfl, hfz, hnd⟩ := hW
 have hA : DataW.TrodAll enc Tryz.prog W 0 (fun _ => true) true Tryz.f3.params.toList args.toList ds p := hA0
 rw [Tryz.params3] at hA hval
 obtain ⟨v0, vs0, d0, ds0, p0, q0, hargs0, rfl, rfl, h0, t0⟩ := trodAll_cons hA
 obtain ⟨rfl, rfl, rfl⟩ := trodAll_nil t0
 obtain rfl : args = #[v0] := by cases args; simp_all
 have hV2 := hV
 obtain ⟨rfl, rfl⟩ := trodVars_none hV
 simp only [List.append_nil, Rows.uptoBulkAll] at hbulk
 obtain ⟨l0, r0, b0⟩ := AaJ YN Tryz.underlying22 (hval 0 22 v0 rfl rfl) h0
 have hcalls : Calls Tryz.prog 3 #[v0] W (fun e w' => e = .returned (.bool true) ∧ Below W.heap.size W w') := by
  clear hval hW' hV hV2 hfz hnd hA0 hargs0 hA
  have hk0 : AE.bulk l0 ≤ 1048576 := by omega -- 
  exact XX (Oj l0 hk0) (VRs.cons (C7 r0) (VRs.nil))
 exact hcalls.mono fun e W' ⟨he, hb⟩ => ⟨_, he, Zu rfl rfl (by kernel_rfl) hW' rfl hb⟩

set_option maxRecDepth 100000 in
theorem L6 (os : Os) (started : os.Started) (H : Type) (enc : TypeId × Value → H) (F : Stop.Interp) :
  ReturnsInHanded {} Tryz.checked os 3 .any ((Rows.OpenSpec.upto Rows.fnOccursSpec).pre6 enc Tryz.prog Tryz.f3 Rows.fnOccursUptoRow.domain false) (((Rows.OpenSpec.upto Rows.fnOccursSpec).at F).post enc Tryz.prog Tryz.f3 false true false false) := by
 refine returnsInHanded_of_cond (C := Tryz.checked) (s := Rows.OpenSpec.upto Rows.fnOccursSpec) (k := Rows.uptoSmall) rfl AcC started (by kernel_rfl) Tryz.func3
  (OpenSpec.witness (enc := enc) (C := Tryz.checked) (s := Rows.OpenSpec.upto Rows.fnOccursSpec) (k := Rows.uptoSmall) rfl false ⟨#[], #[.slice none 0 0], []⟩ 8 (by kernel_rfl) (by kernel_rfl) (by kernel_rfl)
   (x := ([.nil], [], [])) (by kernel_rfl) rfl (by kernel_rfl)) ?_
 intro W base args ds gs before hval hW _ hk _
 exact KH H enc W base args ds gs before hval hW hk

theorem Np : Tryz.pinned.checked.prog.funcNamed Rows.fnOccursUptoRow.func = some 3 := by kernel_rfl
theorem L7 : joinedFacts Tryz.pinned.checked.prog 3 Tryz.f3 (Rows.OpenSpec.upto Rows.fnOccursSpec).bare Rows.fnOccursUptoRow = true := by kernel_rfl
theorem fnOccurs_holds : Rows.FnOccursUptoSaid :=
 OpenClaim.holds_of_cond 3 Tryz.f3 rfl rfl rfl rfl rfl rfl rfl ⟨rfl, rfl, rfl, rfl, rfl⟩ rfl rfl rfl rfl rfl Np Tryz.func3 L7
  (of_decide_eq_true (by kernel_rfl)) (by unfold Func.isWrapper; first | (rw [if_pos (by decide +kernel)]; kernel_rfl) | (rw [if_neg (by decide +kernel)]; exact ⟨rfl, rfl⟩))
  (fun os started H enc _ F => L6 os started H enc F)

end Go.Proofs.YtoffpbehgncakaaGreat
