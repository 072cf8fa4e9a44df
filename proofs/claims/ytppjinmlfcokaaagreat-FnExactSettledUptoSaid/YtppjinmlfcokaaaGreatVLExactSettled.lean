/-
 THE STATEMENT 'FnExactSettledUptoSaid': for every input of bulk at most 4294967296 the law returns true, and what came in reads as it did. Conditions: the statement's own.
-/
import Derived.Test.YtppjinmlfcokaaaGreatVJ00
import Derived.Test.YtppjinmlfcokaaaGreatVJ48
set_option linter.unusedVariables false
namespace Go.Proofs.YtppjinmlfcokaaaGreat
open Go.ChangeShapes Go.WideShapes Go.ChangeAt Go.RowKit Go.Proofs.YtppjinmlfcokaaaGreat.Ml Go.Proofs.YtppjinmlfcokaaaGreat.Av

set_option maxRecDepth 100000 in
theorem I8 (H : Type) (enc : TypeId × Value → H) (W : World) (base : Nat) (args : Array Value) (ds gs : List (DataW H)) (before : List MemPlace)
  (hval : ∀ (j : Nat) t v, Tryz.f3.params[j]? = some t → args[j]? = some v → Value.okWide Tryz.prog W .any base t v)
  (hW : DataW.Whole enc Tryz.prog Tryz.f3.params.toList Rows.fnExactSettledSpec.vars false W args.toList ds gs before) (hk : Rows.uptoSmall H (ds ++ gs) = true) :
  Calls Tryz.prog 3 args W fun e W' => ∃ v, e = .returned v ∧ Rows.fnExactSettledSpec.post enc Tryz.prog Tryz.f3 false true false false W args v W' := by
 have hbulk : Rows.uptoBulkAll (ds ++ gs) ≤ 1048576 := of_decide_eq_true hk
 have hW' := hW
 obtain ⟨p, q, hA0, hV, rfl, hfz, hnd⟩ := hW
 have hA : DataW.TrodAll enc Tryz.prog W 0 (fun _ => true) true Tryz.f3.params.toList args.toList ds p := hA0
 rw [Tryz.params3] at hA hval
 obtain ⟨v0, vs0, d0, ds0, p0, q0, hargs0, rfl, rfl, h0, t0⟩ := trodAll_cons hA
 obtain ⟨rfl, rfl, rfl⟩ := trodAll_nil t0
 obtain rfl : args = #[v0] := by cases args; simp_all
 have hV2 := hV
 obtain ⟨rfl, rfl⟩ := trodVars_none hV
 simp only [List.append_nil, Rows.uptoBulkAll] at hbulk
 obtain ⟨cs0, rfl, y0, r0, b0⟩ := Vv Tt Tryz.underlying25 (hval 0 25 v0 rfl rfl) h0
 have hcalls : Calls Tryz.prog 3 #[.agg cs0.toArray] W (fun e w' => e = .returned (.bool true) ∧ Below W.heap.size W w') := by
  clear hval hW' hV hV2 hfz hnd hA0 hargs0 hA
  have hk0 : Ac.bulk y0 ≤ 1048576 := by omega -- 
  exact AbJ (Q2 y0 hk0) (VRs.cons (Abr r0 rfl) (VRs.nil))
 exact hcalls.mono fun e W' ⟨he, hb⟩ => ⟨_, he, Adv rfl rfl (by kernel_rfl) hW' rfl hb⟩

set_option maxRecDepth 100000 in
theorem J7 (os : Os) (started : os.Started) (H : Type) (enc : TypeId × Value → H) (F : Stop.Interp) :
  ReturnsInHanded {} Tryz.checked os 3 .any ((Rows.OpenSpec.upto Rows.fnExactSettledSpec).pre6 enc Tryz.prog Tryz.f3 Rows.fnExactSettledUptoRow.domain false) (((Rows.OpenSpec.upto Rows.fnExactSettledSpec).at F).post enc Tryz.prog Tryz.f3 false true false false) := by
 refine returnsInHanded_of_cond (C := Tryz.checked) (s := Rows.OpenSpec.upto Rows.fnExactSettledSpec) (k := Rows.uptoSmall) rfl Agz started (by kernel_rfl) Tryz.func3
  (OpenSpec.witness (enc := enc) (C := Tryz.checked) (s := Rows.OpenSpec.upto Rows.fnExactSettledSpec) (k := Rows.uptoSmall) rfl false ⟨#[], #[.agg #[.slice none 0 0, .slice none 0 0]], []⟩ 8 (by kernel_rfl) (by kernel_rfl) (by kernel_rfl)
   (x := ([.agg [.nil, .nil]], [], [])) (by kernel_rfl) rfl (by kernel_rfl)) ?_
 intro W base args ds gs before hval hW _ hk _
 exact I8 H enc W base args ds gs before hval hW hk

theorem KK : Tryz.pinned.checked.prog.funcNamed Rows.fnExactSettledUptoRow.func = some 3 := by kernel_rfl
theorem J8 : joinedFacts Tryz.pinned.checked.prog 3 Tryz.f3 (Rows.OpenSpec.upto Rows.fnExactSettledSpec).bare Rows.fnExactSettledUptoRow = true := by kernel_rfl
theorem fnExactSettled_holds : Rows.FnExactSettledUptoSaid :=
 OpenClaim.holds_of_cond 3 Tryz.f3 rfl rfl rfl rfl rfl rfl rfl ⟨rfl, rfl, rfl, rfl, rfl⟩ rfl rfl rfl rfl rfl KK Tryz.func3 J8
  (of_decide_eq_true (by kernel_rfl)) (by unfold Func.isWrapper; first | (rw [if_pos (by decide +kernel)]; kernel_rfl) | (rw [if_neg (by decide +kernel)]; exact ⟨rfl, rfl⟩))
  (fun os started H enc _ F => J7 os started H enc F)

end Go.Proofs.YtppjinmlfcokaaaGreat
