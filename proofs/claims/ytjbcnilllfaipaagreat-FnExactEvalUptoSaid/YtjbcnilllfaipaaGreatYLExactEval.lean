/-
 THE STATEMENT 'FnExactEvalUptoSaid': for every input of bulk at most 1099511627776 the law returns true, and what came in reads as it did. Conditions: the statement's own.
-/
import Derived.Test.YtjbcnilllfaipaaGreatYJ00
import Derived.Test.YtjbcnilllfaipaaGreatYWExactEval
set_option linter.unusedVariables false
namespace Go.Proofs.YtjbcnilllfaipaaGreat
open Go.ChangeShapes Go.WideShapes Go.ChangeAt Go.RowKit Go.Proofs.YtjbcnilllfaipaaGreat.Ml Go.Proofs.YtjbcnilllfaipaaGreat.Av

set_option maxRecDepth 100000 in
theorem Kp (H : Type) (enc : TypeId × Value → H) (W : World) (base : Nat) (args : Array Value) (ds gs : List (DataW H)) (before : List MemPlace)
  (hval : ∀ (j : Nat) t v, Tryz.f3.params[j]? = some t → args[j]? = some v → Value.okWide Tryz.prog W .any base t v)
  (hW : DataW.Whole enc Tryz.prog Tryz.f3.params.toList Rows.fnExactEvalSpec.vars false W args.toList ds gs before) (hk : Rows.uptoSmall H (ds ++ gs) = true) :
  Calls Tryz.prog 3 args W fun e W' => ∃ v, e = .returned v ∧ Rows.fnExactEvalSpec.post enc Tryz.prog Tryz.f3 false true false false W args v W' := by
 have hbulk : Rows.uptoBulkAll (ds ++ gs) ≤ 1048576 := of_decide_eq_true hk
 have hW' := hW
 obtain ⟨p, q, hA0, hV, rfl, hfz, hnd⟩ := hW
 have hA : DataW.TrodAll enc Tryz.prog W 0 (fun _ => true) true Tryz.f3.params.toList args.toList ds p := hA0
 rw [Tryz.params3] at hA hval
 obtain ⟨v0, vs0, d0, ds0, p0, q0, hargs0, rfl, rfl, h0, t0⟩ := trodAll_cons hA
 obtain ⟨v1, vs1, d1, ds1, p1, q1, rfl, rfl, rfl, h1, t1⟩ := trodAll_cons t0
 obtain ⟨v2, vs2, d2, ds2, p2, q2, rfl, rfl, rfl, h2, t2⟩ := trodAll_cons t1
 obtain ⟨rfl, rfl, rfl⟩ := trodAll_nil t2
 obtain rfl : args = #[v0, v1, v2] := by cases args; simp_all
 have hV2 := hV
 obtain ⟨rfl, rfl⟩ := trodVars_none hV
 simp only [List.append_nil, Rows.uptoBulkAll] at hbulk
 obtain ⟨cs0, rfl, y0, r0, b0⟩ := Ua Sb Tryz.underlying25 (hval 0 25 v0 rfl rfl) h0
 obtain ⟨l1, r1, b1⟩ := Acp Ic Tryz.underlying26 (hval 1 26 v1 rfl rfl) h1
 obtain ⟨n2, rfl, g2⟩ := AaQ (hval 2 3 v2 rfl rfl) h2
 have hcalls : Calls Tryz.prog 3 #[.agg cs0.toArray, v1, .int .i64 n2] W (fun e w' => e = .returned (.bool true) ∧ Below W.heap.size W w') := by
  clear hval hW' hV hV2 hfz hnd hA0 hargs0 hA
  have hk0 : Ad.bulk y0 ≤ 1048576 := by omega -- 
  have hk1 : Ad.bulk l1 ≤ 1048576 := by omega -- 
  exact ZD (Ws y0 hk0 l1 hk1 n2 g2) (VRs.cons (Zp r0 rfl) (VRs.cons (Ej r1) (VRs.cons (.int _ _ g2.1 g2.2) (VRs.nil))))
 exact hcalls.mono fun e W' ⟨he, hb⟩ => ⟨_, he, Abe rfl rfl (by kernel_rfl) hW' rfl hb⟩

set_option maxRecDepth 100000 in
theorem La (os : Os) (started : os.Started) (H : Type) (enc : TypeId × Value → H) (F : Stop.Interp) :
  ReturnsInHanded {} Tryz.checked os 3 .any ((Rows.OpenSpec.upto Rows.fnExactEvalSpec).pre6 enc Tryz.prog Tryz.f3 Rows.fnExactEvalUptoRow.domain false) (((Rows.OpenSpec.upto Rows.fnExactEvalSpec).at F).post enc Tryz.prog Tryz.f3 false true false false) := by
 refine returnsInHanded_of_cond (C := Tryz.checked) (s := Rows.OpenSpec.upto Rows.fnExactEvalSpec) (k := Rows.uptoSmall) rfl AeE started (by kernel_rfl) Tryz.func3
  (OpenSpec.witness (enc := enc) (C := Tryz.checked) (s := Rows.OpenSpec.upto Rows.fnExactEvalSpec) (k := Rows.uptoSmall) rfl false ⟨#[], #[.agg #[.slice none 0 0, .slice none 0 0], .slice none 0 0, .int .i64 0], []⟩ 8 (by kernel_rfl) (by kernel_rfl) (by kernel_rfl)
   (x := ([.agg [.nil, .nil], .nil, .lit (.int .i64 0)], [], [])) (by kernel_rfl) rfl (by kernel_rfl)) ?_
 intro W base args ds gs before hval hW _ hk _
 exact Kp H enc W base args ds gs before hval hW hk

theorem Mo : Tryz.pinned.checked.prog.funcNamed Rows.fnExactEvalUptoRow.func = some 3 := by kernel_rfl
theorem Lb : joinedFacts Tryz.pinned.checked.prog 3 Tryz.f3 (Rows.OpenSpec.upto Rows.fnExactEvalSpec).bare Rows.fnExactEvalUptoRow = true := by kernel_rfl
theorem fnExactEval_holds : Rows.FnExactEvalUptoSaid :=
 OpenClaim.holds_of_cond 3 Tryz.f3 rfl rfl rfl rfl rfl rfl rfl ⟨rfl, rfl, rfl, rfl, rfl⟩ rfl rfl rfl rfl rfl Mo Tryz.func3 Lb
  (of_decide_eq_true (by kernel_rfl)) (by unfold Func.isWrapper; first | (rw [if_pos (by decide +kernel)]; kernel_rfl) | (rw [if_neg (by decide +kernel)]; exact ⟨rfl, rfl⟩))
  (fun os started H enc _ F => La os started H enc F)

end Go.Proofs.YtjbcnilllfaipaaGreat
