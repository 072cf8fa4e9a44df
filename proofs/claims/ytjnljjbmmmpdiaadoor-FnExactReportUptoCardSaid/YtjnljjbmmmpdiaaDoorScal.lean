/-
 PLAIN CONTRACTS OVER NUMBERS AND STRINGS, as contracts over abstract values. Conditions: none.
-/
import Derived.Test.YtjnljjbmmmpdiaaDoorGlob
import Derived.Test.YtjnljjbmmmpdiaaDoorAVal
set_option linter.unusedVariables false
set_option linter.unusedSimpArgs false
set_option maxRecDepth 100000
namespace Go.Proofs.YtjnljjbmmmpdiaaDoor
open Go.RowKit Go.Proofs.YtjnljjbmmmpdiaaDoor.Av Go.Proofs.YtjnljjbmmmpdiaaDoor.Ml
open Go.Proofs.YtjnljjbmmmpdiaaDoor.Av.AVal (av)

def scV : AV → Value
 | .str s => .string s
 | .int k n => .int k n
 | .bool b => .bool b
 | _ => .nilFunc
def AV.isSc : AV → Bool
 | .str _ | .int _ _ | .bool _ => true
 | _ => false
theorem vr_sc {S : Nat → Prop} {w : World} {μ : Mu} {v : Value} {x : AV} (h : VR S w μ v x) (hs : AV.isSc x = true) : v = scV x := by
 cases h <;> simp [AV.isSc] at hs <;> rfl
theorem vrs_sc {S : Nat → Prop} {w : World} {μ : Mu} {vs : List Value} {xs : List AV} (h : VRs S w μ vs xs) (hs : xs.all AV.isSc = true) : vs = xs.map scV := by
 obtain ⟨hl, h⟩ := h
 apply List.ext_getElem (by simpa using hl)
 intro i h1 h2
 have h3 : i < xs.length := by simpa using h2
 rw [List.getElem_map]
 exact vr_sc (h i vs[i] xs[i] (by simp) (by simp [h3])) (List.all_eq_true.1 hs _ (List.getElem_mem h3))
theorem pure_sc {x : AV} (h : AV.isSc x = true) : AvPure x := by
 cases x <;> first | exact AvPure.str _ | exact AvPure.int _ _ | exact AvPure.bool _ | (simp [AV.isSc] at h)
theorem callsF_sc {P : Program} {f : FuncId} {args : List AV} {res : AV} {val : Value} (hc : callable P f = true) (hs : args.all AV.isSc = true) (hv : ∀ S w, VR S w mu0 val res)
  (h : ∀ w, Calls P f (args.map scV).toArray w fun e w' => e = .returned val ∧ Below w.heap.size w w') : CallsF P f args res := by
 refine ⟨hc, fun x hx => pure_sc (List.all_eq_true.1 hs x hx), fun S w vs hl hvs => ?_⟩
 rw [vrs_sc hvs hs]
 exact (h w).mono fun e w' ⟨he, hb⟩ => ⟨val, he, hv _ _, hb⟩
theorem callsH_sc {P : Program} {f : FuncId} {args : List AV} {res : AV} {val : Value} {g ty : Nat} {m : Int} (hc : callable P f = true) (hs : args.all AV.isSc = true) (hv : ∀ S w, VR S w mu0 val res)
  (h : ∀ w, w.cell? ⟨g, 0, none⟩ = some (.int .i64 m) → Calls P f (args.map scV).toArray w fun e w' => e = .returned val ∧ Below w.heap.size w w') : CallsH P f args [gint g ty m] (GPost res (gint g ty m)) := by
 refine callsH_glob hc (fun x hx => pure_sc (List.all_eq_true.1 hs x hx)) fun S w vs hl hvs hm => ?_
 rw [vrs_sc hvs hs]
 exact (h w hm).mono fun e w' ⟨he, hb⟩ => ⟨val, he, hv _ _, hb⟩
theorem vr_tup2 {S : Nat → Prop} {w : World} {μ : Mu} {a b : Value} {x y : AV} (ha : VR S w μ a x) (hb : VR S w μ b y) : VR S w μ (.tuple #[a, b]) (.tup [x, y]) := by
 refine .tup _ _ rfl fun i v z h1 h2 => ?_
 match i with
 | 0 => cases h1; cases h2; exact ha
 | 1 => cases h1; cases h2; exact hb
 | i + 2 => cases h2
end Go.Proofs.YtjnljjbmmmpdiaaDoor
