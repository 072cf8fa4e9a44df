/-
 THE START THAT FITS: a world in which the two listed tables hold what the rows list. Conditions: none.
-/
import Derived.Test.YtjnljjbmmmpdiaaDoorCards
import Derived.Test.YtjnljjbmmmpdiaaDoorTie
import Derived.Test.YtjnljjbmmmpdiaaDoorReads
import Derived.Test.YtjnljjbmmmpdiaaDoorGlob
import Derived.Deep.DeepHandedRow
import Derived.Lib.LaidTab
set_option linter.unusedVariables false
set_option maxRecDepth 100000
namespace Go.Proofs.YtjnljjbmmmpdiaaDoor
open Go.ChangeShapes Go.WideShapes Go.ChangeAt Go.RowKit Go.Proofs.YtjnljjbmmmpdiaaDoor.Ml

noncomputable def laidWorld (os : Os) : World :=
 let w0 := World.holding Tryd.prog os ⟨#[], #[], []⟩
 let put (h : Array Obj) (g : Nat) (cs : Array Value) : Array Obj := h.modify g fun
  | .cells _ t frozen => .cells cs t frozen
  | o => o
 let h1 := put w0.heap 1 (Go.Pinned.utf8FirstZ.map fun (n : Nat) => Value.int .u8 (n : Int)).toArray
 let h2 := put h1 2 (([128, 191, 160, 191, 128, 159, 144, 191, 128, 143] ++ List.replicate 22 0).map fun (n : Nat) => Value.int .u8 (n : Int)).toArray
 { w0 with heap := h2 }
theorem laid_met (os : Os) (args : Array Value) : laidMet Tryd.prog [("unicode/utf8.acceptRanges", Rows.laid_unicode_utf8_acceptRanges), ("unicode/utf8.first", Rows.laid_unicode_utf8_first)] ((laidWorld os).forCall (fun _ _ => 0) ⟨#[], args, []⟩).memory :=
 laidMet_of_run' 8 (by kernel_rfl) (by kernel_rfl)

theorem glob_met {W : World} (h : W.ShapedOpen Tryd.prog) : ∃ m, W.heap[0]? = some (.cells #[.int .i64 m] 3 (0, 0)) ∧ IntKind.i64.min ≤ m ∧ m ≤ IntKind.i64.max := by
 obtain ⟨cs, hc, hsz, hok⟩ := h.1 0 #[.int .i64 0] 3 (of_decide_eq_true (by kernel_rfl)) (by kernel_rfl)
 obtain ⟨ts, hts, _, hv⟩ := hok (by kernel_rfl)
 have e : Tryd.prog.cellTypes Tryd.prog.depth 3 = some [3] := by kernel_rfl
 rw [e] at hts
 cases hts
 obtain ⟨v, rfl⟩ : ∃ v, cs = #[v] := by
  cases cs with
  | mk l =>
   match l, hsz with
   | [v], _ => exact ⟨v, rfl⟩
 obtain ⟨u, hu, hx⟩ := hv 0 v rfl
 cases hu
 unfold Cell.ok at hx
 rw [Tryd.underlying3] at hx
 cases v <;> simp only at hx
 obtain ⟨rfl, hr⟩ := hx
 exact ⟨_, hc, hr⟩

end Go.Proofs.YtjnljjbmmmpdiaaDoor
