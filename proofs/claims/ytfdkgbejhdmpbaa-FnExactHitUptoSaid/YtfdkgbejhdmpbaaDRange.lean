/-
  THE NUMBERS OF A VALUE's NODES ARE IN RANGE. Conditions: none.
-/
import Derived.Test.YtfdkgbejhdmpbaaDataP
import Derived.Test.YtfdkgbejhdmpbaaGiven
namespace Go.Proofs.Ytfdkgbejhdmpbaa
open Go.RowKit Go.Proofs.Ytfdkgbejhdmpbaa.Av Go.Proofs.Ytfdkgbejhdmpbaa.Ml
open Go.Proofs.Ytfdkgbejhdmpbaa.Av.AVal (av)

theorem data_range {S : Nat → Prop} {w : World} {v : Value} {c : List DNode} (h : VR S w mu0 v (.agg [.sl (c.map av)])) : ∀ n ∈ c, -9223372036854775808 ≤ n.n ∧ n.n ≤ 9223372036854775807 := by
  intro i hi
  cases h with
  | agg cs _ hl h1 hh =>
    have h0 : (0 : Nat) < cs.size := by simp at hl; omega
    have hs := hh 0 cs[0] _ (Array.getElem?_eq_getElem h0) rfl
    have hm : av i ∈ c.map av := List.mem_map.2 ⟨i, hi, rfl⟩
    obtain ⟨u, hu⟩ := vr_sl_cells hs hm (x := .int .i64 i.n) (by rw [av_DNode]; simp [AV.cells])
    exact vr_int hu
end Go.Proofs.Ytfdkgbejhdmpbaa
