/-
  Heights OF THE REFERENCE once more: lists where nothing is told. Conditions: none.
-/
import Derived.Test.YtabifanjbckchaaGreatPackK
set_option linter.unusedVariables false
set_option linter.unusedSimpArgs false
namespace Go.Proofs.YtabifanjbckchaaGreat
open Go.RowKit Go.Proofs.YtabifanjbckchaaGreat.Av Go.Proofs.YtabifanjbckchaaGreat.Ml
open Go.Proofs.YtabifanjbckchaaGreat.Av.AVal (av)

theorem vr_tup3 {S : Nat → Prop} {w : World} {μ : Mu} {v : Value} (b : Bool) (h : VR S w μ v (.tup [.nils, .nils, .bool b])) : VR S w μ v (.tup [.sl [], .sl [], .bool b]) := by
  cases h with
  | tup cs _ hl hh =>
    refine .tup cs _ hl fun i u z h1 h2 => ?_
    match i with
    | 0 => cases h2; have := hh 0 u _ h1 rfl; cases this; exact .sl0 _ _ (Nat.zero_le _)
    | 1 => cases h2; have := hh 1 u _ h1 rfl; cases this; exact .sl0 _ _ (Nat.zero_le _)
    | 2 => cases h2; exact hh 2 u _ h1 rfl
    | i + 3 => cases h2
theorem specHeightsS_ok (c : Code) (hx : Bulk.bulk c ≤ 1048576) (hrg : ∀ i ∈ c.ins, -9223372036854775808 ≤ i.a ∧ i.a ≤ 9223372036854775807) : CallsF Tryz.prog 6 [av c] (.tup [.sl ((hgtsV c).map av), .sl ((hgtsE c).map av), .bool (hgtsOk c)]) := by
  have h := specHeights_ok c hx hrg
  unfold hgtsA at h
  cases hok : hgtsOk c with
  | true => rw [if_pos hok] at h; exact h
  | false =>
    rw [if_neg (by rw [hok]; decide)] at h
    have eV : hgtsV c = [] := by unfold hgtsV; rw [if_neg (by rw [hok]; decide)]
    have eE : hgtsE c = [] := by unfold hgtsE; rw [if_neg (by rw [hok]; decide)]
    rw [eV, eE]
    exact ⟨h.1, h.2.1, fun S w vs hl hv => (h.2.2 S w vs hl hv).mono fun e w' ⟨v, he, hr, hb⟩ => ⟨v, he, vr_tup3 false hr, hb⟩⟩
theorem hgtsV_len (c : Code) : (hgtsV c).length ≤ c.ins.length := by unfold hgtsV; split <;> simp
theorem hgtsE_len (c : Code) : (hgtsE c).length ≤ c.ins.length := by unfold hgtsE; split <;> simp
end Go.Proofs.YtabifanjbckchaaGreat
