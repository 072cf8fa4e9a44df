/-
  VERSIONS OF PARTS BY RANGES OF THEIR INDICES. Conditions: none.
-/
import Derived.Test.YtohalepkikjinaaPackO
set_option linter.unusedVariables false
set_option linter.unusedSimpArgs false
namespace Go.Proofs.Ytohalepkikjinaa
open Go.RowKit Go.Proofs.Ytohalepkikjinaa.Av Go.Proofs.Ytohalepkikjinaa.Ml
open Go.Proofs.Ytohalepkikjinaa.Av.AVal (av)
open OVal (ov oh on)

open Classical in
/-- versions: within the parts from the m-th on as vs, elsewhere as vs' -/
noncomputable def glueR (nm m : Nat) (vs vs' : Nat → Nat) : Nat → Nat := fun k => if ∃ i, m ≤ i ∧ InT (sub nm i) k then vs k else vs' k
section
variable {α : Type} [AVal α] [OVal α]
theorem glueR_hi {nm m : Nat} (vs vs' : Nat → Nat) : ∀ (i : Nat) (l : List α), m ≤ i → ovL nm (glueR nm m vs vs') i l = ovL nm vs i l ∧ ohL nm (glueR nm m vs vs') i l = ohL nm vs i l
  | _, [], _ => ⟨rfl, rfl⟩
  | i, e :: r, h => by
    obtain ⟨a, b⟩ := glueR_hi (nm := nm) (m := m) vs vs' (i + 1) r (by omega)
    obtain ⟨c, d⟩ := OVal.vdep (sub nm i) (glueR nm m vs vs') vs e (fun k hk => if_pos ⟨i, h, hk⟩)
    simp only [ovL, ohL, a, b, c, d, and_self]
theorem glueR_lo {nm m : Nat} (vs vs' : Nat → Nat) : ∀ (i : Nat) (l : List α), i + l.length ≤ m → ovL nm (glueR nm m vs vs') i l = ovL nm vs' i l ∧ ohL nm (glueR nm m vs vs') i l = ohL nm vs' i l
  | _, [], _ => ⟨rfl, rfl⟩
  | i, e :: r, h => by
    simp only [List.length_cons] at h
    obtain ⟨a, b⟩ := glueR_lo (nm := nm) (m := m) vs vs' (i + 1) r (by omega)
    obtain ⟨c, d⟩ := OVal.vdep (sub nm i) (glueR nm m vs vs') vs' e (fun k hk => if_neg (fun ⟨j, hj, hk'⟩ => by have := hk.sib hk'; omega))
    simp only [ovL, ohL, a, b, c, d, and_self]
theorem glueR_app {nm : Nat} (vs vs' : Nat → Nat) (i : Nat) (a b : List α) : ovL nm (glueR nm (i + a.length) vs vs') i (a ++ b) = ovL nm vs' i a ++ ovL nm vs (i + a.length) b ∧ ohL nm (glueR nm (i + a.length) vs vs') i (a ++ b) = ohL nm vs' i a ++ ohL nm vs (i + a.length) b := by
  have h1 := glueR_lo (α := α) (nm := nm) (m := i + a.length) vs vs' i a (Nat.le_refl _)
  have h2 := glueR_hi (α := α) (nm := nm) (m := i + a.length) vs vs' (i + a.length) b (Nat.le_refl _)
  rw [ovL_app, ohL_app, h1.1, h1.2, h2.1, h2.2]
  exact ⟨rfl, rfl⟩
/-- what lies in parts of some indices is kept beside parts of others -/
theorem parts_app {nm m i : Nat} {vs vs' : Nat → Nat} {a b : List α} {s : Hp} (hm : i + a.length ≤ m) (hs : ∀ p ∈ ohL nm vs' i a, hget s p.1 = some p.2) : hpLe (ohL nm vs m b ++ s) (ohL nm vs' i a ++ ohL nm vs m b) := by
  rw [hpLe_app]
  refine ⟨hpLe_iff.2 fun p hp => ?_, hpLe_l (ohL_self nm vs m b)⟩
  obtain ⟨q, hq, hin⟩ := ohL_mem hp
  have hn : ∀ r ∈ ohL nm vs m b, r.1 ≠ p.1 := fun r hr e => by
    obtain ⟨j, hj, h2⟩ := ohL_in hr
    rw [e] at h2
    have := h2.sib (OVal.inh hin)
    omega
  rw [hg_app_r hn]
  exact hs p hp
end
theorem ohL_far {α : Type} [AVal α] [OVal α] {nm i q : Nat} {vs : Nat → Nat} {l : List α} (h : q < 10000) : hget (ohL nm vs i l) q = none := hg_none fun p hp e => by
  obtain ⟨j, _, hj⟩ := ohL_in hp
  have := hj.ge
  omega
end Go.Proofs.Ytohalepkikjinaa
