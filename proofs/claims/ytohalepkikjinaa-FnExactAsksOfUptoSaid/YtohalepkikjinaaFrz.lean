/-
  A CONTRACT WHOSE RESULT LIES IN ROWS OF ITS OWN, as one whose result is read for good. Conditions: none.
-/
import Derived.Test.YtohalepkikjinaaAvSimp
set_option linter.unusedVariables false
namespace Go.Proofs.Ytohalepkikjinaa.Av
open Go.RowKit

theorem callsF_frz {P : Program} {f : FuncId} {args : List AV} {res : AV} {Post : AV → Hp → Prop} (h : CallsH P f args [] Post) (h1 : ∀ x ∈ args, AvPure x) (h2 : AvPure res) (hp : ∀ r hp', Post r hp' → r.pur (frzAll hp') = res) : CallsF P f args res := by
  obtain ⟨hc, h⟩ := h
  refine ⟨hc, h1, fun S w vs hS hv => ?_⟩
  have hW : WI ⟨w, S, ownOf mu0 [], mu0⟩ S w mu0 [] := ⟨⟨rfl, rfl, rfl, Nat.le_refl _, fun _ _ _ => rfl⟩, hS, fun _ h => h, fun _ h => .inl h, ⟨1, Nat.zero_lt_one, fun _ _ _ => rfl, fun _ _ h => by cases h⟩, fun k bx h => (by cases h), fun k k' bx bx' B B' b h => (by cases h), Mu.le.refl _⟩
  have hno : ∀ b, ¬ ownOf mu0 [] b := by rintro b ⟨k, bx, B, h, _⟩; cases h
  refine (h S w mu0 vs hW hv).mono fun e w' ⟨v, r, hp', S', μ', he, hpost, hvr, hw'⟩ => ?_
  obtain ⟨S1, w1, s1⟩ := WI.frzL (S := S') (hnames hp') hw'
  obtain ⟨S2, w2, s2⟩ := WI.frzL (S := S1) (hnames hp') w1
  have hv2 := VR.pur w2 (hvr.mono (fun b hb => s2 b (s1 b hb)) (Same.refl _ _) (Mu.le.refl _))
  have e : r.pur (frzL (hnames hp') (frzL (hnames hp') hp')) = res := hp r hp' hpost
  rw [e] at hv2
  have hsub : ∀ b, S2 b → S b ∨ (w.heap.size ≤ b ∧ b < w'.heap.size) := fun b hb => by
    rcases w2.new b hb with h | h | h
    · exact .inl h
    · exact .inr ⟨h, w2.lt b hb⟩
    · exact (hno b h).elim
  exact ⟨v, he, (h2 _ _ _ _ hv2).mono hsub (Same.refl _ _) (Mu.le.refl _), ⟨hw'.ext.os, hw'.ext.tape, hw'.ext.output, hw'.ext.size, fun b hb => hw'.ext.block b hb (hno b)⟩⟩
end Go.Proofs.Ytohalepkikjinaa.Av
