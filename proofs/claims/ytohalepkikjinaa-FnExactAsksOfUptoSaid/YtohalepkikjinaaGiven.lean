/-
  WHAT A CONTRACT MAY TAKE FOR GRANTED: what its arguments' values show. Conditions: none.
-/
import Derived.Test.YtohalepkikjinaaPackA
set_option linter.unusedVariables false
set_option linter.unusedSimpArgs false
namespace Go.Proofs.Ytohalepkikjinaa
open Go.RowKit Go.Proofs.Ytohalepkikjinaa.Av Go.Proofs.Ytohalepkikjinaa.Ml
open Go.Proofs.Ytohalepkikjinaa.Av.AVal (av)

/-- what a contract may take for granted: what its arguments' values show -/
theorem callsF_given {P : Go.Program} {f : FuncId} {args : List AV} {res : AV} (Q : Prop) (hc : callable P f = true) (hp : ∀ x ∈ args, AvPure x) (hQ : ∀ S w vs, VRs S w mu0 vs args → Q) (h : Q → CallsF P f args res) : CallsF P f args res :=
  ⟨hc, hp, fun S w vs hlt hv => (h (hQ S w vs hv)).2.2 S w vs hlt hv⟩
theorem vrs_at {S : Nat → Prop} {w : World} {μ : Mu} {vs : List Value} {xs : List AV} (h : VRs S w μ vs xs) {i : Nat} {x : AV} (hx : xs[i]? = some x) : ∃ v, VR S w μ v x := by
  have hlt := (List.getElem?_eq_some_iff.1 hx).1
  have hl := h.1
  exact ⟨_, h.2 i (vs[i]'(by omega)) x (List.getElem?_eq_getElem (by omega)) hx⟩
theorem vr_int {S : Nat → Prop} {w : World} {μ : Mu} {v : Value} {n : Int} (h : VR S w μ v (.int .i64 n)) : -9223372036854775808 ≤ n ∧ n ≤ 9223372036854775807 := by
  cases h with | int _ _ a b => exact ⟨a, b⟩
theorem vr_sl_cells {S : Nat → Prop} {w : World} {μ : Mu} {v : Value} {es : List AV} (h : VR S w μ v (.sl es)) {e x : AV} (he : e ∈ es) (hx : x ∈ e.cells) : ∃ u, VR S w μ u x := by
  cases h with
  | sl0 => cases he
  | sl b o cap esz vs _ hS hl hm hz hc hh =>
    obtain ⟨i, hi, rfl⟩ := List.mem_iff_getElem.1 he
    obtain ⟨j, hj, rfl⟩ := List.mem_iff_getElem.1 hx
    exact ⟨_, hh i j (es[i]) _ (List.getElem?_eq_getElem hi) (List.getElem?_eq_getElem hj)⟩
end Go.Proofs.Ytohalepkikjinaa
