/-
 BLOCKS AT A KNOWN PLACE (globals) as own rows that no one writes: name 5000 + g, version 0. Conditions: none.
-/
import Derived.Test.YtjnljjbmmmpdiaaDoorAvRep
set_option linter.unusedVariables false
set_option linter.unusedSimpArgs false
set_option maxRecDepth 100000
namespace Go.Proofs.YtjnljjbmmmpdiaaDoor
open Go.RowKit Go.Proofs.YtjnljjbmmmpdiaaDoor.Av Go.Proofs.YtjnljjbmmmpdiaaDoor.Ml
open Go.Proofs.YtjnljjbmmmpdiaaDoor.Av.AVal (av)

def gint (g ty : Nat) (m : Int) : Nat × Box := (5000 + g, ⟨0, true, ty, 1, [.int .i64 m]⟩)
theorem glob_cell {E : Env} {S : Nat → Prop} {w : World} {μ : Mu} {hp : Hp} {g ty : Nat} {m : Int} (h : WI E S w μ hp) (hg : hget hp (5000 + g) = some (gint g ty m).2) :
  w.cell? ⟨g, 0, none⟩ = some (.int .i64 m) := by
 obtain ⟨B, hB, hz, hm⟩ := h.box _ _ hg
 obtain ⟨N, hN0, hN, hp⟩ := h.fresh
 obtain ⟨_, hb⟩ := hp _ _ hB
 have hb' : B.blk = some g := by rw [hb]; congr 1; omega
 rw [hb'] at hm
 obtain ⟨_, _, _, cur, hc, hsz, _, hl, hlies⟩ := hm
 have hz1 : B.esz = 1 := hz
 obtain ⟨v, hv, hr⟩ := hlies.2 0 0 (.int .i64 m) (.int .i64 m) rfl rfl
 have hv0 : cur[0]? = some v := by simpa using hv
 cases hr with
 | int _ _ a b =>
  rw [hc.cell]; exact hv0
def GPost (res : AV) (x : Nat × Box) (r : AV) (hp' : Hp) : Prop := r = res ∧ hp' = [x]
theorem callsH_glob {P : Program} {f : FuncId} {args : List AV} {res : AV} {g ty : Nat} {m : Int} (hc : callable P f = true) (hcl : ∀ x ∈ args, AvPure x)
  (h : ∀ (S : Nat → Prop) (w : World) (vs : List Value), (∀ b, S b → b < w.heap.size) → VRs S w mu0 vs args → w.cell? ⟨g, 0, none⟩ = some (.int .i64 m) →
   Calls P f vs.toArray w fun e w' => ∃ v, e = .returned v ∧ VR (fun b => S b ∨ (w.heap.size ≤ b ∧ b < w'.heap.size)) w' mu0 v res ∧ Below w.heap.size w w') :
  CallsH P f args [gint g ty m] (GPost res (gint g ty m)) := by
 refine ⟨hc, fun S w μ vs hw hv => ?_⟩
 have hm := glob_cell (g := g) (ty := ty) (m := m) hw (by simp [hget, gint])
 refine (h S w vs hw.lt (hv.clean hcl) hm).mono fun e w' ⟨v, he, h1, h2⟩ => ⟨v, res, [gint g ty m], _, μ, he, ⟨rfl, rfl⟩, h1.mono (fun b hb => hb) (Av.Same.refl _ _) (Mu.le.zero μ), ?_⟩
 exact hw.step h2.os h2.tape h2.output h2.size h2.block (fun b hb => .inl hb) (fun b hb => hb)
def muG (g : Nat) : Mu := fun k v => if k = 5000 + g ∧ v = 0 then some ⟨some g, 1, 1⟩ else none
theorem gint_get {g ty k : Nat} {m : Int} {bx : Box} (hk : hget [gint g ty m] k = some bx) : k = 5000 + g ∧ bx = ⟨0, true, ty, 1, [.int .i64 m]⟩ := by
 have e : hget [gint g ty m] k = if 5000 + g = k then some ⟨0, true, ty, 1, [.int .i64 m]⟩ else none := rfl
 rw [e] at hk
 by_cases hc : 5000 + g = k
 ·rw [if_pos hc] at hk; cases hk; exact ⟨hc.symm, rfl⟩
 ·rw [if_neg hc] at hk; cases hk
theorem calls_of_glob {P : Program} {f : FuncId} {args : List AV} {res : AV} {g ty : Nat} {m : Int} (h : CallsH P f args [gint g ty m] (GPost res (gint g ty m))) (hr : AvPure res)
  {S : Nat → Prop} {w : World} {vs : List Value} (hS : ∀ b, S b → b < w.heap.size) (hg : w.heap[g]? = some (.cells #[.int .i64 m] ty (0, 0))) (hm : IntKind.i64.min ≤ m ∧ m ≤ IntKind.i64.max) (hv : VRs S w mu0 vs args) :
  Calls P f vs.toArray w fun e w' => ∃ v S', e = .returned v ∧ VR S' w' mu0 v res ∧ Below w.heap.size w w' := by
 have hlt : g < w.heap.size := by
  rcases Nat.lt_or_ge g w.heap.size with h1 | h1
  ·exact h1
  ·rw [Array.getElem?_eq_none h1] at hg; cases hg
 have hno : ∀ b, ¬ ownOf (muG g) [gint g ty m] b := by
  rintro b ⟨k, bx, B, hk, hf, _⟩
  obtain ⟨_, rfl⟩ := gint_get hk
  cases hf
 have hW : WI ⟨w, fun b => S b ∨ b = g, ownOf (muG g) [gint g ty m], muG g⟩ (fun b => S b ∨ b = g) w (muG g) [gint g ty m] := by
  refine ⟨⟨rfl, rfl, rfl, Nat.le_refl _, fun _ _ _ => rfl⟩, fun b hb => hb.elim (hS b) (fun e => e ▸ hlt), fun _ h => h, fun _ h => .inl h, ⟨1, Nat.zero_lt_one, fun k v hv => ?_, fun k B hB => ?_⟩, fun k bx hk => ?_, fun k k' bx bx' B B' b hk hk' hne hf => ?_, Mu.le.refl _⟩
  ·unfold muG; rw [if_neg (by omega)]
  ·unfold muG at hB
   split at hB
   ·rename_i hc; cases hB; exact ⟨by omega, by rw [hc.1]; simp⟩
   ·cases hB
  ·obtain ⟨rfl, rfl⟩ := gint_get hk
   ·refine ⟨⟨some g, 1, 1⟩, by simp [muG], rfl, ?_⟩
    dsimp only
    refine ⟨fun h => (by cases h), fun _ => Or.inr rfl, fun h => (by cases h), #[.int .i64 m], .mk0 hg, rfl, by unfold maxLen; omega, by simp, ?_, ?_⟩
    ·simp [AV.cells, AV.one]
    ·intro i j e x he hx
     cases i with
     | zero =>
      cases he
      cases j with
      | zero => cases hx; exact ⟨_, rfl, .int _ _ hm.1 hm.2⟩
      | succ j => cases hx
     | succ i => cases he
  ·obtain ⟨_, rfl⟩ := gint_get hk
   cases hf
 refine (h.2 _ w (muG g) vs hW (hv.mono (fun b hb => .inl hb) (Av.Same.refl _ _) (Mu.le.zero _))).mono fun e w' ⟨v, r, hp', S', μ', he, hpost, hvr, hw'⟩ => ?_
 obtain ⟨rfl, _⟩ := hpost
 exact ⟨v, S', he, hr _ _ _ _ hvr, ⟨hw'.ext.os, hw'.ext.tape, hw'.ext.output, hw'.ext.size, fun b hb => hw'.ext.block b hb (hno b)⟩⟩
end Go.Proofs.YtjnljjbmmmpdiaaDoor
