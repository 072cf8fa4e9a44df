/-
  strings.ReplaceAll and strings.Split as contracts over abstract values. Conditions: each theorem's own.
-/
import Derived.Test.YtpnnhgminiihnaaDoorGlob
import Derived.Test.YtpnnhgminiihnaaDoorShelfI
set_option linter.unusedVariables false
set_option linter.unusedSimpArgs false
set_option maxRecDepth 100000
namespace Go.Proofs.YtpnnhgminiihnaaDoor
open Go.RowKit Go.Proofs.YtpnnhgminiihnaaDoor.Av Go.Proofs.YtpnnhgminiihnaaDoor.Ml
open Go.Proofs.YtpnnhgminiihnaaDoor.Av.AVal (av)

theorem vrs_str {S : Nat → Prop} {w : World} {μ : Mu} {vs : List Value} {xs : List ByteArray} (h : VRs S w μ vs (xs.map AV.str)) : vs = xs.map Value.string := by
  obtain ⟨hl, h⟩ := h
  apply List.ext_getElem (by simpa using hl)
  intro i h1 h2
  have h3 : i < xs.length := by simpa using h2
  have := h i vs[i] (.str xs[i]) (by simp) (by simp [h3])
  generalize vs[i] = v at this
  cases this
  simp
theorem ReplaceAll_ok (s old new : ByteArray) (m : Int) (ty : Nat) (hs : s.size < 4294967281) (h1 : 1 ≤ old.size) (hlen : s.size + Lib.countB s old * new.size ≤ 140737488355328)
    (hz : (⟨(Lib.replaceAll s.data.toList old.data.toList new.data.toList).toArray⟩ : ByteArray).size ≤ maxLen) :
    CallsH Tryd.prog 30 [.str s, .str old, .str new] [gint 0 ty m] (GPost (.str ⟨(Lib.replaceAll s.data.toList old.data.toList new.data.toList).toArray⟩) (gint 0 ty m)) := by
  refine callsH_glob (by kernel_rfl) (by simp; exact ⟨AvPure.str _, AvPure.str _, AvPure.str _⟩) ?_
  intro S w vs hS hv hm
  have e : vs = [.string s, .string old, .string new] := vrs_str (xs := [s, old, new]) hv
  subst e
  refine (strings_ReplaceAll s old new m w hs hm h1 hlen).mono fun e w' ⟨he, hb⟩ => ⟨_, he, .str _ hz, hb⟩
theorem Split_ok (s sep : ByteArray) (m : Int) (ty : Nat) (hs : s.size < 4294967281) (h1 : 1 ≤ sep.size) (hn : (Lib.splitB sep 0 (Lib.countB s sep) s).length = Lib.countB s sep + 1)
    (hc : Lib.countB s sep + 1 ≤ maxLen) (hz : ∀ x ∈ Lib.splitB sep 0 (Lib.countB s sep) s, x.size ≤ maxLen) :
    CallsH Tryd.prog 29 [.str s, .str sep] [gint 0 ty m] (GPost (.sl ((Lib.splitB sep 0 (Lib.countB s sep) s).map AV.str)) (gint 0 ty m)) := by
  refine callsH_glob (by kernel_rfl) (by simp; exact ⟨AvPure.str _, AvPure.str _⟩) ?_
  intro S w vs hS hv hm
  have e : vs = [.string s, .string sep] := vrs_str (xs := [s, sep]) hv
  subst e
  refine (strings_Split s sep m w hs hm h1).mono fun e w' ⟨he, hw⟩ => ⟨_, he, ?_, ?_⟩
  · obtain ⟨L, hL⟩ : ∃ L, L = Lib.splitB sep 0 (Lib.countB s sep) s := ⟨_, rfl⟩
    rw [← hL] at hn hz hw ⊢
    rw [← hn]
    have hn2 : L.length ≤ maxLen := by rw [hn]; exact hc
    have := VR.sl (S := fun b => S b ∨ (w.heap.size ≤ b ∧ b < w'.heap.size)) (w := w') (μ := mu0) w.heap.size 0 L.length 1 (fun i _ => .string (L.getD i ⟨#[]⟩)) (L.map AV.str) (.inr ⟨Nat.le_refl _, by rw [hw]; simp⟩) (by simp) hn2
      (by simp [AV.cells, AV.one]) (by
        intro i j hi hj
        obtain rfl : j = 0 := by omega
        have hi' : i < L.length := by simpa using hi
        rw [hw]
        have e0 : 0 + i * 1 + 0 = i := by omega
        rw [e0]
        unfold World.cell?
        simp only [heap_alloc_new]
        simp [List.getD_eq_getElem?_getD, List.getElem?_eq_getElem hi']) (by
        intro i j e x he hx
        obtain ⟨y, hy, rfl⟩ := List.mem_map.1 (List.mem_of_getElem? he)
        rw [List.getElem?_map] at he
        obtain ⟨y', hy', e'⟩ := Option.map_eq_some_iff.1 he
        cases e'
        cases j with
        | zero =>
          cases hx
          have : L.getD i ⟨#[]⟩ = y := by rw [List.getD_eq_getElem?_getD, hy']; rfl
          rw [this]
          exact .str _ (hz _ hy)
        | succ j => cases hx)
    simpa using this
  · rw [hw]; exact Below.alloc (Below.refl _ _) (Nat.le_refl _) _
end Go.Proofs.YtpnnhgminiihnaaDoor
