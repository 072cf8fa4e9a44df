/-
 OWN ROWS GET OTHER NAMES; versions of parts put together. Conditions: none.
-/
import Derived.Test.YteeiaaogmjbcjaaGreatHAvOwn
import Derived.Test.YteeiaaogmjbcjaaGreatProg
import Derived.Test.YteeiaaogmjbcjaaGreatHAvDraw
set_option linter.unusedVariables false
set_option linter.unusedSimpArgs false
namespace Go.Proofs.YteeiaaogmjbcjaaGreat.Av
open Go.RowKit
open AVal (av)
open OVal (ov oh on)

theorem Goes.renF {s : St} {T : St → Prop} (F : Nat → List (Nat × AV)) (j k : Nat) {v : Nat} {b : Box} (hb : hget s.hp j = some b) (hv : b.ver = v)
  (hF : ∀ (v' : Nat) (S : Nat → Prop) (w : World) (μ : Mu) (a : Nat → Value), μ k v' = μ j v → (∀ t, VR S w μ (a t) (fget s.fr t)) → ∀ t, VR S w μ (a t) (fget (F v') t))
  (h : ∀ v', Goes ⟨F v', (k, ⟨v', b.frz, b.ty, b.esz, b.es⟩) :: hrest [j] s.hp⟩ T) : Goes s T := by
 refine ⟨?_⟩
 rintro E nt a w ⟨hd, hn, S, μ, hw, hf⟩
 obtain ⟨N, hN0, hN, _⟩ := hw.fresh
 obtain ⟨B, hB, hz, hh⟩ := hw.box j b hb
 have hle : Mu.le μ (μ.put k N B) := Mu.le_put (hN k N (Nat.le_refl _))
 have hget' : ∀ q, hget ((k, (⟨N, b.frz, b.ty, b.esz, b.es⟩ : Box)) :: hrest [j] s.hp) q = if k = q then some ⟨N, b.frz, b.ty, b.esz, b.es⟩ else if q = j then none else hget s.hp q := fun q => by
  simp only [hget]
  split
  ·rfl
  ·rw [hget_rest]
   by_cases hq : q = j
   ·rw [if_pos hq, if_pos (by simp [hq])]
   ·rw [if_neg hq, if_neg (by simp [hq])]
 have hold : ∀ q bq, hget s.hp q = some bq → ∀ B', (μ.put k N B) q bq.ver = some B' → μ q bq.ver = some B' := fun q bq hq B' hB' => by
  obtain ⟨B0, h0, _⟩ := hw.box q bq hq
  have := hle _ _ _ h0
  rw [this] at hB'; cases hB'; exact h0
 refine (h N).run E nt a w ⟨hd, hn, S, μ.put k N B, ⟨hw.ext, hw.lt, hw.base, hw.new, Mu.put_fresh hN0 hw.fresh, fun q bq hq => ?_, ?_, hw.le.trans hle⟩, fun t => ?_⟩
 ·rw [hget'] at hq
  by_cases hkq : k = q
  ·rw [if_pos hkq] at hq; cases hq; subst hkq
   refine ⟨B, Mu.put_self _ _ _ _, hz, ?_⟩
   cases hbl : B.blk with
   | none => rw [hbl] at hh; exact hh
   | some g =>
    rw [hbl] at hh
    obtain ⟨a1, a2, a3, cu, a4, a5, a6, a7, a8⟩ := hh
    exact ⟨a1, a2, a3, cu, a4, a5, a6, a7, a8.mono (fun _ h => h) (Same.refl _ _) hle⟩
  ·rw [if_neg hkq] at hq
   by_cases hqj : q = j
   ·rw [if_pos hqj] at hq; cases hq
   ·rw [if_neg hqj] at hq
    obtain ⟨B0, h0, hz0, hh0⟩ := hw.box q bq hq
    refine ⟨B0, hle _ _ _ h0, hz0, ?_⟩
    cases hbl : B0.blk with
    | none => rw [hbl] at hh0; exact hh0
    | some g =>
     rw [hbl] at hh0
     obtain ⟨a1, a2, a3, cu, a4, a5, a6, a7, a8⟩ := hh0
     exact ⟨a1, a2, a3, cu, a4, a5, a6, a7, a8.mono (fun _ h => h) (Same.refl _ _) hle⟩
 ·intro q q' bq bq' Bq Bq' g hq hq' hne hf1 hf2 hBq hBq' hbl
  rw [hget'] at hq hq'
  by_cases hkq : k = q
  ·rw [if_pos hkq] at hq; cases hq; subst hkq
   rw [Mu.put_self] at hBq; cases hBq
   rw [if_neg hne] at hq'
   by_cases hqj : q' = j
   ·rw [if_pos hqj] at hq'; cases hq'
   ·rw [if_neg hqj] at hq'
    exact hw.apart j q' b bq' B Bq' g hb hq' (fun e => hqj e.symm) hf1 hf2 hB (hold q' bq' hq' _ hBq') hbl
  ·rw [if_neg hkq] at hq
   by_cases hqj : q = j
   ·rw [if_pos hqj] at hq; cases hq
   ·rw [if_neg hqj] at hq
    by_cases hkq' : k = q'
    ·rw [if_pos hkq'] at hq'; cases hq'; subst hkq'
     rw [Mu.put_self] at hBq'; cases hBq'
     exact hw.apart q j bq b Bq B g hq hb hqj hf1 hf2 (hold q bq hq _ hBq) hB hbl
    ·rw [if_neg hkq'] at hq'
     by_cases hqj' : q' = j
     ·rw [if_pos hqj'] at hq'; cases hq'
     ·rw [if_neg hqj'] at hq'
      exact hw.apart q q' bq bq' Bq Bq' g hq hq' hne hf1 hf2 (hold q bq hq _ hBq) (hold q' bq' hq' _ hBq') hbl
 ·exact hF N S w (μ.put k N B) _ ((Mu.put_self _ _ _ _).trans ((hv ▸ hle _ _ _ hB).symm)) (fun t => (hf t).mono (fun _ h => h) (Same.refl _ _) hle) t

theorem VR.ren {S : Nat → Prop} {w : World} {μ : Mu} {u : Value} {j v k v' n : Nat} (h : VR S w μ u (.row j v n)) (e : μ k v' = μ j v) : VR S w μ u (.row k v' n) := by
 cases h with
 | row _ _ _ bl cap esz h1 h2 h3 => exact .row k v' n _ _ _ (e.trans h1) h2 h3
 | row0 _ _ cap esz h1 => exact .row0 k v' _ _ (e.trans h1)
theorem fr_put {S : Nat → Prop} {w : World} {μ : Mu} {a : Nat → Value} {fr : List (Nat × AV)} {i : Nat} {y : AV} (h : ∀ t, VR S w μ (a t) (fget fr t)) (hy : VR S w μ (a i) y) : ∀ t, VR S w μ (a t) (fget ((i, y) :: fr) t) := fun t => by
 simp only [fget]
 split
 ·rename_i e; subst e; exact hy
 ·exact h t
theorem Goes.ren {s : St} {T : St → Prop} (i j k : Nat) {v n : Nat} {b : Box} (hi : fget s.fr i = .row j v n) (hb : hget s.hp j = some b) (hv : b.ver = v)
  (h : ∀ v', Goes ⟨(i, .row k v' n) :: s.fr, (k, ⟨v', b.frz, b.ty, b.esz, b.es⟩) :: hrest [j] s.hp⟩ T) : Goes s T :=
 Goes.renF (fun v' => (i, .row k v' n) :: s.fr) j k hb hv (fun v' S w μ a e hf => fr_put hf ((hi ▸ hf i).ren e)) h
theorem Goes.newF {s : St} {T : St → Prop} (F : Nat → List (Nat × AV)) (k : Nat) (ty : TypeId) (esz : Nat)
  (hF : ∀ (v : Nat) (S : Nat → Prop) (w : World) (μ : Mu) (a : Nat → Value), μ k v = some ⟨none, 0, esz⟩ → (∀ t, VR S w μ (a t) (fget s.fr t)) → ∀ t, VR S w μ (a t) (fget (F v) t))
  (h : ∀ v, Goes ⟨F v, (k, ⟨v, false, ty, esz, []⟩) :: s.hp⟩ T) : Goes s T := by
 refine ⟨?_⟩
 rintro E nt a w ⟨hd, hn, S, μ, hw, hf⟩
 obtain ⟨N, hN0, hN, _⟩ := hw.fresh
 have hle : Mu.le μ (μ.put k N ⟨none, 0, esz⟩) := Mu.le_put (hN k N (Nat.le_refl _))
 have hget' : ∀ j, hget ((k, (⟨N, false, ty, esz, []⟩ : Box)) :: s.hp) j = if k = j then some ⟨N, false, ty, esz, []⟩ else hget s.hp j := fun j => rfl
 have hold : ∀ j bj, hget s.hp j = some bj → ∀ B', (μ.put k N ⟨none, 0, esz⟩) j bj.ver = some B' → μ j bj.ver = some B' := fun j bj hj B' hB' => by
  obtain ⟨B0, h0, _⟩ := hw.box j bj hj
  have := hle _ _ _ h0
  rw [this] at hB'; cases hB'; exact h0
 refine (h N).run E nt a w ⟨hd, hn, S, μ.put k N ⟨none, 0, esz⟩, ⟨hw.ext, hw.lt, hw.base, hw.new, Mu.put_fresh hN0 hw.fresh, fun j bj hj => ?_, ?_, hw.le.trans hle⟩, fun t => hF N S w _ _ (Mu.put_self _ _ _ _) (fun t => (hf t).mono (fun _ h => h) (Same.refl _ _) hle) t⟩
 ·rw [hget'] at hj
  by_cases hkj : k = j
  ·rw [if_pos hkj] at hj; cases hj; subst hkj
   exact ⟨_, Mu.put_self _ _ _ _, rfl, rfl⟩
  ·rw [if_neg hkj] at hj
   obtain ⟨B0, h0, hz0, hh⟩ := hw.box j bj hj
   refine ⟨B0, hle _ _ _ h0, hz0, ?_⟩
   cases hbl : B0.blk with
   | none => rw [hbl] at hh; exact hh
   | some b =>
    rw [hbl] at hh
    obtain ⟨a1, a2, a3, cu, a4, a5, a6, a7, a8⟩ := hh
    exact ⟨a1, a2, a3, cu, a4, a5, a6, a7, a8.mono (fun _ h => h) (Same.refl _ _) hle⟩
 ·intro j j' bj bj' Bj Bj' b hj hj' hne hf1 hf2 hBj hBj' hbl
  rw [hget'] at hj hj'
  by_cases hkj : k = j
  ·rw [if_pos hkj] at hj; cases hj; subst hkj
   rw [Mu.put_self] at hBj; cases hBj; cases hbl
  ·rw [if_neg hkj] at hj
   by_cases hkj' : k = j'
   ·rw [if_pos hkj'] at hj'; cases hj'; subst hkj'
    rw [Mu.put_self] at hBj'; cases hBj'; simp
   ·rw [if_neg hkj'] at hj'
    exact hw.apart j j' bj bj' Bj Bj' b hj hj' hne hf1 hf2 (hold j bj hj _ hBj) (hold j' bj' hj' _ hBj') hbl
theorem VR.new {S : Nat → Prop} {w : World} {μ : Mu} {u : Value} {k v esz : Nat} (h : VR S w μ u .nils) (e : μ k v = some ⟨none, 0, esz⟩) : VR S w μ u (.row k v 0) := by
 cases h
 exact .row0 k v 0 esz e
theorem Goes.new {s : St} {T : St → Prop} (i k : Nat) (ty : TypeId) (esz : Nat) (hi : fget s.fr i = .nils) (h : ∀ v, Goes ⟨(i, .row k v 0) :: s.fr, (k, ⟨v, false, ty, esz, []⟩) :: s.hp⟩ T) : Goes s T :=
 Goes.newF (fun v => (i, .row k v 0) :: s.fr) k ty esz (fun v S w μ a e hf => fr_put hf ((hi ▸ hf i).new e)) h
theorem callsH_goes {P : Go.Program} {f : FuncId} {args : List AV} {hp : Hp} {Post Post2 : AV → Hp → Prop} (h : CallsH P f args hp Post) (hg : ∀ r hp', Post r hp' → Goes ⟨[(0, r)], hp'⟩ fun s => Post2 (fget s.fr 0) s.hp) : CallsH P f args hp Post2 := by
 obtain ⟨hc, h⟩ := h
 refine ⟨hc, fun S w μ vs hW hv => (h S w μ vs hW hv).mono fun e w' ⟨v, r, hp', S', μ', he, hpst, hvr, hw'⟩ => ?_⟩
 obtain ⟨s2, hT, hd, hn, S2, μ2, hw2, hf2⟩ := (hg r hp' hpst).run ⟨w, S, ownOf μ hp, μ⟩ 1 { tmps := #[v], defers := [] } w' ⟨rfl, rfl, S', μ', hw', fun t => by
  cases t with
  | zero => exact hvr
  | succ t => exact .top _⟩
 exact ⟨v, fget s2.fr 0, s2.hp, S2, μ2, he, hT, hf2 0, hw2⟩

open Classical in
noncomputable def glue (K : Nat) (vs vs' : Nat → Nat) : Nat → Nat := fun k => if InT K k then vs k else vs' k
theorem glue_in {K k : Nat} {vs vs' : Nat → Nat} (h : InT K k) : glue K vs vs' k = vs k := if_pos h
section
variable {α : Type} [AVal α] [OVal α]
theorem ovL_app (nm : Nat) (vs : Nat → Nat) : ∀ (i : Nat) (a b : List α), ovL nm vs i (a ++ b) = ovL nm vs i a ++ ovL nm vs (i + a.length) b
 | _, [], _ => by simp [ovL]
 | i, e :: r, b => by simp only [List.cons_append, ovL, ovL_app nm vs (i + 1) r b, List.length_cons]; rw [show i + 1 + r.length = i + (r.length + 1) by omega]
theorem ohL_app (nm : Nat) (vs : Nat → Nat) : ∀ (i : Nat) (a b : List α), ohL nm vs i (a ++ b) = ohL nm vs i a ++ ohL nm vs (i + a.length) b
 | _, [], _ => by simp [ohL]
 | i, e :: r, b => by simp only [List.cons_append, ohL, ohL_app nm vs (i + 1) r b, List.length_cons, List.append_assoc]; rw [show i + 1 + r.length = i + (r.length + 1) by omega]
end
theorem oh_full {α : Type} [AVal α] [OVal α] {nm : Nat} {vs : Nat → Nat} {v' : Nat} (l : List α) : ov nm (glue nm (fun k => if k = nm then v' else vs k) vs) l = .row nm v' l.length ∧
  oh nm (glue nm (fun k => if k = nm then v' else vs k) vs) l = ohL nm vs 0 l ++ [(nm, ⟨v', false, OVal.ty α, AVal.n α, ovL nm vs 0 l⟩)] := by
 have hroot : glue nm (fun k => if k = nm then v' else vs k) vs nm = v' := by rw [glue_in .root]; simp
 have hrest : ∀ i (l : List α), ovL nm (glue nm (fun k => if k = nm then v' else vs k) vs) i l = ovL nm vs i l ∧ ohL nm (glue nm (fun k => if k = nm then v' else vs k) vs) i l = ohL nm vs i l := by
  intro i l
  induction l generalizing i with
  | nil => exact ⟨rfl, rfl⟩
  | cons e r ih =>
   obtain ⟨a, b⟩ := ih (i + 1)
   obtain ⟨c, d⟩ := OVal.vdep (sub nm i) (glue nm (fun k => if k = nm then v' else vs k) vs) vs e (fun k hk => by
    rw [glue_in hk.up]; simp [hk.ne])
   simp only [ovL, ohL, a, b, c, d, and_self]
 rw [ov_list, oh_list, lbox, hroot, (hrest 0 l).1, (hrest 0 l).2]
 exact ⟨rfl, rfl⟩
theorem full_le {α : Type} [AVal α] [OVal α] {nm j v' : Nat} {vs : Nat → Nat} {l : List α} {b : Box} {hp : Hp} (hj : j < 10000) (hp0 : hp = (nm, ⟨v', false, OVal.ty α, AVal.n α, ovL nm vs 0 l⟩) :: hrest [j] ((j, b) :: ohL nm vs 0 l)) :
  hpLe hp (oh nm (glue nm (fun k => if k = nm then v' else vs k) vs) l) := by
 rw [(oh_full l).2, hpLe_app]
 refine ⟨hpLe_iff.2 fun p hp' => ?_, ⟨by rw [hp0]; exact hg_eq, trivial⟩⟩
 obtain ⟨q, _, hq⟩ := ohL_in hp'
 have hne : p.1 ≠ nm := hq.ne
 have hge := hq.ge
 rw [hp0, hg_ne (fun e => hne e.symm), hget_rest_out (by simp; omega), hg_ne (by omega)]
 exact hpLe_iff.1 (ohL_self nm vs 0 l) p hp'
end Go.Proofs.YteeiaaogmjbcjaaGreat.Av
set_option linter.unusedVariables false
set_option linter.unusedSimpArgs false
namespace Go.Proofs.YteeiaaogmjbcjaaGreat
open Go.RowKit Go.Proofs.YteeiaaogmjbcjaaGreat.Av
open Go.Proofs.YteeiaaogmjbcjaaGreat.Av.AVal (av)
open AVal (av)
open OVal (ov oh on)

theorem Goes.purB {s : St} {T : St → Prop} (k : Nat) {b : Box} (hb : hget s.hp k = some b) (h : Goes ⟨s.fr, (k, ⟨b.ver, b.frz, b.ty, b.esz, b.es.map (AV.pur s.hp)⟩) :: s.hp⟩ T) : Goes s T := by
 refine ⟨?_⟩
 rintro E nt a w ⟨hd, hn, S, μ, hw, hf⟩
 have hget' : ∀ j bj, hget ((k, (⟨b.ver, b.frz, b.ty, b.esz, b.es.map (AV.pur s.hp)⟩ : Box)) :: s.hp) j = some bj → ∃ bo, hget s.hp j = some bo ∧ bo.ver = bj.ver ∧ bo.frz = bj.frz := fun j bj hj => by
  simp only [hget] at hj
  split at hj
  ·rename_i e; subst e; cases hj; exact ⟨b, hb, rfl, rfl⟩
  ·exact ⟨bj, hj, rfl, rfl⟩
 refine h.run E nt a w ⟨hd, hn, S, μ, ⟨hw.ext, hw.lt, hw.base, hw.new, hw.fresh, fun j bj hj => ?_, ?_, hw.le⟩, hf⟩
 ·simp only [hget] at hj
  split at hj
  ·rename_i e; subst e; cases hj
   obtain ⟨B0, h0, hz0, hh⟩ := hw.box k b hb
   refine ⟨B0, h0, hz0, ?_⟩
   cases hbl : B0.blk with
   | none => rw [hbl] at hh; simp only at hh ⊢; rw [hh, List.map_nil]
   | some g =>
    rw [hbl] at hh
    obtain ⟨a1, a2, a3, cu, a4, a5, a6, a7, a8⟩ := hh
    have hok : ∀ e ∈ b.es, e.ok = true := fun e he => by
     by_cases hq : e.isAgg = true
     ·simp [AV.ok, hq]
     ·have : e.cells = [e] := by cases e <;> first | rfl | (simp [AV.isAgg] at hq)
      simp [AV.ok, (a8.1 e he).2 e (by rw [this]; simp)]
    exact ⟨a1, a2, a3, cu, a4, a5, a6, by simpa using a7, a8.pur hw hok⟩
  ·exact hw.box j bj hj
 ·intro j j' bj bj' Bj Bj' g hj hj' hne hf1 hf2 hBj hBj' hbl
  obtain ⟨bo, g1, g2, g3⟩ := hget' j bj hj
  obtain ⟨bo', g1', g2', g3'⟩ := hget' j' bj' hj'
  rw [← g2] at hBj; rw [← g2'] at hBj'
  exact hw.apart j j' bo bo' Bj Bj' g g1 g1' hne (g3.trans hf1) (g3'.trans hf2) hBj hBj' hbl
theorem Goes.weakB {s : St} {T : St → Prop} (k i : Nat) (y : AV) {b : Box} (hb : hget s.hp k = some b)
  (hy : ∀ e, b.es[i]? = some e → (y.cells.length = e.cells.length ∧ ∀ x ∈ y.cells, x.one = true) ∧ ∀ (S : Nat → Prop) (w : World) (μ : Mu) (j : Nat) (x' : AV), y.cells[j]? = some x' → ∃ x, e.cells[j]? = some x ∧ ∀ v, VR S w μ v x → VR S w μ v x')
  (h : Goes ⟨s.fr, (k, ⟨b.ver, b.frz, b.ty, b.esz, b.es.set i y⟩) :: s.hp⟩ T) : Goes s T := by
 refine ⟨?_⟩
 rintro E nt a w ⟨hd, hn, S, μ, hw, hf⟩
 have hget' : ∀ j bj, hget ((k, (⟨b.ver, b.frz, b.ty, b.esz, b.es.set i y⟩ : Box)) :: s.hp) j = some bj → ∃ bo, hget s.hp j = some bo ∧ bo.ver = bj.ver ∧ bo.frz = bj.frz := fun j bj hj => by
  simp only [hget] at hj
  split at hj
  ·rename_i e; subst e; cases hj; exact ⟨b, hb, rfl, rfl⟩
  ·exact ⟨bj, hj, rfl, rfl⟩
 refine h.run E nt a w ⟨hd, hn, S, μ, ⟨hw.ext, hw.lt, hw.base, hw.new, hw.fresh, fun j bj hj => ?_, ?_, hw.le⟩, hf⟩
 ·simp only [hget] at hj
  split at hj
  ·rename_i e; subst e; cases hj
   obtain ⟨B0, h0, hz0, hh⟩ := hw.box k b hb
   refine ⟨B0, h0, hz0, ?_⟩
   cases hbl : B0.blk with
   | none => rw [hbl] at hh; simp only at hh ⊢; rw [hh, List.set_nil]
   | some g =>
    rw [hbl] at hh
    obtain ⟨a1, a2, a3, cu, a4, a5, a6, a7, a8⟩ := hh
    refine ⟨a1, a2, a3, cu, a4, a5, a6, by simpa using a7, fun e he => ?_, fun q j e x p hx => ?_⟩
    ·by_cases hi : i < b.es.length
     ·rcases List.mem_or_eq_of_mem_set he with he | rfl
      ·exact a8.1 e he
      ·have h1 := hy _ (List.getElem?_eq_getElem hi)
       exact ⟨h1.1.1.trans (a8.1 _ (List.getElem_mem hi)).1, h1.1.2⟩
     ·rw [List.set_eq_of_length_le (by omega)] at he
      exact a8.1 e he
    ·rw [List.getElem?_set] at p
     split at p
     ·rename_i hq
      subst hq
      split at p
      ·rename_i hlt
       cases p
       obtain ⟨x0, hx0, hv⟩ := (hy _ (List.getElem?_eq_getElem hlt)).2 S w μ j x hx
       obtain ⟨v, hv1, hv2⟩ := a8.2 i j _ x0 (List.getElem?_eq_getElem hlt) hx0
       exact ⟨v, hv1, hv v hv2⟩
      ·cases p
     ·exact a8.2 q j e x p hx
  ·exact hw.box j bj hj
 ·intro j j' bj bj' Bj Bj' g hj hj' hne hf1 hf2 hBj hBj' hbl
  obtain ⟨bo, g1, g2, g3⟩ := hget' j bj hj
  obtain ⟨bo', g1', g2', g3'⟩ := hget' j' bj' hj'
  rw [← g2] at hBj; rw [← g2'] at hBj'
  exact hw.apart j j' bo bo' Bj Bj' g g1 g1' hne (g3.trans hf1) (g3'.trans hf2) hBj hBj' hbl
theorem Goes.slB {s : St} {T : St → Prop} (k i off : Nat) {b : Box} (hb : hget s.hp k = some b) {cs : List AV} (he : b.es[i]? = some (.agg cs)) (ho : ∀ x ∈ cs, x.one = true) (hc : cs[off]? = some .nils)
  (h : Goes ⟨s.fr, (k, ⟨b.ver, b.frz, b.ty, b.esz, b.es.set i (.agg (cs.set off (.sl [])))⟩) :: s.hp⟩ T) : Goes s T := by
 refine Goes.weakB k i (.agg (cs.set off (.sl []))) hb (fun e h1 => ?_) h
 rw [he] at h1
 cases h1
 refine ⟨⟨by simp [AV.cells], fun x hx => ?_⟩, fun S w μ j x' hx => ?_⟩
 ·rcases List.mem_or_eq_of_mem_set (show x ∈ cs.set off (.sl []) from hx) with h2 | rfl
  ·exact ho x h2
  ·rfl
 ·rw [show (AV.agg (cs.set off (.sl []))).cells = cs.set off (.sl []) from rfl, List.getElem?_set] at hx
  split at hx
  ·rename_i hq
   subst hq
   split at hx
   ·cases hx
    exact ⟨.nils, hc, fun v hv => by cases hv; exact .sl0 none 0 (Nat.zero_le _)⟩
   ·cases hx
  ·exact ⟨x', hx, fun v hv => hv⟩
end Go.Proofs.YteeiaaogmjbcjaaGreat
set_option linter.unusedVariables false
set_option maxRecDepth 100000
namespace Go.Proofs.YteeiaaogmjbcjaaGreat
open Go.Proofs.YteeiaaogmjbcjaaGreat.Av

theorem follows_DLines : Tryz.prog.follows .mixedOrders = true := by kernel_rfl

def ir_spec_l02Classic : Ir Tryz.prog 84 [] [9999] 1 := ⟨_, _, Tryz.func84, follows_DLines, by kernel_rfl, low_of [] Tryz.progTables (by conv => lhs; cbv) (by kernel_rfl)⟩
def ir_spec_l02Turn : Ir Tryz.prog 85 [(14, 7777), (16, 7777), (40, 7777)] [9999] 2 := ⟨_, _, Tryz.func85, follows_DLines, by kernel_rfl, low_of [10010] Tryz.progTables (by conv => lhs; cbv) (by kernel_rfl)⟩
end Go.Proofs.YteeiaaogmjbcjaaGreat
set_option linter.unusedVariables false
set_option maxRecDepth 100000
namespace Go.Proofs.YteeiaaogmjbcjaaGreat
open Go.Proofs.YteeiaaogmjbcjaaGreat.Av

theorem follows_Cur : Tryz.prog.follows .mixedOrders = true := by kernel_rfl

def ir_spec_l01New : Ir Tryz.prog 21 [(31,2000)] [9999] 1 := ⟨_, _, Tryz.func21, follows_Cur, by kernel_rfl, low_of [] Tryz.progTables (by conv => lhs; cbv) (by kernel_rfl)⟩
def ir_spec_l01Byte : Ir Tryz.prog 53 [(9,1),(10,1)] [9999] 1 := ⟨_, _, Tryz.func53, follows_Cur, by kernel_rfl, low_of [] Tryz.progTables (by conv => lhs; cbv) (by kernel_rfl)⟩
def ir_spec_l01Below : Ir Tryz.prog 25 [(14, 7777), (18, 7777), (20, 7777), (22, 7777), (24, 7777)] [9999] 2 := ⟨_, _, Tryz.func25, follows_Cur, by kernel_rfl, low_of [] Tryz.progTables (by conv => lhs; cbv) (by kernel_rfl)⟩
def ir_spec_l01Raw : Ir Tryz.prog 55 [(14, 7777), (19, 7777), (24, 7777), (29, 7777), (34, 7777), (37, 7777), (40, 7777), (43, 7777), (5, 7777), (9, 7777)] [9999] 1 := ⟨_, _, Tryz.func55, follows_Cur, by kernel_rfl, low_of [] Tryz.progTables (by conv => lhs; cbv) (by kernel_rfl)⟩
end Go.Proofs.YteeiaaogmjbcjaaGreat
