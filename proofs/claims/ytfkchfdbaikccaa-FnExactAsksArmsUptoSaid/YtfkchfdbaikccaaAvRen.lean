/-
  OWN ROWS GET OTHER NAMES; versions of parts put together. Conditions: none.
-/
import Derived.Test.YtfkchfdbaikccaaAvOwn
set_option linter.unusedVariables false
set_option linter.unusedSimpArgs false
namespace Go.Proofs.Ytfkchfdbaikccaa.Av
open Go.RowKit
open AVal (av)
open OVal (ov oh on)

/-- the own row j is named k from here on; F: the slots that tell of it -/
theorem Goes.renF {s : St} {T : St → Prop} (F : Nat → List (Nat × AV)) (j k : Nat) {v : Nat} {b : Box} (hb : hget s.hp j = some b) (hv : b.ver = v)
    (hF : ∀ (v' : Nat) (S : Nat → Prop) (w : World) (μ : Mu) (a : Nat → Value), μ k v' = μ j v → (∀ t, VR S w μ (a t) (fget s.fr t)) → ∀ t, VR S w μ (a t) (fget (F v') t))
    (h : ∀ v', Goes ⟨F v', (k, ⟨v', b.frz, b.ty, b.esz, b.es⟩) :: hrest [j] s.hp⟩ T) : Goes s T := by
  refine ⟨?_⟩
  rintro E nt a w ⟨hd, hn, S, μ, hw, hf⟩
  obtain ⟨N, hN0, hN, _⟩ := hw.fresh
  obtain ⟨B, hB, hz, hh⟩ := hw.box j b hb
  have hle : Mu.le μ (μ.put k N B) := Mu.le_put (hN k N (Nat.le_refl _))
  have hget' : ∀ q, hget ((k, (⟨N, b.frz, b.ty, b.esz, b.es⟩ : Box)) :: hrest [j] s.hp) q = if k = q then some ⟨N, b.frz, b.ty, b.esz, b.es⟩ else if q = j then none else hget s.hp q := fun q => by
    simp only [hget]
    split
    · rfl
    · rw [hget_rest]
      by_cases hq : q = j
      · rw [if_pos hq, if_pos (by simp [hq])]
      · rw [if_neg hq, if_neg (by simp [hq])]
  have hold : ∀ q bq, hget s.hp q = some bq → ∀ B', (μ.put k N B) q bq.ver = some B' → μ q bq.ver = some B' := fun q bq hq B' hB' => by
    obtain ⟨B0, h0, _⟩ := hw.box q bq hq
    have := hle _ _ _ h0
    rw [this] at hB'; cases hB'; exact h0
  refine (h N).run E nt a w ⟨hd, hn, S, μ.put k N B, ⟨hw.ext, hw.lt, hw.base, hw.new, Mu.put_fresh hN0 hw.fresh, fun q bq hq => ?_, ?_, hw.le.trans hle⟩, fun t => ?_⟩
  · rw [hget'] at hq
    by_cases hkq : k = q
    · rw [if_pos hkq] at hq; cases hq; subst hkq
      refine ⟨B, Mu.put_self _ _ _ _, hz, ?_⟩
      cases hbl : B.blk with
      | none => rw [hbl] at hh; exact hh
      | some g =>
        rw [hbl] at hh
        obtain ⟨a1, a2, a3, cu, a4, a5, a6, a7, a8⟩ := hh
        exact ⟨a1, a2, a3, cu, a4, a5, a6, a7, a8.mono (fun _ h => h) (Same.refl _ _) hle⟩
    · rw [if_neg hkq] at hq
      by_cases hqj : q = j
      · rw [if_pos hqj] at hq; cases hq
      · rw [if_neg hqj] at hq
        obtain ⟨B0, h0, hz0, hh0⟩ := hw.box q bq hq
        refine ⟨B0, hle _ _ _ h0, hz0, ?_⟩
        cases hbl : B0.blk with
        | none => rw [hbl] at hh0; exact hh0
        | some g =>
          rw [hbl] at hh0
          obtain ⟨a1, a2, a3, cu, a4, a5, a6, a7, a8⟩ := hh0
          exact ⟨a1, a2, a3, cu, a4, a5, a6, a7, a8.mono (fun _ h => h) (Same.refl _ _) hle⟩
  · intro q q' bq bq' Bq Bq' g hq hq' hne hf1 hf2 hBq hBq' hbl
    rw [hget'] at hq hq'
    by_cases hkq : k = q
    · rw [if_pos hkq] at hq; cases hq; subst hkq
      rw [Mu.put_self] at hBq; cases hBq
      rw [if_neg hne] at hq'
      by_cases hqj : q' = j
      · rw [if_pos hqj] at hq'; cases hq'
      · rw [if_neg hqj] at hq'
        exact hw.apart j q' b bq' B Bq' g hb hq' (fun e => hqj e.symm) hf1 hf2 hB (hold q' bq' hq' _ hBq') hbl
    · rw [if_neg hkq] at hq
      by_cases hqj : q = j
      · rw [if_pos hqj] at hq; cases hq
      · rw [if_neg hqj] at hq
        by_cases hkq' : k = q'
        · rw [if_pos hkq'] at hq'; cases hq'; subst hkq'
          rw [Mu.put_self] at hBq'; cases hBq'
          exact hw.apart q j bq b Bq B g hq hb hqj hf1 hf2 (hold q bq hq _ hBq) hB hbl
        · rw [if_neg hkq'] at hq'
          by_cases hqj' : q' = j
          · rw [if_pos hqj'] at hq'; cases hq'
          · rw [if_neg hqj'] at hq'
            exact hw.apart q q' bq bq' Bq Bq' g hq hq' hne hf1 hf2 (hold q bq hq _ hBq) (hold q' bq' hq' _ hBq') hbl
  · exact hF N S w (μ.put k N B) _ ((Mu.put_self _ _ _ _).trans ((hv ▸ hle _ _ _ hB).symm)) (fun t => (hf t).mono (fun _ h => h) (Same.refl _ _) hle) t

theorem VR.ren {S : Nat → Prop} {w : World} {μ : Mu} {u : Value} {j v k v' n : Nat} (h : VR S w μ u (.row j v n)) (e : μ k v' = μ j v) : VR S w μ u (.row k v' n) := by
  cases h with
  | row _ _ _ bl cap esz h1 h2 h3 => exact .row k v' n _ _ _ (e.trans h1) h2 h3
  | row0 _ _ cap esz h1 => exact .row0 k v' _ _ (e.trans h1)
theorem VR.aggSet {S : Nat → Prop} {w : World} {μ : Mu} {u : Value} {cs : List AV} {off : Nat} {y : AV} (h : VR S w μ u (.agg cs)) (h1 : y.one = true) (hy : ∀ x v, cs[off]? = some x → VR S w μ v x → VR S w μ v y) : VR S w μ u (.agg (cs.set off y)) := by
  cases h with
  | agg vs _ hl ho hh =>
    refine .agg vs _ (by simpa using hl) (fun x hx => ?_) (fun q v x p e => ?_)
    · rcases List.mem_or_eq_of_mem_set hx with h | h
      · exact ho x h
      · subst h; exact h1
    · rw [List.getElem?_set] at e
      split at e
      · rename_i hq
        subst hq
        split at e
        · rename_i hlt
          cases e
          exact hy _ v (List.getElem?_eq_getElem hlt) (hh off v _ p (List.getElem?_eq_getElem hlt))
        · cases e
      · exact hh q v x p e
/-- one slot is told otherwise -/
theorem fr_put {S : Nat → Prop} {w : World} {μ : Mu} {a : Nat → Value} {fr : List (Nat × AV)} {i : Nat} {y : AV} (h : ∀ t, VR S w μ (a t) (fget fr t)) (hy : VR S w μ (a i) y) : ∀ t, VR S w μ (a t) (fget ((i, y) :: fr) t) := fun t => by
  simp only [fget]
  split
  · rename_i e; subst e; exact hy
  · exact h t
/-- the own row j, which slot i holds, is named k from here on -/
theorem Goes.ren {s : St} {T : St → Prop} (i j k : Nat) {v n : Nat} {b : Box} (hi : fget s.fr i = .row j v n) (hb : hget s.hp j = some b) (hv : b.ver = v)
    (h : ∀ v', Goes ⟨(i, .row k v' n) :: s.fr, (k, ⟨v', b.frz, b.ty, b.esz, b.es⟩) :: hrest [j] s.hp⟩ T) : Goes s T :=
  Goes.renF (fun v' => (i, .row k v' n) :: s.fr) j k hb hv (fun v' S w μ a e hf => fr_put hf ((hi ▸ hf i).ren e)) h
/-- the same for a cell of a struct that slot i holds -/
theorem Goes.renA {s : St} {T : St → Prop} (i off j k : Nat) {v n : Nat} {cs : List AV} {b : Box} (hi : fget s.fr i = .agg cs) (hc : cs[off]? = some (.row j v n)) (hb : hget s.hp j = some b) (hv : b.ver = v)
    (h : ∀ v', Goes ⟨(i, .agg (cs.set off (.row k v' n))) :: s.fr, (k, ⟨v', b.frz, b.ty, b.esz, b.es⟩) :: hrest [j] s.hp⟩ T) : Goes s T :=
  Goes.renF (fun v' => (i, .agg (cs.set off (.row k v' n))) :: s.fr) j k hb hv (fun v' S w μ a e hf => fr_put hf ((hi ▸ hf i).aggSet rfl fun x u hx hu => by
    rw [hc] at hx; cases hx; exact hu.ren e)) h
/-- an own row without elements comes to be: a nil slice, told as one; F: the slots -/
theorem Goes.newF {s : St} {T : St → Prop} (F : Nat → List (Nat × AV)) (k : Nat) (ty : TypeId) (esz : Nat)
    (hF : ∀ (v : Nat) (S : Nat → Prop) (w : World) (μ : Mu) (a : Nat → Value), μ k v = some ⟨none, 0, esz⟩ → (∀ t, VR S w μ (a t) (fget s.fr t)) → ∀ t, VR S w μ (a t) (fget (F v) t))
    (h : ∀ v, Goes ⟨F v, (k, ⟨v, false, ty, esz, []⟩) :: s.hp⟩ T) : Goes s T := by
  refine ⟨?_⟩
  rintro E nt a w ⟨hd, hn, S, μ, hw, hf⟩
  obtain ⟨N, hN0, hN, _⟩ := hw.fresh
  have hle : Mu.le μ (μ.put k N ⟨none, 0, esz⟩) := Mu.le_put (hN k N (Nat.le_refl _))
  have hget' : ∀ j, hget ((k, (⟨N, false, ty, esz, []⟩ : Box)) :: s.hp) j = if k = j then some ⟨N, false, ty, esz, []⟩ else hget s.hp j := fun j => rfl
  have hold : ∀ j bj, hget s.hp j = some bj → ∀ B', (μ.put k N ⟨none, 0, esz⟩) j bj.ver = some B' → μ j bj.ver = some B' := fun j bj hj B' hB' => by
    obtain ⟨B0, h0, _⟩ := hw.box j bj hj
    have := hle _ _ _ h0
    rw [this] at hB'; cases hB'; exact h0
  refine (h N).run E nt a w ⟨hd, hn, S, μ.put k N ⟨none, 0, esz⟩, ⟨hw.ext, hw.lt, hw.base, hw.new, Mu.put_fresh hN0 hw.fresh, fun j bj hj => ?_, ?_, hw.le.trans hle⟩, fun t => hF N S w _ _ (Mu.put_self _ _ _ _) (fun t => (hf t).mono (fun _ h => h) (Same.refl _ _) hle) t⟩
  · rw [hget'] at hj
    by_cases hkj : k = j
    · rw [if_pos hkj] at hj; cases hj; subst hkj
      exact ⟨_, Mu.put_self _ _ _ _, rfl, rfl⟩
    · rw [if_neg hkj] at hj
      obtain ⟨B0, h0, hz0, hh⟩ := hw.box j bj hj
      refine ⟨B0, hle _ _ _ h0, hz0, ?_⟩
      cases hbl : B0.blk with
      | none => rw [hbl] at hh; exact hh
      | some b =>
        rw [hbl] at hh
        obtain ⟨a1, a2, a3, cu, a4, a5, a6, a7, a8⟩ := hh
        exact ⟨a1, a2, a3, cu, a4, a5, a6, a7, a8.mono (fun _ h => h) (Same.refl _ _) hle⟩
  · intro j j' bj bj' Bj Bj' b hj hj' hne hf1 hf2 hBj hBj' hbl
    rw [hget'] at hj hj'
    by_cases hkj : k = j
    · rw [if_pos hkj] at hj; cases hj; subst hkj
      rw [Mu.put_self] at hBj; cases hBj; cases hbl
    · rw [if_neg hkj] at hj
      by_cases hkj' : k = j'
      · rw [if_pos hkj'] at hj'; cases hj'; subst hkj'
        rw [Mu.put_self] at hBj'; cases hBj'; simp
      · rw [if_neg hkj'] at hj'
        exact hw.apart j j' bj bj' Bj Bj' b hj hj' hne hf1 hf2 (hold j bj hj _ hBj) (hold j' bj' hj' _ hBj') hbl
theorem VR.new {S : Nat → Prop} {w : World} {μ : Mu} {u : Value} {k v esz : Nat} (h : VR S w μ u .nils) (e : μ k v = some ⟨none, 0, esz⟩) : VR S w μ u (.row k v 0) := by
  cases h
  exact .row0 k v 0 esz e
/-- nil in slot i is the own row k, without elements -/
theorem Goes.new {s : St} {T : St → Prop} (i k : Nat) (ty : TypeId) (esz : Nat) (hi : fget s.fr i = .nils) (h : ∀ v, Goes ⟨(i, .row k v 0) :: s.fr, (k, ⟨v, false, ty, esz, []⟩) :: s.hp⟩ T) : Goes s T :=
  Goes.newF (fun v => (i, .row k v 0) :: s.fr) k ty esz (fun v S w μ a e hf => fr_put hf ((hi ▸ hf i).new e)) h
theorem Goes.newA {s : St} {T : St → Prop} (i off k : Nat) (ty : TypeId) (esz : Nat) {cs : List AV} (hi : fget s.fr i = .agg cs) (hc : cs[off]? = some .nils) (h : ∀ v, Goes ⟨(i, .agg (cs.set off (.row k v 0))) :: s.fr, (k, ⟨v, false, ty, esz, []⟩) :: s.hp⟩ T) : Goes s T :=
  Goes.newF (fun v => (i, .agg (cs.set off (.row k v 0))) :: s.fr) k ty esz (fun v S w μ a e hf => fr_put hf ((hi ▸ hf i).aggSet rfl fun x u hx hu => by
    rw [hc] at hx; cases hx; exact hu.new e)) h
/-- of an own row the first elements alone are told -/
theorem Goes.trim {s : St} {T : St → Prop} (k n : Nat) {b : Box} (hb : hget s.hp k = some b) (h : Goes ⟨s.fr, (k, ⟨b.ver, b.frz, b.ty, b.esz, b.es.take n⟩) :: s.hp⟩ T) : Goes s T := by
  refine ⟨?_⟩
  rintro E nt a w ⟨hd, hn, S, μ, hw, hf⟩
  have hget' : ∀ j bj, hget ((k, (⟨b.ver, b.frz, b.ty, b.esz, b.es.take n⟩ : Box)) :: s.hp) j = some bj → ∃ bo, hget s.hp j = some bo ∧ bo.ver = bj.ver ∧ bo.frz = bj.frz := fun j bj hj => by
    simp only [hget] at hj
    split at hj
    · rename_i e; subst e; cases hj; exact ⟨b, hb, rfl, rfl⟩
    · exact ⟨bj, hj, rfl, rfl⟩
  refine h.run E nt a w ⟨hd, hn, S, μ, ⟨hw.ext, hw.lt, hw.base, hw.new, hw.fresh, fun j bj hj => ?_, ?_, hw.le⟩, hf⟩
  · simp only [hget] at hj
    split at hj
    · rename_i e; subst e; cases hj
      obtain ⟨B0, h0, hz0, hh⟩ := hw.box k b hb
      refine ⟨B0, h0, hz0, ?_⟩
      cases hbl : B0.blk with
      | none => rw [hbl] at hh; simp only at hh ⊢; rw [hh, List.take_nil]
      | some g =>
        rw [hbl] at hh
        obtain ⟨a1, a2, a3, cu, a4, a5, a6, a7, a8⟩ := hh
        refine ⟨a1, a2, a3, cu, a4, a5, a6, by simp; omega, fun e he => a8.1 e (List.mem_of_mem_take he), fun i j e x p q => ?_⟩
        rw [List.getElem?_take] at p
        split at p
        · exact a8.2 i j e x p q
        · cases p
    · exact hw.box j bj hj
  · intro j j' bj bj' Bj Bj' g hj hj' hne hf1 hf2 hBj hBj' hbl
    obtain ⟨bo, g1, g2, g3⟩ := hget' j bj hj
    obtain ⟨bo', g1', g2', g3'⟩ := hget' j' bj' hj'
    rw [← g2] at hBj; rw [← g2'] at hBj'
    exact hw.apart j j' bo bo' Bj Bj' g g1 g1' hne (g3.trans hf1) (g3'.trans hf2) hBj hBj' hbl

open Classical in
/-- versions: within K as vs, elsewhere as vs' -/
noncomputable def glue (K : Nat) (vs vs' : Nat → Nat) : Nat → Nat := fun k => if InT K k then vs k else vs' k
theorem glue_in {K k : Nat} {vs vs' : Nat → Nat} (h : InT K k) : glue K vs vs' k = vs k := if_pos h
theorem glue_out {K k : Nat} {vs vs' : Nat → Nat} (h : ¬ InT K k) : glue K vs vs' k = vs' k := if_neg h
section
variable {α : Type} [AVal α] [OVal α]
theorem ov_glue (K : Nat) (vs vs' : Nat → Nat) (y : α) : ov K (glue K vs vs') y = ov K vs y := (OVal.vdep K _ _ y fun k h => glue_in h).1
theorem oh_glue (K : Nat) (vs vs' : Nat → Nat) (y : α) : oh K (glue K vs vs') y = oh K vs y := (OVal.vdep K _ _ y fun k h => glue_in h).2
theorem ov_glue' {K K' : Nat} (vs vs' : Nat → Nat) (y : α) (h : ∀ k, InT K' k → ¬ InT K k) : ov K' (glue K vs vs') y = ov K' vs' y := (OVal.vdep K' _ _ y fun k hk => glue_out (h k hk)).1
theorem oh_glue' {K K' : Nat} (vs vs' : Nat → Nat) (y : α) (h : ∀ k, InT K' k → ¬ InT K k) : oh K' (glue K vs vs') y = oh K' vs' y := (OVal.vdep K' _ _ y fun k hk => glue_out (h k hk)).2
/-- a copy in rows of its own -/
def ToPost (nm : Nat) (y : α) (r : AV) (hp' : Hp) : Prop := ∃ vs, r = ov nm vs y ∧ hp' = oh nm vs y
/-- the first elements of a row -/
theorem ovL_app (nm : Nat) (vs : Nat → Nat) : ∀ (i : Nat) (a b : List α), ovL nm vs i (a ++ b) = ovL nm vs i a ++ ovL nm vs (i + a.length) b
  | _, [], _ => by simp [ovL]
  | i, e :: r, b => by simp only [List.cons_append, ovL, ovL_app nm vs (i + 1) r b, List.length_cons]; rw [show i + 1 + r.length = i + (r.length + 1) by omega]
theorem ohL_app (nm : Nat) (vs : Nat → Nat) : ∀ (i : Nat) (a b : List α), ohL nm vs i (a ++ b) = ohL nm vs i a ++ ohL nm vs (i + a.length) b
  | _, [], _ => by simp [ohL]
  | i, e :: r, b => by simp only [List.cons_append, ohL, ohL_app nm vs (i + 1) r b, List.length_cons, List.append_assoc]; rw [show i + 1 + r.length = i + (r.length + 1) by omega]
theorem ovL_glue' {nm j : Nat} (vs vs' : Nat → Nat) : ∀ (i : Nat) (l : List α), i + l.length ≤ j → ovL nm (glue (sub nm j) vs vs') i l = ovL nm vs' i l ∧ ohL nm (glue (sub nm j) vs vs') i l = ohL nm vs' i l
  | _, [], _ => ⟨rfl, rfl⟩
  | i, e :: r, h => by
    simp only [List.length_cons] at h
    obtain ⟨a, b⟩ := ovL_glue' (nm := nm) (j := j) vs vs' (i + 1) r (by omega)
    have hne : ∀ k, InT (sub nm i) k → ¬ InT (sub nm j) k := fun k h1 h2 => by have := h1.sib h2; omega
    simp only [ovL, ohL, a, b, ov_glue' vs vs' e hne, oh_glue' vs vs' e hne, and_self]
/-- a row that is being filled with values in rows of their own: k elements are there -/
def fillO (nm : Nat) (vs : Nat → Nat) (l : List α) (z : AV) (k : Nat) : List AV := ovL nm vs 0 (l.take k) ++ List.replicate (l.length - k) z
theorem fillO_zero (nm : Nat) (vs : Nat → Nat) (l : List α) (z : AV) : fillO nm vs l z 0 = List.replicate l.length z := by simp [fillO, ovL]
theorem fillO_len {nm : Nat} {vs : Nat → Nat} {l : List α} (z : AV) {k : Nat} (h : k ≤ l.length) : (fillO nm vs l z k).length = l.length := by simp [fillO, ovL_len]; omega
theorem fillO_get {nm : Nat} {vs : Nat → Nat} {l : List α} (z : AV) {k : Nat} (h : k < l.length) (d : AV) : (fillO nm vs l z k).getD k d = z := by
  have hk : (ovL nm vs 0 (l.take k)).length = k := by simp [ovL_len]; omega
  simp only [fillO, List.getD_eq_getElem?_getD]
  rw [List.getElem?_append_right (by omega), hk, Nat.sub_self, List.getElem?_replicate, if_pos (by omega)]
  rfl
theorem fillO_set {nm : Nat} {vs vs' : Nat → Nat} {l : List α} {z : AV} {k : Nat} (h : k < l.length) : (fillO nm vs' l z k).set k (ov (sub nm k) vs l[k]) = fillO nm (glue (sub nm k) vs vs') l z (k + 1) := by
  have hk : (ovL nm vs' 0 (l.take k)).length = k := by simp [ovL_len]; omega
  have ht : (l.take k).length = k := by simp; omega
  simp only [fillO]
  rw [List.set_append_right _ _ (by omega), hk, Nat.sub_self, show l.length - k = (l.length - (k + 1)) + 1 by omega, List.replicate_succ, List.set_cons_zero, List.take_succ_eq_append_getElem h, ovL_app, ht, Nat.zero_add, (ovL_glue' vs vs' 0 _ (by omega)).1]
  simp only [ovL, ov_glue, List.append_assoc, List.cons_append, List.nil_append]
theorem ohL_take {nm : Nat} {vs vs' : Nat → Nat} {l : List α} {k : Nat} (h : k < l.length) : ohL nm (glue (sub nm k) vs vs') 0 (l.take (k + 1)) = ohL nm vs' 0 (l.take k) ++ oh (sub nm k) vs l[k] := by
  have ht : (l.take k).length = k := by simp; omega
  rw [List.take_succ_eq_append_getElem h, ohL_app, ht, Nat.zero_add, (ovL_glue' vs vs' 0 _ (by omega)).2]
  simp only [ohL, oh_glue, List.append_nil]
end
/-- all own rows of a plain list, at the end of the loop that filled them -/
theorem oh_full {α : Type} [AVal α] [OVal α] {nm : Nat} {vs : Nat → Nat} {v' : Nat} (l : List α) : ov nm (glue nm (fun k => if k = nm then v' else vs k) vs) l = .row nm v' l.length ∧
    oh nm (glue nm (fun k => if k = nm then v' else vs k) vs) l = ohL nm vs 0 l ++ [(nm, ⟨v', false, OVal.ty α, AVal.n α, ovL nm vs 0 l⟩)] := by
  have hroot : glue nm (fun k => if k = nm then v' else vs k) vs nm = v' := by rw [glue_in .root]; simp
  have hrest : ∀ i (l : List α), ovL nm (glue nm (fun k => if k = nm then v' else vs k) vs) i l = ovL nm vs i l ∧ ohL nm (glue nm (fun k => if k = nm then v' else vs k) vs) i l = ohL nm vs i l := by
    intro i l
    induction l generalizing i with
    | nil => exact ⟨rfl, rfl⟩
    | cons e r ih =>
      obtain ⟨a, b⟩ := ih (i + 1)
      obtain ⟨c, d⟩ := OVal.vdep (sub nm i) (glue nm (fun k => if k = nm then v' else vs k) vs) vs e (fun k hk => by
        rw [glue_in hk.up]; simp [hk.ne])
      simp only [ovL, ohL, a, b, c, d, and_self]
  rw [ov_list, oh_list, lbox, hroot, (hrest 0 l).1, (hrest 0 l).2]
  exact ⟨rfl, rfl⟩
/-- the loop that fills the row j: behind a round -/
theorem fill_le {α : Type} [AVal α] [OVal α] {nm j k : Nat} {vs v1 : Nat → Nat} {l : List α} (h : k < l.length) (hj : j < 10000) {b b' : Box} {H : Hp} (hH : H = oh (sub nm k) v1 l[k] ++ hrest [] ((j, b) :: ohL nm vs 0 (l.take k))) :
    hpLe ((j, b') :: H) ((j, b') :: ohL nm (glue (sub nm k) v1 vs) 0 (l.take (k + 1))) := by
  rw [hrest_no] at hH
  rw [hpLe_cons]
  refine ⟨hg_eq, ?_⟩
  rw [ohL_take h, hpLe_app]
  constructor
  · refine hpLe_iff.2 fun p hp => ?_
    obtain ⟨q, hq, hm⟩ := ohL_mem hp
    rw [Nat.zero_add] at hm
    have hin := OVal.inh hm
    have hqk : q < k := by simp at hq; omega
    have hne : j ≠ p.1 := fun e => by have := hin.ge; omega
    rw [hg_ne hne, hH, hg_app_r (oh_ne fun h' => by have := h'.sib hin; omega), hg_ne hne]
    exact hpLe_iff.1 (ohL_self nm vs 0 _) p hp
  · refine hpLe_iff.2 fun p hp => ?_
    have hin := OVal.inh hp
    have hne : j ≠ p.1 := fun e => by have := hin.ge; omega
    rw [hg_ne hne, hH]
    exact hg_app_l (hpLe_iff.1 (OVal.self _ _ _) p hp)
theorem ren_free {α : Type} [AVal α] [OVal α] {nm j : Nat} {vs : Nat → Nat} {l : List α} {b : Box} : hget ((j, b) :: ohL nm vs 0 l) nm = none ∨ nm = j := by
  by_cases h : nm = j
  · exact .inr h
  · refine .inl ?_
    rw [hg_ne (fun e => h e.symm)]
    exact hg_none fun p hp e => by obtain ⟨q, _, hq⟩ := ohL_in hp; exact hq.ne e
theorem old_get {α : Type} [AVal α] [OVal α] {nm i : Nat} {vs : Nat → Nat} {y : α} {hp H : Hp} (hH : H = oh (sub nm i) vs y ++ hp) : ∀ q, q < 10000 → hget H q = hget hp q := fun q hq => by
  rw [hH, hg_app_r (oh_ne fun h => by have := h.ge; omega)]
/-- the filled row, named nm -/
theorem full_le {α : Type} [AVal α] [OVal α] {nm j v' : Nat} {vs : Nat → Nat} {l : List α} {b : Box} {hp : Hp} (hj : j < 10000) (hp0 : hp = (nm, ⟨v', false, OVal.ty α, AVal.n α, ovL nm vs 0 l⟩) :: hrest [j] ((j, b) :: ohL nm vs 0 l)) :
    hpLe hp (oh nm (glue nm (fun k => if k = nm then v' else vs k) vs) l) := by
  rw [(oh_full l).2, hpLe_app]
  refine ⟨hpLe_iff.2 fun p hp' => ?_, ⟨by rw [hp0]; exact hg_eq, trivial⟩⟩
  obtain ⟨q, _, hq⟩ := ohL_in hp'
  have hne : p.1 ≠ nm := hq.ne
  have hge := hq.ge
  rw [hp0, hg_ne (fun e => hne e.symm), hget_rest_out (by simp; omega), hg_ne (by omega)]
  exact hpLe_iff.1 (ohL_self nm vs 0 l) p hp'
end Go.Proofs.Ytfkchfdbaikccaa.Av
