/-
 OWN ROWS GET OTHER NAMES; versions of parts put together. Conditions: none.
-/
import Derived.Test.YteeiaaogmjbcjaaGreatKAvOwn
import Derived.Test.YteeiaaogmjbcjaaGreatProg
import Derived.Test.YteeiaaogmjbcjaaGreatKAvDraw
set_option linter.unusedVariables false
set_option linter.unusedSimpArgs false
namespace Go.Proofs.YteeiaaogmjbcjaaGreat.Av
open Go.RowKit
open AVal (av)
open OVal (ov oh on)

theorem Ah.AdK {s : St} {T : St → Prop} (F : Nat → List (Nat × AV)) (j k : Nat) {v : Nat} {b : Box} (hb : AA s.hp j = some b) (hv : b.ver = v)
  (hF : ∀ (v' : Nat) (S : Nat → Prop) (w : World) (μ : Mu) (a : Nat → Value), μ k v' = μ j v → (∀ t, VR S w μ (a t) (Bo s.fr t)) → ∀ t, VR S w μ (a t) (Bo (F v') t))
  (h : ∀ v', Ah ⟨F v', (k, ⟨v', b.frz, b.ty, b.esz, b.es⟩) :: B6 [j] s.hp⟩ T) : Ah s T := by
 refine ⟨?_⟩
 rintro E nt a w ⟨hd, hn, S, μ, hw, hf⟩
 obtain ⟨N, hN0, hN, _⟩ := hw.fresh
 obtain ⟨B, hB, hz, hh⟩ := hw.box j b hb
 have hle : Mu.le μ (μ.put k N B) := Mu.L1 (hN k N (Nat.le_refl _))
 have hget' : ∀ q, AA ((k, (⟨N, b.frz, b.ty, b.esz, b.es⟩ : Box)) :: B6 [j] s.hp) q = if k = q then some ⟨N, b.frz, b.ty, b.esz, b.es⟩ else if q = j then none else AA s.hp q := fun q => by
  simp only [AA]
  split
  ·rfl
  ·rw [L6]
   by_cases hq : q = j
   ·rw [if_pos hq, if_pos (by simp [hq])]
   ·rw [if_neg hq, if_neg (by simp [hq])]
 have hold : ∀ q bq, AA s.hp q = some bq → ∀ B', (μ.put k N B) q bq.ver = some B' → μ q bq.ver = some B' := fun q bq hq B' hB' => by
  obtain ⟨B0, h0, _⟩ := hw.box q bq hq
  have := hle _ _ _ h0
  rw [this] at hB'; cases hB'; exact h0
 refine (h N).run E nt a w ⟨hd, hn, S, μ.put k N B, ⟨hw.ext, hw.lt, hw.base, hw.new, Mu.Gd hN0 hw.fresh, fun q bq hq => ?_, ?_, hw.le.trans hle⟩, fun t => ?_⟩
 ·rw [hget'] at hq
  by_cases hkq : k = q
  ·rw [if_pos hkq] at hq; cases hq; subst hkq
   refine ⟨B, Mu.BC _ _ _ _, hz, ?_⟩
   cases hbl : B.blk with
   | none => rw [hbl] at hh; exact hh
   | some g =>
    rw [hbl] at hh
    obtain ⟨a1, a2, a3, cu, a4, a5, a6, a7, a8⟩ := hh
    exact ⟨a1, a2, a3, cu, a4, a5, a6, a7, a8.mono (fun _ h => h) (BQ.refl _ _) hle⟩
  ·rw [if_neg hkq] at hq
   by_cases hqj : q = j
   ·rw [if_pos hqj] at hq; cases hq
   ·rw [if_neg hqj] at hq
    obtain ⟨B0, h0, hz0, hh0⟩ := hw.box q bq hq
    refine ⟨B0, hle _ _ _ h0, hz0, ?_⟩
    cases hbl : B0.blk with
    | none => rw [hbl] at hh0; exact hh0
    | some g =>
     rw [hbl] at hh0
     obtain ⟨a1, a2, a3, cu, a4, a5, a6, a7, a8⟩ := hh0
     exact ⟨a1, a2, a3, cu, a4, a5, a6, a7, a8.mono (fun _ h => h) (BQ.refl _ _) hle⟩
 ·intro q q' bq bq' Bq Bq' g hq hq' hne hf1 hf2 hBq hBq' hbl
  rw [hget'] at hq hq'
  by_cases hkq : k = q
  ·rw [if_pos hkq] at hq; cases hq; subst hkq
   rw [Mu.BC] at hBq; cases hBq
   rw [if_neg hne] at hq'
   by_cases hqj : q' = j
   ·rw [if_pos hqj] at hq'; cases hq'
   ·rw [if_neg hqj] at hq'
    exact hw.apart j q' b bq' B Bq' g hb hq' (fun e => hqj e.symm) hf1 hf2 hB (hold q' bq' hq' _ hBq') hbl
  ·rw [if_neg hkq] at hq
   by_cases hqj : q = j
   ·rw [if_pos hqj] at hq; cases hq
   ·rw [if_neg hqj] at hq
    by_cases hkq' : k = q'
    ·rw [if_pos hkq'] at hq'; cases hq'; subst hkq'
     rw [Mu.BC] at hBq'; cases hBq'
     exact hw.apart q j bq b Bq B g hq hb hqj hf1 hf2 (hold q bq hq _ hBq) hB hbl
    ·rw [if_neg hkq'] at hq'
     by_cases hqj' : q' = j
     ·rw [if_pos hqj'] at hq'; cases hq'
     ·rw [if_neg hqj'] at hq'
      exact hw.apart q q' bq bq' Bq Bq' g hq hq' hne hf1 hf2 (hold q bq hq _ hBq) (hold q' bq' hq' _ hBq') hbl
 ·exact hF N S w (μ.put k N B) _ ((Mu.BC _ _ _ _).trans ((hv ▸ hle _ _ _ hB).symm)) (fun t => (hf t).mono (fun _ h => h) (BQ.refl _ _) hle) t

theorem VR.ren {S : Nat → Prop} {w : World} {μ : Mu} {u : Value} {j v k v' n : Nat} (h : VR S w μ u (.row j v n)) (e : μ k v' = μ j v) : VR S w μ u (.row k v' n) := by
 cases h with
 | row _ _ _ bl cap esz h1 h2 h3 => exact .row k v' n _ _ _ (e.trans h1) h2 h3
 | Je _ _ cap esz h1 => exact .Je k v' _ _ (e.trans h1)
theorem VR.Ww {S : Nat → Prop} {w : World} {μ : Mu} {u : Value} {cs : List AV} {off : Nat} {y : AV} (h : VR S w μ u (.agg cs)) (h1 : y.one = true) (hy : ∀ x v, cs[off]? = some x → VR S w μ v x → VR S w μ v y) : VR S w μ u (.agg (cs.set off y)) := by
 cases h with
 | agg vs _ hl ho hh =>
  refine .agg vs _ (by simpa using hl) (fun x hx => ?_) (fun q v x p e => ?_)
  ·rcases List.mem_or_eq_of_mem_set hx with h | h
   ·exact ho x h
   ·subst h; exact h1
  ·rw [List.getElem?_set] at e
   split at e
   ·rename_i hq
    subst hq
    split at e
    ·rename_i hlt
     cases e
     exact hy _ v (List.getElem?_eq_getElem hlt) (hh off v _ p (List.getElem?_eq_getElem hlt))
    ·cases e
   ·exact hh q v x p e
theorem RT {S : Nat → Prop} {w : World} {μ : Mu} {a : Nat → Value} {fr : List (Nat × AV)} {i : Nat} {y : AV} (h : ∀ t, VR S w μ (a t) (Bo fr t)) (hy : VR S w μ (a i) y) : ∀ t, VR S w μ (a t) (Bo ((i, y) :: fr) t) := fun t => by
 simp only [Bo]
 split
 ·rename_i e; subst e; exact hy
 ·exact h t
theorem Ah.ren {s : St} {T : St → Prop} (i j k : Nat) {v n : Nat} {b : Box} (hi : Bo s.fr i = .row j v n) (hb : AA s.hp j = some b) (hv : b.ver = v)
  (h : ∀ v', Ah ⟨(i, .row k v' n) :: s.fr, (k, ⟨v', b.frz, b.ty, b.esz, b.es⟩) :: B6 [j] s.hp⟩ T) : Ah s T :=
 Ah.AdK (fun v' => (i, .row k v' n) :: s.fr) j k hb hv (fun v' S w μ a e hf => RT hf ((hi ▸ hf i).ren e)) h
theorem Ah.AdT {s : St} {T : St → Prop} (F : Nat → List (Nat × AV)) (k : Nat) (ty : TypeId) (esz : Nat)
  (hF : ∀ (v : Nat) (S : Nat → Prop) (w : World) (μ : Mu) (a : Nat → Value), μ k v = some ⟨none, 0, esz⟩ → (∀ t, VR S w μ (a t) (Bo s.fr t)) → ∀ t, VR S w μ (a t) (Bo (F v) t))
  (h : ∀ v, Ah ⟨F v, (k, ⟨v, false, ty, esz, []⟩) :: s.hp⟩ T) : Ah s T := by
 refine ⟨?_⟩
 rintro E nt a w ⟨hd, hn, S, μ, hw, hf⟩
 obtain ⟨N, hN0, hN, _⟩ := hw.fresh
 have hle : Mu.le μ (μ.put k N ⟨none, 0, esz⟩) := Mu.L1 (hN k N (Nat.le_refl _))
 have hget' : ∀ j, AA ((k, (⟨N, false, ty, esz, []⟩ : Box)) :: s.hp) j = if k = j then some ⟨N, false, ty, esz, []⟩ else AA s.hp j := fun j => rfl
 have hold : ∀ j bj, AA s.hp j = some bj → ∀ B', (μ.put k N ⟨none, 0, esz⟩) j bj.ver = some B' → μ j bj.ver = some B' := fun j bj hj B' hB' => by
  obtain ⟨B0, h0, _⟩ := hw.box j bj hj
  have := hle _ _ _ h0
  rw [this] at hB'; cases hB'; exact h0
 refine (h N).run E nt a w ⟨hd, hn, S, μ.put k N ⟨none, 0, esz⟩, ⟨hw.ext, hw.lt, hw.base, hw.new, Mu.Gd hN0 hw.fresh, fun j bj hj => ?_, ?_, hw.le.trans hle⟩, fun t => hF N S w _ _ (Mu.BC _ _ _ _) (fun t => (hf t).mono (fun _ h => h) (BQ.refl _ _) hle) t⟩
 ·rw [hget'] at hj
  by_cases hkj : k = j
  ·rw [if_pos hkj] at hj; cases hj; subst hkj
   exact ⟨_, Mu.BC _ _ _ _, rfl, rfl⟩
  ·rw [if_neg hkj] at hj
   obtain ⟨B0, h0, hz0, hh⟩ := hw.box j bj hj
   refine ⟨B0, hle _ _ _ h0, hz0, ?_⟩
   cases hbl : B0.blk with
   | none => rw [hbl] at hh; exact hh
   | some b =>
    rw [hbl] at hh
    obtain ⟨a1, a2, a3, cu, a4, a5, a6, a7, a8⟩ := hh
    exact ⟨a1, a2, a3, cu, a4, a5, a6, a7, a8.mono (fun _ h => h) (BQ.refl _ _) hle⟩
 ·intro j j' bj bj' Bj Bj' b hj hj' hne hf1 hf2 hBj hBj' hbl
  rw [hget'] at hj hj'
  by_cases hkj : k = j
  ·rw [if_pos hkj] at hj; cases hj; subst hkj
   rw [Mu.BC] at hBj; cases hBj; cases hbl
  ·rw [if_neg hkj] at hj
   by_cases hkj' : k = j'
   ·rw [if_pos hkj'] at hj'; cases hj'; subst hkj'
    rw [Mu.BC] at hBj'; cases hBj'; simp
   ·rw [if_neg hkj'] at hj'
    exact hw.apart j j' bj bj' Bj Bj' b hj hj' hne hf1 hf2 (hold j bj hj _ hBj) (hold j' bj' hj' _ hBj') hbl
theorem VR.new {S : Nat → Prop} {w : World} {μ : Mu} {u : Value} {k v esz : Nat} (h : VR S w μ u .Aq) (e : μ k v = some ⟨none, 0, esz⟩) : VR S w μ u (.row k v 0) := by
 cases h
 exact .Je k v 0 esz e
theorem Ah.new {s : St} {T : St → Prop} (i k : Nat) (ty : TypeId) (esz : Nat) (hi : Bo s.fr i = .Aq) (h : ∀ v, Ah ⟨(i, .row k v 0) :: s.fr, (k, ⟨v, false, ty, esz, []⟩) :: s.hp⟩ T) : Ah s T :=
 Ah.AdT (fun v => (i, .row k v 0) :: s.fr) k ty esz (fun v S w μ a e hf => RT hf ((hi ▸ hf i).new e)) h
theorem Hh {P : Go.Program} {f : FuncId} {args : List AV} {hp : Hp} {Post Post2 : AV → Hp → Prop} (h : AO P f args hp Post) (hg : ∀ r hp', Post r hp' → Ah ⟨[(0, r)], hp'⟩ fun s => Post2 (Bo s.fr 0) s.hp) : AO P f args hp Post2 := by
 obtain ⟨hc, h⟩ := h
 refine ⟨hc, fun S w μ vs hW hv => (h S w μ vs hW hv).mono fun e w' ⟨v, r, hp', S', μ', he, hpst, hvr, hw'⟩ => ?_⟩
 obtain ⟨s2, hT, hd, hn, S2, μ2, hw2, hf2⟩ := (hg r hp' hpst).run ⟨w, S, G3 μ hp, μ⟩ 1 { tmps := #[v], defers := [] } w' ⟨rfl, rfl, S', μ', hw', fun t => by
  cases t with
  | zero => exact hvr
  | succ t => exact .top _⟩
 exact ⟨v, Bo s2.fr 0, s2.hp, S2, μ2, he, hT, hf2 0, hw2⟩

open Classical in
noncomputable def glue (K : Nat) (vs vs' : Nat → Nat) : Nat → Nat := fun k => if InT K k then vs k else vs' k
theorem Yh {K k : Nat} {vs vs' : Nat → Nat} (h : InT K k) : glue K vs vs' k = vs k := if_pos h
section
variable {α : Type} [AVal α] [OVal α]
def Adx (nm : Nat) (y : α) (r : AV) (hp' : Hp) : Prop := ∃ vs, r = ov nm vs y ∧ hp' = oh nm vs y
theorem Xr (nm : Nat) (vs : Nat → Nat) : ∀ (i : Nat) (a b : List α), ovL nm vs i (a ++ b) = ovL nm vs i a ++ ovL nm vs (i + a.length) b
 | _, [], _ => by simp [ovL]
 | i, e :: r, b => by simp only [List.cons_append, ovL, Xr nm vs (i + 1) r b, List.length_cons]; rw [show i + 1 + r.length = i + (r.length + 1) by omega]
theorem XF (nm : Nat) (vs : Nat → Nat) : ∀ (i : Nat) (a b : List α), ohL nm vs i (a ++ b) = ohL nm vs i a ++ ohL nm vs (i + a.length) b
 | _, [], _ => by simp [ohL]
 | i, e :: r, b => by simp only [List.cons_append, ohL, XF nm vs (i + 1) r b, List.length_cons, List.append_assoc]; rw [show i + 1 + r.length = i + (r.length + 1) by omega]
end
theorem Nj {α : Type} [AVal α] [OVal α] {nm : Nat} {vs : Nat → Nat} {v' : Nat} (l : List α) : ov nm (glue nm (fun k => if k = nm then v' else vs k) vs) l = .row nm v' l.length ∧
  oh nm (glue nm (fun k => if k = nm then v' else vs k) vs) l = ohL nm vs 0 l ++ [(nm, ⟨v', false, OVal.ty α, AVal.n α, ovL nm vs 0 l⟩)] := by
 have hroot : glue nm (fun k => if k = nm then v' else vs k) vs nm = v' := by rw [Yh .root]; simp
 have B6 : ∀ i (l : List α), ovL nm (glue nm (fun k => if k = nm then v' else vs k) vs) i l = ovL nm vs i l ∧ ohL nm (glue nm (fun k => if k = nm then v' else vs k) vs) i l = ohL nm vs i l := by
  intro i l
  induction l generalizing i with
  | nil => exact ⟨rfl, rfl⟩
  | cons e r ih =>
   obtain ⟨a, b⟩ := ih (i + 1)
   obtain ⟨c, d⟩ := OVal.LS (sub nm i) (glue nm (fun k => if k = nm then v' else vs k) vs) vs e (fun k hk => by
    rw [Yh hk.up]; simp [hk.ne])
   simp only [ovL, ohL, a, b, c, d, and_self]
 rw [La, JY, Tw, hroot, (B6 0 l).1, (B6 0 l).2]
 exact ⟨rfl, rfl⟩
theorem Yi {α : Type} [AVal α] [OVal α] {nm j v' : Nat} {vs : Nat → Nat} {l : List α} {b : Box} {hp : Hp} (hj : j < 10000) (hp0 : hp = (nm, ⟨v', false, OVal.ty α, AVal.n α, ovL nm vs 0 l⟩) :: B6 [j] ((j, b) :: ohL nm vs 0 l)) :
  Bu hp (oh nm (glue nm (fun k => if k = nm then v' else vs k) vs) l) := by
 rw [(Nj l).2, AK]
 refine ⟨AP.2 fun p hp' => ?_, ⟨by rw [hp0]; exact Dt, trivial⟩⟩
 obtain ⟨q, _, hq⟩ := Db hp'
 have hne : p.1 ≠ nm := hq.ne
 have hge := hq.ge
 rw [hp0, Bc (fun e => hne e.symm), BP (by simp; omega), Bc (by omega)]
 exact AP.1 (E2 nm vs 0 l) p hp'
end Go.Proofs.YteeiaaogmjbcjaaGreat.Av
set_option linter.unusedVariables false
set_option linter.unusedSimpArgs false
namespace Go.Proofs.YteeiaaogmjbcjaaGreat
open Go.RowKit Go.Proofs.YteeiaaogmjbcjaaGreat.Av
open Go.Proofs.YteeiaaogmjbcjaaGreat.Av.AVal (av)
open AVal (av)
open OVal (ov oh on)

theorem Av.VR.Vs {S : Nat → Prop} {w : World} {μ : Mu} {u : Value} {cs : List AV} {off : Nat} {y : AV} (h : VR S w μ u (.tup cs)) (hy : ∀ x v, cs[off]? = some x → VR S w μ v x → VR S w μ v y) : VR S w μ u (.tup (cs.set off y)) := by
 cases h with
 | tup vs _ hl hh =>
  refine .tup vs _ (by simpa using hl) (fun q v x p e => ?_)
  rw [List.getElem?_set] at e
  split at e
  ·rename_i hq
   subst hq
   split at e
   ·rename_i hlt
    cases e
    exact hy _ v (List.getElem?_eq_getElem hlt) (hh off v _ p (List.getElem?_eq_getElem hlt))
   ·cases e
  ·exact hh q v x p e
theorem Ah.Aen {s : St} {T : St → Prop} (i o2 off j k : Nat) {v n : Nat} {ts cs : List AV} {b : Box} (hi : Bo s.fr i = .tup ts) (ht : ts[o2]? = some (.agg cs)) (hc : cs[off]? = some (.row j v n)) (hb : AA s.hp j = some b) (hv : b.ver = v)
  (h : ∀ v', Ah ⟨(i, .tup (ts.set o2 (.agg (cs.set off (.row k v' n))))) :: s.fr, (k, ⟨v', b.frz, b.ty, b.esz, b.es⟩) :: B6 [j] s.hp⟩ T) : Ah s T :=
 Ah.AdK (fun v' => (i, .tup (ts.set o2 (.agg (cs.set off (.row k v' n))))) :: s.fr) j k hb hv (fun v' S w μ a e hf => RT hf (Av.VR.Vs (hi ▸ hf i) fun x u hx hu => by
  rw [ht] at hx; cases hx
  exact hu.Ww rfl fun x u hx hu => by rw [hc] at hx; cases hx; exact hu.ren e)) h
theorem Ah.Aeq {s : St} {T : St → Prop} (i o2 off k : Nat) (ty : TypeId) (esz : Nat) {ts cs : List AV} (hi : Bo s.fr i = .tup ts) (ht : ts[o2]? = some (.agg cs)) (hc : cs[off]? = some .Aq) (h : ∀ v, Ah ⟨(i, .tup (ts.set o2 (.agg (cs.set off (.row k v 0))))) :: s.fr, (k, ⟨v, false, ty, esz, []⟩) :: s.hp⟩ T) : Ah s T :=
 Ah.AdT (fun v => (i, .tup (ts.set o2 (.agg (cs.set off (.row k v 0))))) :: s.fr) k ty esz (fun v S w μ a e hf => RT hf (Av.VR.Vs (hi ▸ hf i) fun x u hx hu => by
  rw [ht] at hx; cases hx
  exact hu.Ww rfl fun x u hx hu => by rw [hc] at hx; cases hx; exact hu.new e)) h
theorem Ah.SQ {s : St} {T : St → Prop} (k : Nat) {b : Box} (hb : AA s.hp k = some b) (h : Ah ⟨s.fr, (k, ⟨b.ver, b.frz, b.ty, b.esz, b.es.map (AV.pur s.hp)⟩) :: s.hp⟩ T) : Ah s T := by
 refine ⟨?_⟩
 rintro E nt a w ⟨hd, hn, S, μ, hw, hf⟩
 have hget' : ∀ j bj, AA ((k, (⟨b.ver, b.frz, b.ty, b.esz, b.es.map (AV.pur s.hp)⟩ : Box)) :: s.hp) j = some bj → ∃ bo, AA s.hp j = some bo ∧ bo.ver = bj.ver ∧ bo.frz = bj.frz := fun j bj hj => by
  simp only [AA] at hj
  split at hj
  ·rename_i e; subst e; cases hj; exact ⟨b, hb, rfl, rfl⟩
  ·exact ⟨bj, hj, rfl, rfl⟩
 refine h.run E nt a w ⟨hd, hn, S, μ, ⟨hw.ext, hw.lt, hw.base, hw.new, hw.fresh, fun j bj hj => ?_, ?_, hw.le⟩, hf⟩
 ·simp only [AA] at hj
  split at hj
  ·rename_i e; subst e; cases hj
   obtain ⟨B0, h0, hz0, hh⟩ := hw.box k b hb
   refine ⟨B0, h0, hz0, ?_⟩
   cases hbl : B0.blk with
   | none => rw [hbl] at hh; simp only at hh ⊢; rw [hh, List.map_nil]
   | some g =>
    rw [hbl] at hh
    obtain ⟨a1, a2, a3, cu, a4, a5, a6, a7, a8⟩ := hh
    have hok : ∀ e ∈ b.es, e.ok = true := fun e he => by
     by_cases hq : e.isAgg = true
     ·simp [AV.ok, hq]
     ·have : e.cells = [e] := by cases e <;> first | rfl | (simp [AV.isAgg] at hq)
      simp [AV.ok, (a8.1 e he).2 e (by rw [this]; simp)]
    exact ⟨a1, a2, a3, cu, a4, a5, a6, by simpa using a7, a8.pur hw hok⟩
  ·exact hw.box j bj hj
 ·intro j j' bj bj' Bj Bj' g hj hj' hne hf1 hf2 hBj hBj' hbl
  obtain ⟨bo, g1, g2, g3⟩ := hget' j bj hj
  obtain ⟨bo', g1', g2', g3'⟩ := hget' j' bj' hj'
  rw [← g2] at hBj; rw [← g2'] at hBj'
  exact hw.apart j j' bo bo' Bj Bj' g g1 g1' hne (g3.trans hf1) (g3'.trans hf2) hBj hBj' hbl
theorem PC {P : Go.Program} {f : FuncId} {args : List AV} {r r' : AV} (h : AG P f args r) (hr : ∀ S w v, VR S w mu0 v r → VR S w mu0 v r') : AG P f args r' := ⟨h.1, h.2.1, fun S w vs h1 h2 => (h.2.2 S w vs h1 h2).mono fun e w' ⟨v, he, hv, hb⟩ => ⟨v, he, hr _ _ _ hv, hb⟩⟩
theorem Ah.WM {s : St} {T : St → Prop} (k i : Nat) (y : AV) {b : Box} (hb : AA s.hp k = some b)
  (hy : ∀ e, b.es[i]? = some e → (y.cells.length = e.cells.length ∧ ∀ x ∈ y.cells, x.one = true) ∧ ∀ (S : Nat → Prop) (w : World) (μ : Mu) (j : Nat) (x' : AV), y.cells[j]? = some x' → ∃ x, e.cells[j]? = some x ∧ ∀ v, VR S w μ v x → VR S w μ v x')
  (h : Ah ⟨s.fr, (k, ⟨b.ver, b.frz, b.ty, b.esz, b.es.set i y⟩) :: s.hp⟩ T) : Ah s T := by
 refine ⟨?_⟩
 rintro E nt a w ⟨hd, hn, S, μ, hw, hf⟩
 have hget' : ∀ j bj, AA ((k, (⟨b.ver, b.frz, b.ty, b.esz, b.es.set i y⟩ : Box)) :: s.hp) j = some bj → ∃ bo, AA s.hp j = some bo ∧ bo.ver = bj.ver ∧ bo.frz = bj.frz := fun j bj hj => by
  simp only [AA] at hj
  split at hj
  ·rename_i e; subst e; cases hj; exact ⟨b, hb, rfl, rfl⟩
  ·exact ⟨bj, hj, rfl, rfl⟩
 refine h.run E nt a w ⟨hd, hn, S, μ, ⟨hw.ext, hw.lt, hw.base, hw.new, hw.fresh, fun j bj hj => ?_, ?_, hw.le⟩, hf⟩
 ·simp only [AA] at hj
  split at hj
  ·rename_i e; subst e; cases hj
   obtain ⟨B0, h0, hz0, hh⟩ := hw.box k b hb
   refine ⟨B0, h0, hz0, ?_⟩
   cases hbl : B0.blk with
   | none => rw [hbl] at hh; simp only at hh ⊢; rw [hh, List.set_nil]
   | some g =>
    rw [hbl] at hh
    obtain ⟨a1, a2, a3, cu, a4, a5, a6, a7, a8⟩ := hh
    refine ⟨a1, a2, a3, cu, a4, a5, a6, by simpa using a7, fun e he => ?_, fun q j e x p hx => ?_⟩
    ·by_cases hi : i < b.es.length
     ·rcases List.mem_or_eq_of_mem_set he with he | rfl
      ·exact a8.1 e he
      ·have h1 := hy _ (List.getElem?_eq_getElem hi)
       exact ⟨h1.1.1.trans (a8.1 _ (List.getElem_mem hi)).1, h1.1.2⟩
     ·rw [List.set_eq_of_length_le (by omega)] at he
      exact a8.1 e he
    ·rw [List.getElem?_set] at p
     split at p
     ·rename_i hq
      subst hq
      split at p
      ·rename_i hlt
       cases p
       obtain ⟨x0, hx0, hv⟩ := (hy _ (List.getElem?_eq_getElem hlt)).2 S w μ j x hx
       obtain ⟨v, hv1, hv2⟩ := a8.2 i j _ x0 (List.getElem?_eq_getElem hlt) hx0
       exact ⟨v, hv1, hv v hv2⟩
      ·cases p
     ·exact a8.2 q j e x p hx
  ·exact hw.box j bj hj
 ·intro j j' bj bj' Bj Bj' g hj hj' hne hf1 hf2 hBj hBj' hbl
  obtain ⟨bo, g1, g2, g3⟩ := hget' j bj hj
  obtain ⟨bo', g1', g2', g3'⟩ := hget' j' bj' hj'
  rw [← g2] at hBj; rw [← g2'] at hBj'
  exact hw.apart j j' bo bo' Bj Bj' g g1 g1' hne (g3.trans hf1) (g3'.trans hf2) hBj hBj' hbl
theorem Ah.slB {s : St} {T : St → Prop} (k i off : Nat) {b : Box} (hb : AA s.hp k = some b) {cs : List AV} (he : b.es[i]? = some (.agg cs)) (ho : ∀ x ∈ cs, x.one = true) (hc : cs[off]? = some .Aq)
  (h : Ah ⟨s.fr, (k, ⟨b.ver, b.frz, b.ty, b.esz, b.es.set i (.agg (cs.set off (.sl [])))⟩) :: s.hp⟩ T) : Ah s T := by
 refine Ah.WM k i (.agg (cs.set off (.sl []))) hb (fun e h1 => ?_) h
 rw [he] at h1
 cases h1
 refine ⟨⟨by simp [AV.cells], fun x hx => ?_⟩, fun S w μ j x' hx => ?_⟩
 ·rcases List.mem_or_eq_of_mem_set (show x ∈ cs.set off (.sl []) from hx) with h2 | rfl
  ·exact ho x h2
  ·rfl
 ·rw [show (AV.agg (cs.set off (.sl []))).cells = cs.set off (.sl []) from rfl, List.getElem?_set] at hx
  split at hx
  ·rename_i hq
   subst hq
   split at hx
   ·cases hx
    exact ⟨.Aq, hc, fun v hv => by cases hv; exact .sl0 none 0 (Nat.zero_le _)⟩
   ·cases hx
  ·exact ⟨x', hx, fun v hv => hv⟩
end Go.Proofs.YteeiaaogmjbcjaaGreat
set_option linter.unusedVariables false
set_option maxRecDepth 100000
namespace Go.Proofs.YteeiaaogmjbcjaaGreat
open Go.Proofs.YteeiaaogmjbcjaaGreat.Av

theorem JQ : Tryz.prog.follows .mixedOrders = true := by kernel_rfl

def GG : Ir Tryz.prog 84 [] [9999] 1 := ⟨_, _, Tryz.func84, JQ, by kernel_rfl, Ay [] Tryz.progTables (by conv => lhs; cbv) (by kernel_rfl)⟩
def FT : Ir Tryz.prog 85 [(14, 7777), (16, 7777), (40, 7777)] [9999] 2 := ⟨_, _, Tryz.func85, JQ, by kernel_rfl, Ay [10010] Tryz.progTables (by conv => lhs; cbv) (by kernel_rfl)⟩
end Go.Proofs.YteeiaaogmjbcjaaGreat
set_option linter.unusedVariables false
set_option maxRecDepth 100000
namespace Go.Proofs.YteeiaaogmjbcjaaGreat
open Go.Proofs.YteeiaaogmjbcjaaGreat.Av

theorem Hg : Tryz.prog.follows .mixedOrders = true := by kernel_rfl

def Jv : Ir Tryz.prog 21 [(31,2000)] [9999] 1 := ⟨_, _, Tryz.func21, Hg, by kernel_rfl, Ay [] Tryz.progTables (by conv => lhs; cbv) (by kernel_rfl)⟩
def FU : Ir Tryz.prog 53 [(9,1),(10,1)] [9999] 1 := ⟨_, _, Tryz.func53, Hg, by kernel_rfl, Ay [] Tryz.progTables (by conv => lhs; cbv) (by kernel_rfl)⟩
def Ew : Ir Tryz.prog 25 [(14, 7777), (18, 7777), (20, 7777), (22, 7777), (24, 7777)] [9999] 2 := ⟨_, _, Tryz.func25, Hg, by kernel_rfl, Ay [] Tryz.progTables (by conv => lhs; cbv) (by kernel_rfl)⟩
def Ju : Ir Tryz.prog 55 [(14, 7777), (19, 7777), (24, 7777), (29, 7777), (34, 7777), (37, 7777), (40, 7777), (43, 7777), (5, 7777), (9, 7777)] [9999] 1 := ⟨_, _, Tryz.func55, Hg, by kernel_rfl, Ay [] Tryz.progTables (by conv => lhs; cbv) (by kernel_rfl)⟩
end Go.Proofs.YteeiaaogmjbcjaaGreat
