/-
 ALL OWN ROWS OF A VALUE GET OTHER NAMES. Conditions: none.
-/
import Derived.Test.YtppjinmlfcokaaaGreatVAvRen
import Derived.Test.YtppjinmlfcokaaaGreatVJ32
import Derived.Test.YtppjinmlfcokaaaGreatVJ24
set_option linter.unusedVariables false
set_option linter.unusedSimpArgs false
namespace Go.Proofs.YtppjinmlfcokaaaGreat.Av
open Go.RowKit
open AVal (av)
open OVal (ov oh on)

inductive Pth (nm nm' : Nat) : Nat → Nat → Prop where
 | root : Pth nm nm' nm nm'
 | sub {k k' : Nat} (i : Nat) (h : Pth nm nm' k k') : Pth nm nm' (Av.sub k i) (Av.sub k' i)
theorem Pth.l {nm nm' k k' : Nat} (h : Pth nm nm' k k') : InT nm k := by
 induction h with
 | root => exact .root
 | sub i _ ih => exact .sub i ih
theorem Pth.r {nm nm' k k' : Nat} (h : Pth nm nm' k k') : InT nm' k' := by
 induction h with
 | root => exact .root
 | sub i _ ih => exact .sub i ih
theorem Pth.flip {nm nm' k k' : Nat} (h : Pth nm nm' k k') : Pth nm' nm k' k := by
 induction h with
 | root => exact .root
 | sub i _ ih => exact .sub i ih
theorem Pth.down {nm nm' i k k' : Nat} (h : Pth (Av.sub nm i) (Av.sub nm' i) k k') : Pth nm nm' k k' := by
 induction h with
 | root => exact .sub i .root
 | sub j _ ih => exact .sub j ih
theorem Pth.inj {nm nm' k k1 : Nat} (h : Pth nm nm' k k1) : ∀ {k2 : Nat}, Pth nm nm' k k2 → k1 = k2 := by
 induction h with
 | root =>
  intro k2 h2
  generalize hk : nm = k at h2
  cases h2 with
  | root => rfl
  | sub i h2 => rename_i p p'; have h3 := h2.l.le; have := Eu p i; omega
 | sub i h ih =>
  rename_i p p'
  intro k2 h2
  generalize hk : Av.sub p i = k at h2
  cases h2 with
  | root => have h3 := h.l.le; have := Eu p i; omega
  | sub j h2 =>
   obtain ⟨e1, e2⟩ := ER hk
   subst e1 e2
   rw [ih h2]
theorem Pth.AeU {nm nm' k1 k2 k' : Nat} (h : Pth nm nm' k1 k') (h2 : Pth nm nm' k2 k') : k1 = k2 := h.flip.inj h2.flip
inductive J4 (R : Nat → Nat → Prop) (vs : Nat → Nat) (N : Nat) : AV → AV → Prop where
 | Hf (x : AV) (h : x.HB = true) : J4 R vs N x x
 | row (k k' n : Nat) (h : R k k') : J4 R vs N (.row k (vs k) n) (.row k' N n)
 | ptr (k k' i o : Nat) (h : R k k') : J4 R vs N (.ptr k (vs k) i o) (.ptr k' N i o)
theorem J4.mono {R R' : Nat → Nat → Prop} {vs vs' : Nat → Nat} {N : Nat} {x x' : AV} (hR : ∀ k k', R k k' → R' k k' ∧ vs k = vs' k) (h : J4 R vs N x x') : J4 R' vs' N x x' := by
 cases h with
 | Hf _ h => exact .Hf _ h
 | row k k' n h => rw [(hR _ _ h).2]; exact .row k k' n (hR _ _ h).1
 | ptr k k' i o h => rw [(hR _ _ h).2]; exact .ptr k k' i o (hR _ _ h).1
inductive Ff (R : Nat → Nat → Prop) (vs : Nat → Nat) (N : Nat) : List AV → List AV → Prop where
 | nil : Ff R vs N [] []
 | cons {x x' : AV} {l l' : List AV} (h : J4 R vs N x x') (t : Ff R vs N l l') : Ff R vs N (x :: l) (x' :: l')
abbrev NM (nm nm' : Nat) := Ff (Pth nm nm')
theorem Ff.mono {R R' : Nat → Nat → Prop} {vs vs' : Nat → Nat} {N : Nat} {l l' : List AV} (hR : ∀ k k', R k k' → R' k k' ∧ vs k = vs' k) (h : Ff R vs N l l') : Ff R' vs' N l l' := by
 induction h with
 | nil => exact .nil
 | cons h _ ih => exact .cons (h.mono hR) ih
theorem Ff.down {nm nm' i N : Nat} {vs : Nat → Nat} {l l' : List AV} (h : NM (Av.sub nm i) (Av.sub nm' i) vs N l l') : NM nm nm' vs N l l' := Ff.mono (fun _ _ h => ⟨h.down, rfl⟩) h
theorem Ff.len {R : Nat → Nat → Prop} {N : Nat} {vs : Nat → Nat} {l l' : List AV} (h : Ff R vs N l l') : l.length = l'.length := by
 induction h with
 | nil => rfl
 | cons _ _ ih => simp [ih]
theorem Ff.get {R : Nat → Nat → Prop} {N : Nat} {vs : Nat → Nat} {l l' : List AV} (h : Ff R vs N l l') : ∀ (j : Nat) (x' : AV), l'[j]? = some x' → ∃ x, l[j]? = some x ∧ J4 R vs N x x' := by
 induction h with
 | nil => intro j x' h; simp at h
 | cons h _ ih =>
  intro j x' hj
  cases j with
  | zero => simp at hj; subst hj; exact ⟨_, rfl, h⟩
  | succ j => simpa using ih j x' (by simpa using hj)
theorem J4.one {R : Nat → Nat → Prop} {N : Nat} {vs : Nat → Nat} {x x' : AV} (h : J4 R vs N x x') : x'.one = true := by
 cases h with
 | Hf _ h => cases x <;> first | rfl | (simp [AV.HB] at h)
 | row => rfl
 | ptr => rfl
theorem VR.Agx {S : Nat → Prop} {w : World} {μ μ' : Mu} {u : Value} {j v k v' n : Nat} (h : VR S w μ u (.row j v n)) (e : μ' k v' = μ j v) : VR S w μ' u (.row k v' n) := by
 cases h with
 | row _ _ _ bl cap esz h1 h2 h3 => exact .row k v' n _ _ _ (e.trans h1) h2 h3
 | Iw _ _ cap esz h1 => exact .Iw k v' _ _ (e.trans h1)
theorem J4.vr {R : Nat → Nat → Prop} {N : Nat} {vs : Nat → Nat} {x x' : AV} (h : J4 R vs N x x') {S : Nat → Prop} {w : World} {μ μ' : Mu} (hμ : ∀ k k', R k k' → μ' k' N = μ k (vs k)) {v : Value} (hv : VR S w μ v x) : VR S w μ' v x' := by
 cases h with
 | Hf _ h => exact hv.HB h
 | row k k' n h => exact hv.Agx (hμ k k' h)
 | ptr k k' i o h =>
  have e := hμ k k' h
  cases hv with
  | ptr _ _ _ _ b cap esz h1 => exact .ptr k' N i o b cap esz (e.trans h1)
class ORn (α : Type) [AVal α] [OVal α] : Prop where
 cel : ∀ (nm nm' N : Nat) (vs : Nat → Nat) (y : α), NM nm nm' vs N (ov nm vs y).cells (ov nm' (fun _ => N) y).cells
 bx : ∀ (nm nm' N : Nat) (vs : Nat → Nat) (y : α), ∀ p' ∈ oh nm' (fun _ => N) y, ∃ p ∈ oh nm vs y, Pth nm nm' p.1 p'.1 ∧ p.2.ver = vs p.1 ∧ p'.2.ver = N ∧ p.2.ty = p'.2.ty ∧ p.2.esz = p'.2.esz ∧ p.2.es.length = p'.2.es.length ∧
  ∀ (i : Nat) (e' : AV), p'.2.es[i]? = some e' → ∃ e, p.2.es[i]? = some e ∧ NM nm nm' vs N e.cells e'.cells
instance : ORn Int := ⟨fun nm nm' N vs y => .cons (.Hf _ rfl) .nil, fun nm nm' N vs y p h => by cases h⟩
section
variable {α : Type} [AVal α] [OVal α] [ORn α]
theorem AdU {nm nm' N i : Nat} {vs : Nat → Nat} {y : α} {p' : Nat × Box} (h : p' ∈ oh (Av.sub nm' i) (fun _ => N) y) : ∃ p ∈ oh (Av.sub nm i) vs y, Pth nm nm' p.1 p'.1 ∧ p.2.ver = vs p.1 ∧ p'.2.ver = N ∧ p.2.ty = p'.2.ty ∧ p.2.esz = p'.2.esz ∧ p.2.es.length = p'.2.es.length ∧
  ∀ (i : Nat) (e' : AV), p'.2.es[i]? = some e' → ∃ e, p.2.es[i]? = some e ∧ NM nm nm' vs N e.cells e'.cells := by
 obtain ⟨p, hp, h1, h2, h3, h4, h5, h6, h7⟩ := ORn.bx (Av.sub nm i) (Av.sub nm' i) N vs y p' h
 exact ⟨p, hp, h1.down, h2, h3, h4, h5, h6, fun i e' he => let ⟨e, a, b⟩ := h7 i e' he; ⟨e, a, b.down⟩⟩
instance : ORn (List α) where
 cel nm nm' N vs l := by
  rw [DJ, DJ]
  exact .cons (.row nm nm' l.length .root) .nil
 bx nm nm' N vs l p' h := by
  rw [Cn] at h
  rw [Cn]
  rcases List.mem_append.1 h with h | h
  ·obtain ⟨j, hj, hm⟩ := H7 h
   rw [Nat.zero_add] at hm
   obtain ⟨p, hp, h1⟩ := AdU (nm := nm) (vs := vs) hm
   exact ⟨p, List.mem_append_left _ (OT j hj (by rw [Nat.zero_add]; exact hp)), h1⟩
  ·rw [List.mem_singleton.1 h]
   refine ⟨(nm, Gg nm vs l), List.mem_append_right _ (List.mem_singleton.2 rfl), .root, rfl, rfl, rfl, rfl, by simp [Gg, Dp], fun i e' he => ?_⟩
   simp only [Gg, GO, Option.map_eq_some_iff] at he ⊢
   obtain ⟨a, ha, rfl⟩ := he
   exact ⟨_, ⟨a, ha, rfl⟩, (ORn.cel _ _ N vs a).down⟩
theorem AfN {R : Nat → Nat → Prop} (vs : Nat → Nat) (N : Nat) (μ : Mu) (hr : ∀ k1 k2 k', R k1 k' → R k2 k' → k1 = k2) : ∃ μ' : Mu, (∀ k k', R k k' → μ' k' N = μ k (vs k)) ∧ ∀ k v, v ≠ N → μ' k v = μ k v := by
 classical
 refine ⟨fun k v => if v = N then (if h : ∃ k0, R k0 k then μ h.choose (vs h.choose) else none) else μ k v, fun k k' h => ?_, fun k v h => if_neg h⟩
 have hx : ∃ k0, R k0 k' := ⟨k, h⟩
 dsimp only
 rw [if_pos rfl, dif_pos hx, hr _ _ _ hx.choose_spec h]
theorem Ue {R : Nat → Nat → Prop} {N : Nat} {vs : Nat → Nat} {x x' : AV} (ha : x.isAgg = x'.isAgg) (h : Ff R vs N x.cells x'.cells) {S : Nat → Prop} {w : World} {μ μ' : Mu} (hμ : ∀ k k', R k k' → μ' k' N = μ k (vs k)) {v : Value} (hv : VR S w μ v x) : VR S w μ' v x' := by
 by_cases hq : x.isAgg = true
 ·rw [hq] at ha
  cases x <;> simp [AV.isAgg] at hq
  cases x' <;> simp [AV.isAgg] at ha
  rename_i cs cs'
  simp only [AV.cells] at h
  cases hv with
  | agg va _ hl h1 hh =>
   refine .agg va cs' (hl.trans h.len) (fun y hy => ?_) (fun i v y a b => ?_)
   ·obtain ⟨j, hj⟩ := List.getElem?_of_mem hy
    obtain ⟨z, _, hz⟩ := h.get j y hj
    exact hz.one
   ·obtain ⟨z, hz1, hz2⟩ := h.get i y b
    exact hz2.vr hμ (hh i v z a hz1)
 ·have hq' : ¬ x'.isAgg = true := by rw [← ha]; exact hq
  have e1 : x.cells = [x] := by cases x <;> first | rfl | (simp [AV.isAgg] at hq)
  have e2 : x'.cells = [x'] := by cases x' <;> first | rfl | (simp [AV.isAgg] at hq')
  rw [e1, e2] at h
  cases h with
  | cons h _ => exact h.vr hμ hv
theorem Af.Af5 {s : St} {T : St → Prop} (R : Nat → Nat → Prop) (vs : Nat → Nat) (hl : ∀ k k1 k2, R k k1 → R k k2 → k1 = k2) (hr : ∀ k1 k2 k', R k1 k' → R k2 k' → k1 = k2) (ns : List Nat) (A : Hp) (B : Nat → Hp) (F : Nat → List (Nat × AV)) (hp : AR s.hp A) (hA : ∀ p ∈ A, p.1 ∈ ns ∧ p.2.frz = false)
  (hBB : ∀ N, ∀ p' ∈ B N, p'.2.frz = false ∧ ∃ p ∈ A, R p.1 p'.1 ∧ p.2.ver = vs p.1 ∧ p'.2.ver = N ∧ p.2.ty = p'.2.ty ∧ p.2.esz = p'.2.esz ∧ p.2.es.length = p'.2.es.length ∧ ∀ (i : Nat) (e' : AV), p'.2.es[i]? = some e' → ∃ e, p.2.es[i]? = some e ∧ Ff R vs N e.cells e'.cells)
  (hF : ∀ (N : Nat) (S : Nat → Prop) (w : World) (μ μ' : Mu) (a : Nat → Value), (∀ k k', R k k' → μ' k' N = μ k (vs k)) → Mu.le μ μ' → (∀ t, VR S w μ (a t) (Bp s.fr t)) → ∀ t, VR S w μ' (a t) (Bp (F N) t))
  (h : ∀ N, Af ⟨F N, B N ++ Ci ns s.hp⟩ T) : Af s T := by
 refine ⟨?_⟩
 rintro E nt a w ⟨hd, hn, S, μ, hw, hf⟩
 obtain ⟨N, hN0, hN, hz⟩ := hw.fresh
 have hver : ∀ k bx, Ao s.hp k = some bx → bx.ver ≠ N := fun k bx hk e => by
  obtain ⟨B, hB, _⟩ := hw.box k bx hk
  rw [hN k bx.ver (by omega)] at hB
  cases hB
 obtain ⟨μ', hμ, muO⟩ := AfN vs N μ hr
 have hle : Mu.le μ (μ') := fun k v b hb => by
  rw [muO _ _ (fun e => by rw [hN k v (by omega)] at hb; cases hb)]; exact hb
 have hold : ∀ k bx, Ao s.hp k = some bx → ∀ B, μ' k bx.ver = some B → μ k bx.ver = some B := fun k bx hk B hB => by
  rwa [muO _ _ (hver k bx hk)] at hB
 have split : ∀ k bx, Ao (B N ++ Ci (ns) s.hp) k = some bx → (k, bx) ∈ B N ∨ (k ∉ ns ∧ Ao s.hp k = some bx) := fun k bx hk => by
  rw [Qe] at hk
  cases hq : Ao (B N) k with
  | some b2 =>
   rw [hq] at hk
   simp only [Option.orElse_some, Option.some.injEq] at hk
   subst hk
   exact .inl (Ys hq)
  | none =>
   rw [hq] at hk
   simp only [Option.orElse_none] at hk
   rw [K6] at hk
   split at hk
   ·cases hk
   ·rename_i hc
    exact .inr ⟨fun hm => hc (contains_iff.2 hm), hk⟩
 have Gs : ∀ p ∈ A, p.2.frz = false := fun p hp => (hA p hp).2
 have hfrz' : ∀ p ∈ B N, p.2.frz = false := fun p hp => (hBB N p hp).1
 have hons : ∀ p ∈ A, p.1 ∈ ns := fun p hp => (hA p hp).1
 refine (h N).run E nt a w ⟨hd, hn, S, μ', ⟨hw.ext, hw.lt, hw.base, hw.new, ⟨N + 1, by omega, fun k v hv => ?_, fun k B hB => ?_⟩, fun k bx hk => ?_, ?_, hw.le.trans hle⟩, ?_⟩
 ·rw [muO _ _ (by omega)]; exact hN k v (by omega)
 ·rw [muO _ _ (by omega)] at hB; exact hz k B hB
 ·rcases split k bx hk with hm | ⟨_, hk⟩
  ·obtain ⟨p, hpm, h1, h2, h3, h4, h5, h6, h7⟩ := (hBB N (k, bx) hm).2
   obtain ⟨B, hB, hz0, hh⟩ := hw.box p.1 p.2 (AL.1 hp p hpm)
   refine ⟨B, ?_, hz0.trans h5, ?_⟩
   ·simp only at h1 h3
    rw [h3, hμ _ _ h1, ← h2]; exact hB
   ·cases hbl : B.blk with
    | none =>
     rw [hbl] at hh
     simp only at hh ⊢
     have := h6
     rw [hh] at this
     exact List.eq_nil_of_length_eq_zero this.symm
    | some g =>
     rw [hbl] at hh
     obtain ⟨a1, a2, a3, cu, a4, a5, a6, a7, a8⟩ := hh
     have f1 := Gs p hpm
     have f2 := hfrz' _ hm
     refine ⟨fun _ => a1 f1, fun e => (by rw [f2] at e; cases e), fun _ => a3 f1, cu, h4 ▸ a4, a5, a6, h6 ▸ a7, fun e he => ?_, fun q j e x pe hx => ?_⟩
     ·obtain ⟨q, hq⟩ := List.getElem?_of_mem he
      obtain ⟨e0, he0, hc⟩ := h7 q e hq
      have ho := a8.1 e0 (CJ he0)
      refine ⟨hc.len ▸ ho.1, fun x hx => ?_⟩
      obtain ⟨j, hj⟩ := List.getElem?_of_mem hx
      obtain ⟨z, _, hz⟩ := hc.get j x hj
      exact hz.one
     ·obtain ⟨e0, he0, hc⟩ := h7 q e pe
      obtain ⟨z, hz1, hz2⟩ := hc.get j x hx
      obtain ⟨v, hv1, hv2⟩ := a8.2 q j e0 z he0 hz1
      exact ⟨v, hv1, hz2.vr hμ hv2⟩
  ·obtain ⟨B0, h0, hz0, hh0⟩ := hw.box k bx hk
   refine ⟨B0, hle _ _ _ h0, hz0, ?_⟩
   cases hbl : B0.blk with
   | none => rw [hbl] at hh0; exact hh0
   | some g =>
    rw [hbl] at hh0
    obtain ⟨a1, a2, a3, cu, a4, a5, a6, a7, a8⟩ := hh0
    exact ⟨a1, a2, a3, cu, a4, a5, a6, a7, a8.mono (fun _ h => h) (BU.refl _ _) hle⟩
 ·intro k k' bx bx' B B' g hk hk' hne hf1 hf2 hB hB' hbl
  rcases split k bx hk with hm | ⟨hno, hk⟩
  ·obtain ⟨p, hpm, h1, h2, h3, _⟩ := (hBB N (k, bx) hm).2
   simp only at h1 h3
   rw [h3, hμ _ _ h1, ← h2] at hB
   have g1 := AL.1 hp p hpm
   rcases split k' bx' hk' with hm' | ⟨hno', hk'⟩
   ·obtain ⟨p', hpm', h1', h2', h3', _⟩ := (hBB N (k', bx') hm').2
    simp only at h1' h3'
    rw [h3', hμ _ _ h1', ← h2'] at hB'
    have g1' := AL.1 hp p' hpm'
    exact hw.apart p.1 p'.1 p.2 p'.2 B B' g g1 g1' (fun e => hne (by rw [e] at h1; exact hl _ _ _ h1 h1')) (Gs p hpm) (Gs p' hpm') hB hB' hbl
   ·exact hw.apart p.1 k' p.2 bx' B B' g g1 hk' (fun e => hno' (e ▸ hons p hpm)) (Gs p hpm) hf2 hB (hold k' bx' hk' B' hB') hbl
  ·have hB2 := hold k bx hk B hB
   rcases split k' bx' hk' with hm' | ⟨hno', hk'⟩
   ·obtain ⟨p', hpm', h1', h2', h3', _⟩ := (hBB N (k', bx') hm').2
    simp only at h1' h3'
    rw [h3', hμ _ _ h1', ← h2'] at hB'
    have g1' := AL.1 hp p' hpm'
    exact hw.apart k p'.1 bx p'.2 B B' g hk g1' (fun e => hno (e ▸ hons p' hpm')) hf1 (Gs p' hpm') hB2 hB' hbl
   ·exact hw.apart k k' bx bx' B B' g hk hk' hne hf1 hf2 hB2 (hold k' bx' hk' B' hB') hbl
 ·exact hF N S w μ μ' _ hμ hle hf
theorem Af.Aft {s : St} {T : St → Prop} (i nm nm' : Nat) (y : α) {vs : Nat → Nat} (hi : Bp s.fr i = ov nm vs y) (hp : AR s.hp (oh nm vs y)) (h : ∀ N, Af ⟨(i, ov nm' (fun _ => N) y) :: s.fr, oh nm' (fun _ => N) y ++ Ci (on nm y) s.hp⟩ T) : Af s T := by
 refine Af.Af5 (Pth nm nm') vs (fun _ _ _ h1 h2 => h1.inj h2) (fun _ _ _ h1 h2 => h1.AeU h2) (on nm y) (oh nm vs y) (fun N => oh nm' (fun _ => N) y) (fun N => (i, ov nm' (fun _ => N) y) :: s.fr) hp (fun p hp => ⟨by rw [← OVal.names nm vs y]; exact List.mem_map_of_mem hp, (OVal.free nm vs y p hp).1⟩) (fun N p' hp' => ⟨(OVal.free nm' _ y p' hp').1, ORn.bx nm nm' N vs y p' hp'⟩) (fun N S w μ μ' a hμ hle hf => ?_) h
 refine LR (fun t => (hf t).mono (fun _ h => h) (BU.refl _ _) hle) ?_
 have hv := hf i
 rw [hi] at hv
 exact Ue ((OVal.agg nm vs y).trans (OVal.agg nm' _ y).symm) (ORn.cel nm nm' N vs y) hμ hv
theorem YG {P : Go.Program} {f : FuncId} {args : List AV} {hp : Hp} (nm nm' : Nat) {y : α} (h : Bu P f args hp (DC nm y)) : Bu P f args hp (DC nm' y) := Dt h fun r hp' ⟨vs, e1, e2⟩ => by
 subst e1 e2
 refine Af.Aft 0 nm nm' y rfl (OVal.self nm vs y) fun N => ?_
 exact Af.le (t := ⟨[(0, ov nm' (fun _ => N) y)], oh nm' (fun _ => N) y⟩) ⟨fun _ => N, rfl, rfl⟩ (by simp [OA, Bp]) (Cj (OVal.self _ _ _))
end
end Go.Proofs.YtppjinmlfcokaaaGreat.Av
set_option linter.unusedVariables false
set_option linter.unusedSimpArgs false
set_option maxRecDepth 100000
namespace Go.Proofs.YtppjinmlfcokaaaGreat
open Go.RowKit Go.Proofs.YtppjinmlfcokaaaGreat.Av Go.Proofs.YtppjinmlfcokaaaGreat.Ml
open Go.Proofs.YtppjinmlfcokaaaGreat.Av.AVal (av)
open OVal (ov oh on)

def exB (n : Node) (k1 v1 l1 k2 v2 : Nat) : AV := .agg [.int .i64 n.kind, .int .i64 n.pos, .int .i64 n.n, .str n.s, .row k1 v1 l1, .row k2 v2 n.Ae.length]
def trP : Nat → (Nat → Nat) → Nat → List Tr → List AV
 | _, _, _, [] => []
 | nm, vs, i, t :: ts => .ptr (sub nm i) (vs (sub nm i)) 0 0 :: trP nm vs (i + 1) ts
mutual
def trH : Nat → (Nat → Nat) → Tr → Hp
 | nm, vs, .mk n ks => (FO (sub nm 0) vs 0 ks ++ [(sub nm 0, ⟨vs (sub nm 0), false, 55, 1, trP (sub nm 0) vs 0 ks⟩)]) ++ (oh (sub nm 1) vs n.Ae ++ [(nm, ⟨vs nm, false, 102, 6, [exB n (sub nm 0) (vs (sub nm 0)) ks.length (sub nm 1) (vs (sub nm 1))]⟩)])
def FO : Nat → (Nat → Nat) → Nat → List Tr → Hp
 | _, _, _, [] => []
 | nm, vs, i, t :: ts => trH (sub nm i) vs t ++ FO nm vs (i + 1) ts
end
mutual
def trN : Nat → Tr → List Nat
 | nm, .mk n ks => (Oy (sub nm 0) 0 ks ++ [sub nm 0]) ++ (on (sub nm 1) n.Ae ++ [nm])
def Oy : Nat → Nat → List Tr → List Nat
 | _, _, [] => []
 | nm, i, t :: ts => trN (sub nm i) t ++ Oy nm (i + 1) ts
end
theorem YY (nm : Nat) (vs : Nat → Nat) : ∀ (i : Nat) (ks : List Tr), (trP nm vs i ks).length = ks.length
 | _, [] => by rw [trP]; rfl
 | i, t :: ts => by rw [trP, List.length_cons, List.length_cons, YY nm vs (i + 1) ts]
theorem Tf (nm : Nat) (vs : Nat → Nat) : ∀ (i : Nat) (ks : List Tr) (j : Nat), (trP nm vs i ks)[j]? = (ks[j]?).map fun _ => .ptr (sub nm (i + j)) (vs (sub nm (i + j))) 0 0
 | _, [], j => by simp [trP]
 | i, t :: ts, 0 => by simp [trP]
 | i, t :: ts, j + 1 => by
  rw [trP, List.getElem?_cons_succ, List.getElem?_cons_succ, Tf nm vs (i + 1) ts j, show i + 1 + j = i + (j + 1) by omega]
theorem O4 {nm : Nat} {vs : Nat → Nat} : ∀ {i : Nat} {ks : List Tr} {p : Nat × Box}, p ∈ FO nm vs i ks → ∃ j, ∃ hj : j < ks.length, p ∈ trH (sub nm (i + j)) vs ks[j]
 | i, [], p, h => by rw [FO] at h; cases h
 | i, e :: r, p, h => by
  rw [FO] at h
  rcases List.mem_append.1 h with h | h
  ·exact ⟨0, by simp, by simpa using h⟩
  ·obtain ⟨j, hj, h⟩ := O4 h
   exact ⟨j + 1, by simpa using hj, by rw [show i + (j + 1) = i + 1 + j by omega]; simpa using h⟩
theorem XC {ks : List Tr} (h : ∀ k ∈ ks, ∀ nm vs, (trH nm vs k).map Prod.fst = trN nm k) : ∀ nm vs i, (FO nm vs i ks).map Prod.fst = Oy nm i ks := by
 induction ks with
 | nil => intro nm vs i; rw [FO, Oy]; rfl
 | cons k ks ih => intro nm vs i; rw [FO, Oy, List.map_append, h k (by simp), ih fun k hk => h k (by simp [hk])]
theorem Rh : ∀ (t : Tr) (nm : Nat) (vs : Nat → Nat), (trH nm vs t).map Prod.fst = trN nm t := Tr.ind fun n ks ih nm vs => by
 rw [trH, trN]
 simp only [List.map_append, XC ih, OVal.names, List.map_cons, List.map_nil]
theorem Tg {ks : List Tr} (h : ∀ k ∈ ks, ∀ nm q, q ∈ trN nm k → InT nm q) : ∀ {nm i q}, q ∈ Oy nm i ks → ∃ j, i ≤ j ∧ InT (sub nm j) q := by
 induction ks with
 | nil => intro nm i q hq; rw [Oy] at hq; cases hq
 | cons k ks ih =>
  intro nm i q hq
  rw [Oy] at hq
  rcases List.mem_append.1 hq with hq | hq
  ·exact ⟨i, Nat.le_refl _, h k (by simp) _ _ hq⟩
  ·obtain ⟨j, h1, h2⟩ := ih (fun k hk => h k (by simp [hk])) hq
   exact ⟨j, by omega, h2⟩
theorem O3 : ∀ (t : Tr) (nm q : Nat), q ∈ trN nm t → InT nm q := Tr.ind fun n ks ih nm q hq => by
 rw [trN] at hq
 rcases List.mem_append.1 hq with hq | hq
 ·rcases List.mem_append.1 hq with hq | hq
  ·obtain ⟨j, _, h⟩ := Tg ih hq
   exact h.up.up
  ·rw [List.mem_singleton.1 hq]; exact .sub 0 .root
 ·rcases List.mem_append.1 hq with hq | hq
  ·exact (OVal.inn _ _ _ hq).up
  ·rw [List.mem_singleton.1 hq]; exact .root
theorem Acp {t : Tr} {nm : Nat} {vs : Nat → Nat} {p : Nat × Box} (h : p ∈ trH nm vs t) : InT nm p.1 := O3 t nm p.1 (by rw [← Rh t nm vs]; exact List.mem_map_of_mem h)
theorem OG {ks : List Tr} {nm i : Nat} {vs : Nat → Nat} {p : Nat × Box} (h : p ∈ FO nm vs i ks) : ∃ j, i ≤ j ∧ InT (sub nm j) p.1 := by
 obtain ⟨j, hj, hm⟩ := O4 h
 exact ⟨i + j, by omega, Acp hm⟩
theorem Abd {ks : List Tr} (h : ∀ k ∈ ks, ∀ nm vs, AR (trH nm vs k) (trH nm vs k)) : ∀ nm vs i, AR (FO nm vs i ks) (FO nm vs i ks) := by
 induction ks with
 | nil => intro nm vs i; rw [FO]; trivial
 | cons k ks ih =>
  intro nm vs i
  rw [FO]
  refine Lg (h k (by simp) _ _) (ih (fun k hk => h k (by simp [hk])) _ _ _) fun p hp q hq e => ?_
  obtain ⟨j, h1, h2⟩ := OG hp
  have h3 := Acp hq
  rw [e] at h3
  have := h3.sib h2
  omega
theorem Vw (p : Nat × Box) : AR [p] [p] := ⟨by simp [Ao], trivial⟩
theorem Acn : ∀ (t : Tr) (nm : Nat) (vs : Nat → Nat), AR (trH nm vs t) (trH nm vs t) := Tr.ind fun n ks ih nm vs => by
 rw [trH]
 refine Lg (Lg (Abd ih _ _ _) (Vw _) fun p hp q hq e => ?_) (Lg (OVal.self _ _ _) (Vw _) fun p hp q hq e => ?_) fun p hp q hq e => ?_
 ·rw [List.mem_singleton.1 hp] at e
  obtain ⟨j, _, h⟩ := OG hq
  exact h.ne e
 ·rw [List.mem_singleton.1 hp] at e
  exact (OVal.inh hq).ne e
 ·have h0 : InT (sub nm 0) q.1 := by
   rcases List.mem_append.1 hq with hq | hq
   ·obtain ⟨j, _, h⟩ := OG hq; exact h.up
   ·rw [List.mem_singleton.1 hq]; exact .root
  rcases List.mem_append.1 hp with hp | hp
  ·rw [e] at h0
   exact Dn (by omega) h0 (OVal.inh hp)
  ·rw [List.mem_singleton.1 hp] at e
   exact h0.ne e
theorem Uj {nm : Nat} {vs vs' : Nat → Nat} (h : ∀ k, InT nm k → vs k = vs' k) : ∀ (i : Nat) (ks : List Tr), trP nm vs i ks = trP nm vs' i ks
 | _, [] => by rw [trP, trP]
 | i, t :: ts => by rw [trP, trP, h _ (.sub i .root), Uj h (i + 1) ts]
theorem Abc {ks : List Tr} (hh : ∀ k ∈ ks, ∀ nm (vs vs' : Nat → Nat), (∀ q, InT nm q → vs q = vs' q) → trH nm vs k = trH nm vs' k) : ∀ nm (vs vs' : Nat → Nat) i, (∀ q, InT nm q → vs q = vs' q) → FO nm vs i ks = FO nm vs' i ks := by
 induction ks with
 | nil => intro nm vs vs' i h; rw [FO, FO]
 | cons k ks ih =>
  intro nm vs vs' i h
  rw [FO, FO, hh k (by simp) _ vs vs' (fun q hq => h q hq.up), ih (fun k hk => hh k (by simp [hk])) nm vs vs' (i + 1) h]
theorem Acm : ∀ (t : Tr) (nm : Nat) (vs vs' : Nat → Nat), (∀ q, InT nm q → vs q = vs' q) → trH nm vs t = trH nm vs' t := Tr.ind fun n ks ih nm vs vs' h => by
 have hb := OVal.FN (sub nm 1) vs vs' n.Ae (fun q hq => h q hq.up)
 rw [trH, trH, Abc ih _ vs vs' 0 (fun q hq => h q hq.up), Uj (fun q hq => h q hq.up), hb.2, h nm .root, h _ (.sub 0 .root), h _ (.sub 1 .root)]
theorem ZB {nm v : Nat} {hp hp' : Hp} (h : Ao hp nm = Ao hp' nm) : (AV.ptr nm v 0 0).pur hp = (AV.ptr nm v 0 0).pur hp' := by simp only [AV.pur, AV.B5, h]
theorem Abe {ks : List Tr} (hh : ∀ k ∈ ks, ∀ nm (vs : Nat → Nat) hp, AR hp (trH nm vs k) → (AV.ptr nm (vs nm) 0 0).pur (BZ (trN nm k) hp) = av k) : ∀ nm (vs : Nat → Nat) i hp, AR hp (FO nm vs i ks) → (trP nm vs i ks).map (AV.pur (BZ (Oy nm i ks) hp)) = ks.map av := by
 induction ks with
 | nil => intro nm vs i hp h; rw [trP]; rfl
 | cons k ks ih =>
  intro nm vs i hp h
  rw [FO, AF] at h
  rw [trP, Oy, List.map_cons, D5]
  have h1 := hh k (by simp) (sub nm i) vs hp h.1
  have h2 := ih (fun k hk => hh k (by simp [hk])) nm vs (i + 1) (BZ (trN (sub nm i) k) hp) (I5 (fun p hp' hm => by
   obtain ⟨j, hj, h3⟩ := OG hp'
   have := (O3 _ _ _ hm).sib h3
   omega) h.2)
  rw [h2, List.map_cons, ← h1]
  congr 1
  refine ZB ?_
  rw [BJ]
  intro hm
  obtain ⟨j, hj, h3⟩ := Tg (fun k _ nm q => O3 k nm q) hm
  have := h3.sib (i := j) (j := i) .root
  omega
theorem Aco : ∀ (t : Tr) (nm : Nat) (vs : Nat → Nat) (hp : Hp), AR hp (trH nm vs t) → (AV.ptr nm (vs nm) 0 0).pur (BZ (trN nm t) hp) = av t := Tr.ind fun n ks ih nm vs hp h => by
 rw [trH, AF, AF, AF] at h
 obtain ⟨⟨h1, h2⟩, h3, h4⟩ := h
 obtain ⟨bK, hbK⟩ : ∃ b : Box, b = ⟨vs (sub nm 0), false, 55, 1, trP (sub nm 0) vs 0 ks⟩ := ⟨_, rfl⟩
 obtain ⟨bB, hbB⟩ : ∃ b : Box, b = ⟨vs nm, false, 102, 6, [exB n (sub nm 0) (vs (sub nm 0)) ks.length (sub nm 1) (vs (sub nm 1))]⟩ := ⟨_, rfl⟩
 have hK : Ao hp (sub nm 0) = some bK := by rw [hbK]; exact h2.1
 have hB : Ao hp nm = some bB := by rw [hbB]; exact h4.1
 have l1 := Abe ih (sub nm 0) vs 0 hp h1
 have n1 : ∀ q, InT (sub nm 1) q ∨ q = nm ∨ q = sub nm 0 → q ∉ Oy (sub nm 0) 0 ks := fun q hq hm => by
  obtain ⟨j, hj, h5⟩ := Tg (fun k _ nm q => O3 k nm q) hm
  rcases hq with hq | hq | hq
  ·exact Dn (by omega) h5.up hq
  ·exact h5.up.ne hq
  ·exact h5.ne hq
 rw [trN, D5, D5, D5, EX, I7, EX, I7]
 obtain ⟨H1, hH1⟩ : ∃ H1, H1 = BZ (Oy (sub nm 0) 0 ks) hp := ⟨_, rfl⟩
 have hK1 : Ao H1 (sub nm 0) = some bK := by rw [hH1, BJ (n1 _ (.inr (.inr rfl)))]; exact hK
 have hB1 : Ao H1 nm = some bB := by rw [hH1, BJ (n1 _ (.inr (.inl rfl)))]; exact hB
 have h31 : AR H1 (oh (sub nm 1) vs n.Ae) := by rw [hH1]; exact I5 (fun p hp hm => n1 _ (.inl (OVal.inh hp)) hm) h3
 rw [← hH1] at l1 ⊢
 clear hH1 h1 h2 h3 h4 hK hB
 obtain ⟨H2, hH2⟩ : ∃ H2, H2 = Gs H1 (sub nm 0) := ⟨_, rfl⟩
 have hK2 : Ao H2 (sub nm 0) = some ⟨vs (sub nm 0), true, 55, 1, ks.map av⟩ := by rw [hH2, Gs, hK1, hbK, ← l1]; exact BH
 have hne : sub nm 0 ≠ nm := fun e => (InT.root (nm := sub nm 0)).ne e
 have hB2 : Ao H2 nm = some bB := by rw [hH2, Jp hne]; exact hB1
 have h32 : AR H2 (oh (sub nm 1) vs n.Ae) := by
  rw [hH2]
  exact AL.2 fun p hp => by rw [Jp (fun e => Dn (i := 0) (j := 1) (by omega) .root (e ▸ OVal.inh hp))]; exact AL.1 h31 p hp
 rw [← hH2]
 clear hH2 h31 hK1 hB1 l1 H1
 have l3 := OVal.HW (sub nm 1) vs n.Ae H2 h32
 obtain ⟨H3, hH3⟩ : ∃ H3, H3 = BZ (on (sub nm 1) n.Ae) H2 := ⟨_, rfl⟩
 have hK3 : Ao H3 (sub nm 0) = some ⟨vs (sub nm 0), true, 55, 1, ks.map av⟩ := by rw [hH3, BJ (Gm (Dn (i := 0) (j := 1) (by omega) .root))]; exact hK2
 have hB3 : Ao H3 nm = some bB := by rw [hH3, BJ (Gm fun h => h.ne rfl)]; exact hB2
 rw [← hH3] at l3 ⊢
 clear hH3 h32 hK2 hB2
 rw [DJ] at l3
 have e1 : (AV.row (sub nm 0) (vs (sub nm 0)) ks.length).B5 H3 = .sl (ks.map av) := by
  simp only [AV.B5, hK3]
  rw [if_pos (by simp), List.take_of_length_le (by simp)]
 have e2 : (AV.row (sub nm 1) (vs (sub nm 1)) n.Ae.length).B5 H3 = .sl (n.Ae.map av) := l3
 have e4 : (AV.ptr nm (vs nm) 0 0).pur (Gs H3 nm) = .obj ((exB n (sub nm 0) (vs (sub nm 0)) ks.length (sub nm 1) (vs (sub nm 1))).pur H3).cells := by
  simp only [AV.pur, AV.B5, Gs, hB3, hbB, BH]
  rw [if_pos (by simp)]
  rfl
 rw [e4, FL, exB]
 simp only [AV.pur, List.map_cons, List.map_nil, e1, e2, AV.cells]
 rfl
theorem Abf {ks : List Tr} (h : ∀ k ∈ ks, ∀ nm vs, ∀ p ∈ trH nm vs k, p.2.frz = false ∧ ∀ e ∈ p.2.es, ∀ x ∈ e.cells, x.GS = true) : ∀ nm vs i, ∀ p ∈ FO nm vs i ks, p.2.frz = false ∧ ∀ e ∈ p.2.es, ∀ x ∈ e.cells, x.GS = true := fun nm vs i p hp => by
 obtain ⟨j, hj, hm⟩ := O4 hp
 exact h _ (List.getElem_mem hj) _ _ p hm
theorem Acq : ∀ (t : Tr) (nm : Nat) (vs : Nat → Nat), ∀ p ∈ trH nm vs t, p.2.frz = false ∧ ∀ e ∈ p.2.es, ∀ x ∈ e.cells, x.GS = true := Tr.ind fun n ks ih nm vs p hp => by
 rw [trH] at hp
 rcases List.mem_append.1 hp with hp | hp
 ·rcases List.mem_append.1 hp with hp | hp
  ·exact Abf ih _ _ _ p hp
  ·rw [List.mem_singleton.1 hp]
   refine ⟨rfl, fun e he x hx => ?_⟩
   obtain ⟨j, hj⟩ := List.getElem?_of_mem he
   rw [Tf, Option.map_eq_some_iff] at hj
   obtain ⟨_, _, rfl⟩ := hj
   simp only [AV.cells, List.mem_singleton] at hx
   subst hx; rfl
 ·rcases List.mem_append.1 hp with hp | hp
  ·exact OVal.free _ _ _ p hp
  ·rw [List.mem_singleton.1 hp]
   refine ⟨rfl, fun e he x hx => ?_⟩
   simp only [List.mem_singleton] at he
   subst he
   simp only [exB, AV.cells, List.mem_cons, List.not_mem_nil, or_false] at hx
   rcases hx with rfl | rfl | rfl | rfl | rfl | rfl <;> rfl
instance : OVal Tr where
 ty := 55
 ov nm vs _ := .ptr nm (vs nm) 0 0
 oh nm vs t := trH nm vs t
 on nm t := trN nm t
 names nm vs t := Rh t nm vs
 inn nm t k h := O3 t nm k h
 self nm vs t := Acn t nm vs
 FN nm vs vs' t h := ⟨by rw [h nm .root], Acm t nm vs vs' h⟩
 HW nm vs t hp h := Aco t nm vs hp h
 dep nm vs t hp hp' h := ZB (h nm .root)
 free nm vs t p h := Acq t nm vs p h
 J2 nm vs t x hx := by simp only [AV.cells, List.mem_singleton] at hx; subst hx; rfl
 ok _ _ _ := rfl
 agg nm vs t := by obtain ⟨n, ks⟩ := t; rw [FL]; rfl
 len _ _ _ := rfl
theorem AD (nm : Nat) (vs : Nat → Nat) (t : Tr) : ov nm vs t = .ptr nm (vs nm) 0 0 := eqq rfl
theorem X3 (nm : Nat) (vs : Nat → Nat) : ∀ (i : Nat) (ks : List Tr), ovL nm vs i ks = trP nm vs i ks
 | _, [] => by rw [trP]; rfl
 | i, t :: ts => by rw [trP, ovL, X3 nm vs (i + 1) ts]; rfl
theorem Ac5 (nm : Nat) (vs : Nat → Nat) : ∀ (i : Nat) (ks : List Tr), ohL nm vs i ks = FO nm vs i ks
 | _, [] => by rw [FO]; rfl
 | i, t :: ts => by rw [FO, ohL, Ac5 nm vs (i + 1) ts]; rfl
theorem N5 (nm : Nat) (vs : Nat → Nat) (n : Node) (ks : List Tr) : oh nm vs (Tr.mk n ks) = oh (sub nm 0) vs ks ++ (oh (sub nm 1) vs n.Ae ++ [(nm, ⟨vs nm, false, 102, 6, [exB n (sub nm 0) (vs (sub nm 0)) ks.length (sub nm 1) (vs (sub nm 1))]⟩)]) := by
 show trH nm vs (.mk n ks) = _
 rw [trH, Cn (sub nm 0) vs ks, Ac5, Gg, X3]; rfl
theorem Cf {H : Hp} {nm : Nat} {vs : Nat → Nat} {t : Tr} (h : AR H (oh nm vs t)) : ∃ es, Ao H nm = some ⟨vs nm, false, 102, 6, es⟩ := by
 obtain ⟨n, ks⟩ := t
 rw [N5, AF, AF] at h
 exact ⟨_, h.2.2.1⟩
instance : ORn Bg where
 cel nm nm' N vs y := .cons (.Hf _ rfl) (.cons (.Hf _ rfl) (.cons (.Hf _ rfl) (.cons (.row _ _ _ (.sub 0 .root)) .nil)))
 bx nm nm' N vs y p h := AdU (α := List Int) (i := 0) h
instance : ORn Pat where
 cel nm nm' N vs y := .cons (.row _ _ _ (.sub 0 .root)) .nil
 bx nm nm' N vs y p h := AdU (α := List Bg) (i := 0) h
def BxR (nm nm' N : Nat) (vs : Nat → Nat) (a b : Hp) : Prop := ∀ p' ∈ b, ∃ p ∈ a, Pth nm nm' p.1 p'.1 ∧ p.2.ver = vs p.1 ∧ p'.2.ver = N ∧ p.2.ty = p'.2.ty ∧ p.2.esz = p'.2.esz ∧ p.2.es.length = p'.2.es.length ∧
  ∀ (i : Nat) (e' : AV), p'.2.es[i]? = some e' → ∃ e, p.2.es[i]? = some e ∧ NM nm nm' vs N e.cells e'.cells
theorem BxR.down {nm nm' N i : Nat} {vs : Nat → Nat} {a b : Hp} (h : BxR (sub nm i) (sub nm' i) N vs a b) : BxR nm nm' N vs a b := fun p' hp' => by
 obtain ⟨p, hp, h1, h2, h3, h4, h5, h6, h7⟩ := h p' hp'
 exact ⟨p, hp, h1.down, h2, h3, h4, h5, h6, fun i e' he => let ⟨e, a, b⟩ := h7 i e' he; ⟨e, a, b.down⟩⟩
theorem BxR.app {nm nm' N : Nat} {vs : Nat → Nat} {a b c d : Hp} (h1 : BxR nm nm' N vs a b) (h2 : BxR nm nm' N vs c d) : BxR nm nm' N vs (a ++ c) (b ++ d) := fun p' hp' => by
 rcases List.mem_append.1 hp' with h | h
 ·obtain ⟨p, hp, q⟩ := h1 p' h; exact ⟨p, List.mem_append_left _ hp, q⟩
 ·obtain ⟨p, hp, q⟩ := h2 p' h; exact ⟨p, List.mem_append_right _ hp, q⟩
theorem Aer {ks : List Tr} {N : Nat} {vs : Nat → Nat} (h : ∀ k ∈ ks, ∀ nm nm', BxR nm nm' N vs (trH nm vs k) (trH nm' (fun _ => N) k)) : ∀ nm nm' i, BxR nm nm' N vs (FO nm vs i ks) (FO nm' (fun _ => N) i ks) := by
 induction ks with
 | nil => intro nm nm' i p hp; rw [FO] at hp; cases hp
 | cons k ks ih =>
  intro nm nm' i
  rw [FO, FO]
  exact (h k (by simp) _ _).down.app (ih (fun k hk => h k (by simp [hk])) _ _ _)
theorem Afr (N : Nat) (vs : Nat → Nat) : ∀ (t : Tr) (nm nm' : Nat), BxR nm nm' N vs (trH nm vs t) (trH nm' (fun _ => N) t) := Tr.ind fun n ks ih nm nm' => by
 rw [trH, trH]
 refine BxR.app (BxR.app (Aer ih _ _ _).down ?_) (BxR.app (BxR.down (i := 1) (fun p hp => ORn.bx _ _ N vs n.Ae p hp)) ?_)
 ·intro p' hp'
  rw [List.mem_singleton.1 hp']
  refine ⟨_, List.mem_singleton.2 rfl, .sub 0 .root, rfl, rfl, rfl, rfl, by simp [YY], fun i e' he => ?_⟩
  simp only [Tf, Option.map_eq_some_iff] at he ⊢
  obtain ⟨a, ha, rfl⟩ := he
  exact ⟨_, ⟨a, ha, rfl⟩, .cons (.ptr _ _ _ _ (.sub _ (.sub 0 .root))) .nil⟩
 ·intro p' hp'
  rw [List.mem_singleton.1 hp']
  refine ⟨_, List.mem_singleton.2 rfl, .root, rfl, rfl, rfl, rfl, rfl, fun i e' he => ?_⟩
  cases i with
  | zero =>
   simp only [List.getElem?_cons_zero, Option.some.injEq] at he
   subst he
   exact ⟨_, rfl, .cons (.Hf _ rfl) (.cons (.Hf _ rfl) (.cons (.Hf _ rfl) (.cons (.Hf _ rfl) (.cons (.row _ _ _ (.sub 0 .root)) (.cons (.row _ _ _ (.sub 1 .root)) .nil)))))⟩
  | succ i => simp at he
instance : ORn Tr where
 cel nm nm' N vs y := .cons (.ptr _ _ _ _ .root) .nil
 bx nm nm' N vs y := Afr N vs y nm nm'
end Go.Proofs.YtppjinmlfcokaaaGreat
