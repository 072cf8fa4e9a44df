/-
 ALL OWN ROWS OF A VALUE GET OTHER NAMES. Conditions: none.
-/
import Derived.Test.YtppjinmlfcokaaaGreatJAvRen
set_option linter.unusedVariables false
set_option linter.unusedSimpArgs false
namespace Go.Proofs.YtppjinmlfcokaaaGreat.Av
open Go.RowKit
open AVal (av)
open OVal (ov oh on)

inductive Pth (nm nm' : Nat) : Nat → Nat → Prop where
 | root : Pth nm nm' nm nm'
 | sub {k k' : Nat} (i : Nat) (h : Pth nm nm' k k') : Pth nm nm' (Av.sub k i) (Av.sub k' i)
theorem Pth.l {nm nm' k k' : Nat} (h : Pth nm nm' k k') : InT nm k := by
 induction h with
 | root => exact .root
 | sub i _ ih => exact .sub i ih
theorem Pth.r {nm nm' k k' : Nat} (h : Pth nm nm' k k') : InT nm' k' := by
 induction h with
 | root => exact .root
 | sub i _ ih => exact .sub i ih
theorem Pth.flip {nm nm' k k' : Nat} (h : Pth nm nm' k k') : Pth nm' nm k' k := by
 induction h with
 | root => exact .root
 | sub i _ ih => exact .sub i ih
theorem Pth.down {nm nm' i k k' : Nat} (h : Pth (Av.sub nm i) (Av.sub nm' i) k k') : Pth nm nm' k k' := by
 induction h with
 | root => exact .sub i .root
 | sub j _ ih => exact .sub j ih
theorem Pth.inj {nm nm' k k1 : Nat} (h : Pth nm nm' k k1) : ∀ {k2 : Nat}, Pth nm nm' k k2 → k1 = k2 := by
 induction h with
 | root =>
  intro k2 h2
  generalize hk : nm = k at h2
  cases h2 with
  | root => rfl
  | sub i h2 => rename_i p p'; have h3 := h2.l.le; have := Ek p i; omega
 | sub i h ih =>
  rename_i p p'
  intro k2 h2
  generalize hk : Av.sub p i = k at h2
  cases h2 with
  | root => have h3 := h.l.le; have := Ek p i; omega
  | sub j h2 =>
   obtain ⟨e1, e2⟩ := Em hk
   subst e1 e2
   rw [ih h2]
theorem Pth.Aef {nm nm' k1 k2 k' : Nat} (h : Pth nm nm' k1 k') (h2 : Pth nm nm' k2 k') : k1 = k2 := h.flip.inj h2.flip
inductive Kr (R : Nat → Nat → Prop) (vs : Nat → Nat) (N : Nat) : AV → AV → Prop where
 | Ha (x : AV) (h : x.Hu = true) : Kr R vs N x x
 | row (k k' n : Nat) (h : R k k') : Kr R vs N (.row k (vs k) n) (.row k' N n)
 | ptr (k k' i o : Nat) (h : R k k') : Kr R vs N (.ptr k (vs k) i o) (.ptr k' N i o)
theorem Kr.mono {R R' : Nat → Nat → Prop} {vs vs' : Nat → Nat} {N : Nat} {x x' : AV} (hR : ∀ k k', R k k' → R' k k' ∧ vs k = vs' k) (h : Kr R vs N x x') : Kr R' vs' N x x' := by
 cases h with
 | Ha _ h => exact .Ha _ h
 | row k k' n h => rw [(hR _ _ h).2]; exact .row k k' n (hR _ _ h).1
 | ptr k k' i o h => rw [(hR _ _ h).2]; exact .ptr k k' i o (hR _ _ h).1
inductive Fb (R : Nat → Nat → Prop) (vs : Nat → Nat) (N : Nat) : List AV → List AV → Prop where
 | nil : Fb R vs N [] []
 | cons {x x' : AV} {l l' : List AV} (h : Kr R vs N x x') (t : Fb R vs N l l') : Fb R vs N (x :: l) (x' :: l')
abbrev NY (nm nm' : Nat) := Fb (Pth nm nm')
theorem Fb.mono {R R' : Nat → Nat → Prop} {vs vs' : Nat → Nat} {N : Nat} {l l' : List AV} (hR : ∀ k k', R k k' → R' k k' ∧ vs k = vs' k) (h : Fb R vs N l l') : Fb R' vs' N l l' := by
 induction h with
 | nil => exact .nil
 | cons h _ ih => exact .cons (h.mono hR) ih
theorem Fb.down {nm nm' i N : Nat} {vs : Nat → Nat} {l l' : List AV} (h : NY (Av.sub nm i) (Av.sub nm' i) vs N l l') : NY nm nm' vs N l l' := Fb.mono (fun _ _ h => ⟨h.down, rfl⟩) h
theorem Fb.len {R : Nat → Nat → Prop} {N : Nat} {vs : Nat → Nat} {l l' : List AV} (h : Fb R vs N l l') : l.length = l'.length := by
 induction h with
 | nil => rfl
 | cons _ _ ih => simp [ih]
theorem Fb.get {R : Nat → Nat → Prop} {N : Nat} {vs : Nat → Nat} {l l' : List AV} (h : Fb R vs N l l') : ∀ (j : Nat) (x' : AV), l'[j]? = some x' → ∃ x, l[j]? = some x ∧ Kr R vs N x x' := by
 induction h with
 | nil => intro j x' h; simp at h
 | cons h _ ih =>
  intro j x' hj
  cases j with
  | zero => simp at hj; subst hj; exact ⟨_, rfl, h⟩
  | succ j => simpa using ih j x' (by simpa using hj)
theorem Kr.one {R : Nat → Nat → Prop} {N : Nat} {vs : Nat → Nat} {x x' : AV} (h : Kr R vs N x x') : x'.one = true := by
 cases h with
 | Ha _ h => cases x <;> first | rfl | (simp [AV.Hu] at h)
 | row => rfl
 | ptr => rfl
theorem VR.AfS {S : Nat → Prop} {w : World} {μ μ' : Mu} {u : Value} {j v k v' n : Nat} (h : VR S w μ u (.row j v n)) (e : μ' k v' = μ j v) : VR S w μ' u (.row k v' n) := by
 cases h with
 | row _ _ _ bl cap esz h1 h2 h3 => exact .row k v' n _ _ _ (e.trans h1) h2 h3
 | Iz _ _ cap esz h1 => exact .Iz k v' _ _ (e.trans h1)
theorem Kr.vr {R : Nat → Nat → Prop} {N : Nat} {vs : Nat → Nat} {x x' : AV} (h : Kr R vs N x x') {S : Nat → Prop} {w : World} {μ μ' : Mu} (hμ : ∀ k k', R k k' → μ' k' N = μ k (vs k)) {v : Value} (hv : VR S w μ v x) : VR S w μ' v x' := by
 cases h with
 | Ha _ h => exact hv.Hu h
 | row k k' n h => exact hv.AfS (hμ k k' h)
 | ptr k k' i o h =>
  have e := hμ k k' h
  cases hv with
  | ptr _ _ _ _ b cap esz h1 => exact .ptr k' N i o b cap esz (e.trans h1)
class ORn (α : Type) [AVal α] [OVal α] : Prop where
 cel : ∀ (nm nm' N : Nat) (vs : Nat → Nat) (y : α), NY nm nm' vs N (ov nm vs y).cells (ov nm' (fun _ => N) y).cells
 bx : ∀ (nm nm' N : Nat) (vs : Nat → Nat) (y : α), ∀ p' ∈ oh nm' (fun _ => N) y, ∃ p ∈ oh nm vs y, Pth nm nm' p.1 p'.1 ∧ p.2.ver = vs p.1 ∧ p'.2.ver = N ∧ p.2.ty = p'.2.ty ∧ p.2.esz = p'.2.esz ∧ p.2.es.length = p'.2.es.length ∧
  ∀ (i : Nat) (e' : AV), p'.2.es[i]? = some e' → ∃ e, p.2.es[i]? = some e ∧ NY nm nm' vs N e.cells e'.cells
instance : ORn Int := ⟨fun nm nm' N vs y => .cons (.Ha _ rfl) .nil, fun nm nm' N vs y p h => by cases h⟩
section
variable {α : Type} [AVal α] [OVal α] [ORn α]
theorem Ado {nm nm' N i : Nat} {vs : Nat → Nat} {y : α} {p' : Nat × Box} (h : p' ∈ oh (Av.sub nm' i) (fun _ => N) y) : ∃ p ∈ oh (Av.sub nm i) vs y, Pth nm nm' p.1 p'.1 ∧ p.2.ver = vs p.1 ∧ p'.2.ver = N ∧ p.2.ty = p'.2.ty ∧ p.2.esz = p'.2.esz ∧ p.2.es.length = p'.2.es.length ∧
  ∀ (i : Nat) (e' : AV), p'.2.es[i]? = some e' → ∃ e, p.2.es[i]? = some e ∧ NY nm nm' vs N e.cells e'.cells := by
 obtain ⟨p, hp, h1, h2, h3, h4, h5, h6, h7⟩ := ORn.bx (Av.sub nm i) (Av.sub nm' i) N vs y p' h
 exact ⟨p, hp, h1.down, h2, h3, h4, h5, h6, fun i e' he => let ⟨e, a, b⟩ := h7 i e' he; ⟨e, a, b.down⟩⟩
instance : ORn (List α) where
 cel nm nm' N vs l := by
  rw [AJ, AJ]
  exact .cons (.row nm nm' l.length .root) .nil
 bx nm nm' N vs l p' h := by
  rw [B8] at h
  rw [B8]
  rcases List.mem_append.1 h with h | h
  ·obtain ⟨j, hj, hm⟩ := GC h
   rw [Nat.zero_add] at hm
   obtain ⟨p, hp, h1⟩ := Ado (nm := nm) (vs := vs) hm
   exact ⟨p, List.mem_append_left _ (MQ j hj (by rw [Nat.zero_add]; exact hp)), h1⟩
  ·rw [List.mem_singleton.1 h]
   refine ⟨(nm, Dv nm vs l), List.mem_append_right _ (List.mem_singleton.2 rfl), .root, rfl, rfl, rfl, rfl, by simp [Dv, B2], fun i e' he => ?_⟩
   simp only [Dv, GL, Option.map_eq_some_iff] at he ⊢
   obtain ⟨a, ha, rfl⟩ := he
   exact ⟨_, ⟨a, ha, rfl⟩, (ORn.cel _ _ N vs a).down⟩
theorem Ae8 {R : Nat → Nat → Prop} (vs : Nat → Nat) (N : Nat) (μ : Mu) (hr : ∀ k1 k2 k', R k1 k' → R k2 k' → k1 = k2) : ∃ μ' : Mu, (∀ k k', R k k' → μ' k' N = μ k (vs k)) ∧ ∀ k v, v ≠ N → μ' k v = μ k v := by
 classical
 refine ⟨fun k v => if v = N then (if h : ∃ k0, R k0 k then μ h.choose (vs h.choose) else none) else μ k v, fun k k' h => ?_, fun k v h => if_neg h⟩
 have hx : ∃ k0, R k0 k' := ⟨k, h⟩
 dsimp only
 rw [if_pos rfl, dif_pos hx, hr _ _ _ hx.choose_spec h]
theorem Ud {R : Nat → Nat → Prop} {N : Nat} {vs : Nat → Nat} {x x' : AV} (ha : x.isAgg = x'.isAgg) (h : Fb R vs N x.cells x'.cells) {S : Nat → Prop} {w : World} {μ μ' : Mu} (hμ : ∀ k k', R k k' → μ' k' N = μ k (vs k)) {v : Value} (hv : VR S w μ v x) : VR S w μ' v x' := by
 by_cases hq : x.isAgg = true
 ·rw [hq] at ha
  cases x <;> simp [AV.isAgg] at hq
  cases x' <;> simp [AV.isAgg] at ha
  rename_i cs cs'
  simp only [AV.cells] at h
  cases hv with
  | agg va _ hl h1 hh =>
   refine .agg va cs' (hl.trans h.len) (fun y hy => ?_) (fun i v y a b => ?_)
   ·obtain ⟨j, hj⟩ := List.getElem?_of_mem hy
    obtain ⟨z, _, hz⟩ := h.get j y hj
    exact hz.one
   ·obtain ⟨z, hz1, hz2⟩ := h.get i y b
    exact hz2.vr hμ (hh i v z a hz1)
 ·have hq' : ¬ x'.isAgg = true := by rw [← ha]; exact hq
  have e1 : x.cells = [x] := by cases x <;> first | rfl | (simp [AV.isAgg] at hq)
  have e2 : x'.cells = [x'] := by cases x' <;> first | rfl | (simp [AV.isAgg] at hq')
  rw [e1, e2] at h
  cases h with
  | cons h _ => exact h.vr hμ hv
theorem Af.Aft {s : St} {T : St → Prop} (R : Nat → Nat → Prop) (vs : Nat → Nat) (hl : ∀ k k1 k2, R k k1 → R k k2 → k1 = k2) (hr : ∀ k1 k2 k', R k1 k' → R k2 k' → k1 = k2) (ns : List Nat) (A : Hp) (B : Nat → Hp) (F : Nat → List (Nat × AV)) (hp : Ax s.hp A) (hA : ∀ p ∈ A, p.1 ∈ ns ∧ p.2.frz = false)
  (hBB : ∀ N, ∀ p' ∈ B N, p'.2.frz = false ∧ ∃ p ∈ A, R p.1 p'.1 ∧ p.2.ver = vs p.1 ∧ p'.2.ver = N ∧ p.2.ty = p'.2.ty ∧ p.2.esz = p'.2.esz ∧ p.2.es.length = p'.2.es.length ∧ ∀ (i : Nat) (e' : AV), p'.2.es[i]? = some e' → ∃ e, p.2.es[i]? = some e ∧ Fb R vs N e.cells e'.cells)
  (hF : ∀ (N : Nat) (S : Nat → Prop) (w : World) (μ μ' : Mu) (a : Nat → Value), (∀ k k', R k k' → μ' k' N = μ k (vs k)) → Mu.le μ μ' → (∀ t, VR S w μ (a t) (Bv s.fr t)) → ∀ t, VR S w μ' (a t) (Bv (F N) t))
  (h : ∀ N, Af ⟨F N, B N ++ B1 ns s.hp⟩ T) : Af s T := by
 refine ⟨?_⟩
 rintro E nt a w ⟨hd, hn, S, μ, hw, hf⟩
 obtain ⟨N, hN0, hN, hz⟩ := hw.fresh
 have hver : ∀ k bx, An s.hp k = some bx → bx.ver ≠ N := fun k bx hk e => by
  obtain ⟨B, hB, _⟩ := hw.box k bx hk
  rw [hN k bx.ver (by omega)] at hB
  cases hB
 obtain ⟨μ', hμ, muO⟩ := Ae8 vs N μ hr
 have hle : Mu.le μ (μ') := fun k v b hb => by
  rw [muO _ _ (fun e => by rw [hN k v (by omega)] at hb; cases hb)]; exact hb
 have hold : ∀ k bx, An s.hp k = some bx → ∀ B, μ' k bx.ver = some B → μ k bx.ver = some B := fun k bx hk B hB => by
  rwa [muO _ _ (hver k bx hk)] at hB
 have split : ∀ k bx, An (B N ++ B1 (ns) s.hp) k = some bx → (k, bx) ∈ B N ∨ (k ∉ ns ∧ An s.hp k = some bx) := fun k bx hk => by
  rw [Qd] at hk
  cases hq : An (B N) k with
  | some b2 =>
   rw [hq] at hk
   simp only [Option.orElse_some, Option.some.injEq] at hk
   subst hk
   exact .inl (Yg hq)
  | none =>
   rw [hq] at hk
   simp only [Option.orElse_none] at hk
   rw [Ls] at hk
   split at hk
   ·cases hk
   ·rename_i hc
    exact .inr ⟨fun hm => hc (contains_iff.2 hm), hk⟩
 have Gt : ∀ p ∈ A, p.2.frz = false := fun p hp => (hA p hp).2
 have hfrz' : ∀ p ∈ B N, p.2.frz = false := fun p hp => (hBB N p hp).1
 have hons : ∀ p ∈ A, p.1 ∈ ns := fun p hp => (hA p hp).1
 refine (h N).run E nt a w ⟨hd, hn, S, μ', ⟨hw.ext, hw.lt, hw.base, hw.new, ⟨N + 1, by omega, fun k v hv => ?_, fun k B hB => ?_⟩, fun k bx hk => ?_, ?_, hw.le.trans hle⟩, ?_⟩
 ·rw [muO _ _ (by omega)]; exact hN k v (by omega)
 ·rw [muO _ _ (by omega)] at hB; exact hz k B hB
 ·rcases split k bx hk with hm | ⟨_, hk⟩
  ·obtain ⟨p, hpm, h1, h2, h3, h4, h5, h6, h7⟩ := (hBB N (k, bx) hm).2
   obtain ⟨B, hB, hz0, hh⟩ := hw.box p.1 p.2 (Az.1 hp p hpm)
   refine ⟨B, ?_, hz0.trans h5, ?_⟩
   ·simp only at h1 h3
    rw [h3, hμ _ _ h1, ← h2]; exact hB
   ·cases hbl : B.blk with
    | none =>
     rw [hbl] at hh
     simp only at hh ⊢
     have := h6
     rw [hh] at this
     exact List.eq_nil_of_length_eq_zero this.symm
    | some g =>
     rw [hbl] at hh
     obtain ⟨a1, a2, a3, cu, a4, a5, a6, a7, a8⟩ := hh
     have f1 := Gt p hpm
     have f2 := hfrz' _ hm
     refine ⟨fun _ => a1 f1, fun e => (by rw [f2] at e; cases e), fun _ => a3 f1, cu, h4 ▸ a4, a5, a6, h6 ▸ a7, fun e he => ?_, fun q j e x pe hx => ?_⟩
     ·obtain ⟨q, hq⟩ := List.getElem?_of_mem he
      obtain ⟨e0, he0, hc⟩ := h7 q e hq
      have ho := a8.1 e0 (CK he0)
      refine ⟨hc.len ▸ ho.1, fun x hx => ?_⟩
      obtain ⟨j, hj⟩ := List.getElem?_of_mem hx
      obtain ⟨z, _, hz⟩ := hc.get j x hj
      exact hz.one
     ·obtain ⟨e0, he0, hc⟩ := h7 q e pe
      obtain ⟨z, hz1, hz2⟩ := hc.get j x hx
      obtain ⟨v, hv1, hv2⟩ := a8.2 q j e0 z he0 hz1
      exact ⟨v, hv1, hz2.vr hμ hv2⟩
  ·obtain ⟨B0, h0, hz0, hh0⟩ := hw.box k bx hk
   refine ⟨B0, hle _ _ _ h0, hz0, ?_⟩
   cases hbl : B0.blk with
   | none => rw [hbl] at hh0; exact hh0
   | some g =>
    rw [hbl] at hh0
    obtain ⟨a1, a2, a3, cu, a4, a5, a6, a7, a8⟩ := hh0
    exact ⟨a1, a2, a3, cu, a4, a5, a6, a7, a8.mono (fun _ h => h) (BZ.refl _ _) hle⟩
 ·intro k k' bx bx' B B' g hk hk' hne hf1 hf2 hB hB' hbl
  rcases split k bx hk with hm | ⟨hno, hk⟩
  ·obtain ⟨p, hpm, h1, h2, h3, _⟩ := (hBB N (k, bx) hm).2
   simp only at h1 h3
   rw [h3, hμ _ _ h1, ← h2] at hB
   have g1 := Az.1 hp p hpm
   rcases split k' bx' hk' with hm' | ⟨hno', hk'⟩
   ·obtain ⟨p', hpm', h1', h2', h3', _⟩ := (hBB N (k', bx') hm').2
    simp only at h1' h3'
    rw [h3', hμ _ _ h1', ← h2'] at hB'
    have g1' := Az.1 hp p' hpm'
    exact hw.apart p.1 p'.1 p.2 p'.2 B B' g g1 g1' (fun e => hne (by rw [e] at h1; exact hl _ _ _ h1 h1')) (Gt p hpm) (Gt p' hpm') hB hB' hbl
   ·exact hw.apart p.1 k' p.2 bx' B B' g g1 hk' (fun e => hno' (e ▸ hons p hpm)) (Gt p hpm) hf2 hB (hold k' bx' hk' B' hB') hbl
  ·have hB2 := hold k bx hk B hB
   rcases split k' bx' hk' with hm' | ⟨hno', hk'⟩
   ·obtain ⟨p', hpm', h1', h2', h3', _⟩ := (hBB N (k', bx') hm').2
    simp only at h1' h3'
    rw [h3', hμ _ _ h1', ← h2'] at hB'
    have g1' := Az.1 hp p' hpm'
    exact hw.apart k p'.1 bx p'.2 B B' g hk g1' (fun e => hno (e ▸ hons p' hpm')) hf1 (Gt p' hpm') hB2 hB' hbl
   ·exact hw.apart k k' bx bx' B B' g hk hk' hne hf1 hf2 hB2 (hold k' bx' hk' B' hB') hbl
 ·exact hF N S w μ μ' _ hμ hle hf
theorem Af.AeR {s : St} {T : St → Prop} (i nm nm' : Nat) (y : α) {vs : Nat → Nat} (hi : Bv s.fr i = ov nm vs y) (hp : Ax s.hp (oh nm vs y)) (h : ∀ N, Af ⟨(i, ov nm' (fun _ => N) y) :: s.fr, oh nm' (fun _ => N) y ++ B1 (on nm y) s.hp⟩ T) : Af s T := by
 refine Af.Aft (Pth nm nm') vs (fun _ _ _ h1 h2 => h1.inj h2) (fun _ _ _ h1 h2 => h1.Aef h2) (on nm y) (oh nm vs y) (fun N => oh nm' (fun _ => N) y) (fun N => (i, ov nm' (fun _ => N) y) :: s.fr) hp (fun p hp => ⟨by rw [← OVal.names nm vs y]; exact List.mem_map_of_mem hp, (OVal.free nm vs y p hp).1⟩) (fun N p' hp' => ⟨(OVal.free nm' _ y p' hp').1, ORn.bx nm nm' N vs y p' hp'⟩) (fun N S w μ μ' a hμ hle hf => ?_) h
 refine L9 (fun t => (hf t).mono (fun _ h => h) (BZ.refl _ _) hle) ?_
 have hv := hf i
 rw [hi] at hv
 exact Ud ((OVal.agg nm vs y).trans (OVal.agg nm' _ y).symm) (ORn.cel nm nm' N vs y) hμ hv
theorem Ys {P : Go.Program} {f : FuncId} {args : List AV} {hp : Hp} (nm nm' : Nat) {y : α} (h : AU P f args hp (BW nm y)) : AU P f args hp (BW nm' y) := C9 h fun r hp' ⟨vs, e1, e2⟩ => by
 subst e1 e2
 refine Af.AeR 0 nm nm' y rfl (OVal.self nm vs y) fun N => ?_
 exact Af.le (t := ⟨[(0, ov nm' (fun _ => N) y)], oh nm' (fun _ => N) y⟩) ⟨fun _ => N, rfl, rfl⟩ (by simp [OR, Bv]) (Bz (OVal.self _ _ _))
end
end Go.Proofs.YtppjinmlfcokaaaGreat.Av
