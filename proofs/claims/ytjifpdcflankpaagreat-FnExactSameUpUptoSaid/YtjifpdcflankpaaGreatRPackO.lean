/-
 THE GROUND OF DATA, in one text. Conditions: none.
-/
import Derived.Test.YtjifpdcflankpaaGreatRPackA
import Derived.Test.YtjifpdcflankpaaGreatRIrA
import Derived.Test.YtjifpdcflankpaaGreatRAvSimp

set_option linter.unusedVariables false
set_option linter.unusedSimpArgs false
namespace Go.Proofs.YtjifpdcflankpaaGreat.Av
open Go.RowKit
open AVal (av)

def sub (nm i : Nat) : Nat := 10000 * (2 ^ i * (2 * nm + 1))
theorem odd_inj : ∀ (i j a b : Nat), 2 ^ i * (2 * a + 1) = 2 ^ j * (2 * b + 1) → i = j ∧ a = b := by
 intro i
 induction i with
 | zero =>
  intro j a b h
  cases j with
  | zero => simp at h; exact ⟨rfl, by omega⟩
  | succ j =>
   rw [Nat.pow_succ, Nat.mul_comm (2 ^ j) 2, Nat.mul_assoc] at h
   generalize 2 ^ j * (2 * b + 1) = q at h
   simp at h; omega
 | succ i ih =>
  intro j a b h
  cases j with
  | zero =>
   rw [Nat.pow_succ, Nat.mul_comm (2 ^ i) 2, Nat.mul_assoc] at h
   generalize 2 ^ i * (2 * a + 1) = q at h
   simp at h; omega
  | succ j =>
   rw [Nat.pow_succ, Nat.mul_comm (2 ^ i) 2, Nat.mul_assoc, Nat.pow_succ, Nat.mul_comm (2 ^ j) 2, Nat.mul_assoc] at h
   obtain ⟨h1, h2⟩ := ih j a b (by omega)
   exact ⟨by omega, h2⟩
theorem sub_inj {a b i j : Nat} (h : sub a i = sub b j) : a = b ∧ i = j := by
 unfold sub at h
 have := odd_inj i j a b (by omega)
 exact ⟨this.2, this.1⟩
theorem sub_big (nm i : Nat) : 10000 * (2 * nm + 1) ≤ sub nm i := by
 unfold sub
 have h : 1 ≤ 2 ^ i := Nat.one_le_two_pow
 exact Nat.mul_le_mul_left _ (Nat.le_trans (by omega) (Nat.mul_le_mul_right (2 * nm + 1) h))
theorem lt_sub (nm i : Nat) : nm < sub nm i := by have := sub_big nm i; omega
theorem sub_ge (nm i : Nat) : 10000 ≤ sub nm i := by have := sub_big nm i; omega

inductive InT (nm : Nat) : Nat → Prop
 | root : InT nm nm
 | sub {p : Nat} (i : Nat) (h : InT nm p) : InT nm (sub p i)
theorem InT.le {nm k : Nat} (h : InT nm k) : nm ≤ k := by
 induction h with
 | root => exact Nat.le_refl _
 | sub i _ ih => exact Nat.le_trans ih (Nat.le_of_lt (lt_sub _ _))
theorem InT.up {nm i k : Nat} (h : InT (Av.sub nm i) k) : InT nm k := by
 induction h with
 | root => exact .sub i .root
 | sub j _ ih => exact .sub j ih
theorem InT.ne {nm i k : Nat} (h : InT (Av.sub nm i) k) : k ≠ nm := by
 have := h.le; have := lt_sub nm i; omega
theorem InT.ge {nm i k : Nat} (h : InT (Av.sub nm i) k) : 10000 ≤ k := Nat.le_trans (sub_ge nm i) h.le
theorem InT.sib {nm i j k : Nat} (h : InT (Av.sub nm i) k) : InT (Av.sub nm j) k → i = j := by
 induction h with
 | root =>
  intro h'
  generalize hk : Av.sub nm i = k at h'
  cases h' with
  | root => exact (sub_inj hk).2
  | sub q h' => have := (sub_inj hk).1; subst this; exact absurd rfl h'.ne
 | sub q h ih =>
  rename_i p
  intro h'
  generalize hk : Av.sub p q = k at h'
  cases h' with
  | root => have := (sub_inj hk).1; subst this; exact absurd rfl h.ne
  | sub q' h' => have := (sub_inj hk).1; subst this; exact ih h'
theorem InT.apart {a b k : Nat} (ha : a < 10000) (hb : b < 10000) (h : InT a k) : InT b k → a = b := by
 induction h with
 | root =>
  intro h'
  cases h' with
  | root => rfl
  | sub q _ => rename_i p _; have := sub_ge p q; omega
 | sub q h ih =>
  rename_i p
  intro h'
  generalize hk : Av.sub p q = k at h'
  cases h' with
  | root => have := sub_ge p q; omega
  | sub q' h' => have := (sub_inj hk).1; subst this; exact ih h'
/-! ### heaps, name by name -/
theorem hg_none : ∀ {hp : Hp} {k : Nat}, (∀ p ∈ hp, p.1 ≠ k) → hget hp k = none
 | [], _, _ => rfl
 | (j, c) :: r, k, h => by
  simp only [hget]
  rw [if_neg (h (j, c) List.mem_cons_self)]
  exact hg_none fun p hp => h p (List.mem_cons_of_mem _ hp)
theorem hg_app : ∀ (a b : Hp) (k : Nat), hget (a ++ b) k = (hget a k).orElse fun _ => hget b k
 | [], b, k => rfl
 | (j, c) :: r, b, k => by
  simp only [List.cons_append, hget]
  split
  ·rfl
  ·exact hg_app r b k
theorem hg_app_l {a b : Hp} {k : Nat} {x : Box} (h : hget a k = some x) : hget (a ++ b) k = some x := by rw [hg_app, h]; rfl
theorem hg_app_r {a b : Hp} {k : Nat} (h : ∀ p ∈ a, p.1 ≠ k) : hget (a ++ b) k = hget b k := by rw [hg_app, hg_none h]; rfl
theorem hg_ne {j k : Nat} {b : Box} {r : Hp} (h : j ≠ k) : hget ((j, b) :: r) k = hget r k := by simp only [hget]; rw [if_neg h]
theorem hg_eq {k : Nat} {b : Box} {r : Hp} : hget ((k, b) :: r) k = some b := by simp [hget]
theorem hpLe_iff {s : Hp} : ∀ {t : Hp}, hpLe s t ↔ ∀ p ∈ t, hget s p.1 = some p.2
 | [] => ⟨fun _ p hp => (by cases hp), fun _ => trivial⟩
 | (k, b) :: r => by
  rw [hpLe_cons, hpLe_iff (t := r)]
  exact ⟨fun h p hp => (List.mem_cons.1 hp).elim (fun e => by subst e; exact h.1) (h.2 p), fun h => ⟨h _ List.mem_cons_self, fun p hp => h p (List.mem_cons_of_mem _ hp)⟩⟩
theorem hpLe_app {s a b : Hp} : hpLe s (a ++ b) ↔ hpLe s a ∧ hpLe s b := by
 simp only [hpLe_iff, List.mem_append]
 exact ⟨fun h => ⟨fun p hp => h p (.inl hp), fun p hp => h p (.inr hp)⟩, fun h p hp => hp.elim (h.1 p) (h.2 p)⟩
theorem hpLe_l {s a b : Hp} (h : hpLe a s) : hpLe (a ++ b) s := hpLe_iff.2 fun p hp => hg_app_l (hpLe_iff.1 h p hp)
theorem contains_iff {l : List Nat} {k : Nat} : l.contains k = true ↔ k ∈ l := by simp
theorem hget_rest_out {hs : List Nat} {hp : Hp} {k : Nat} (h : k ∉ hs) : hget (hrest hs hp) k = hget hp k := by
 rw [hget_rest, if_neg (fun c => h (contains_iff.1 c))]
theorem hget_hfrz_ne {hp : Hp} {k j : Nat} (h : j ≠ k) : hget (hfrz hp j) k = hget hp k := by
 unfold hfrz
 split
 ·exact hg_ne h
 ·rfl
theorem hget_frzL_out : ∀ {ks : List Nat} {hp : Hp} {k : Nat}, k ∉ ks → hget (frzL ks hp) k = hget hp k
 | [], _, _, _ => rfl
 | j :: r, hp, k, h => by
  rw [frzL_cons, hget_frzL_out (ks := r) (fun x => h (List.mem_cons_of_mem _ x)), hget_hfrz_ne (fun e => h (by rw [e]; exact List.mem_cons_self))]
theorem frzL_app : ∀ (a b : List Nat) (hp : Hp), frzL (a ++ b) hp = frzL b (frzL a hp)
 | [], _, _ => rfl
 | j :: r, b, hp => by rw [List.cons_append, frzL_cons, frzL_cons, frzL_app r b]

/-! ### plain values in rows of their own -/
class OVal (α : Type) [AVal α] where
 ty : TypeId
 ov : Nat → (Nat → Nat) → α → AV
 oh : Nat → (Nat → Nat) → α → Hp
 on : Nat → α → List Nat
 names : ∀ nm vs y, (oh nm vs y).map Prod.fst = on nm y
 inn : ∀ nm y k, k ∈ on nm y → InT nm k
 self : ∀ nm vs y, hpLe (oh nm vs y) (oh nm vs y)
 vdep : ∀ nm vs vs' y, (∀ k, InT nm k → vs k = vs' k) → ov nm vs y = ov nm vs' y ∧ oh nm vs y = oh nm vs' y
 lend : ∀ nm vs y hp, hpLe hp (oh nm vs y) → (ov nm vs y).pur (frzL (on nm y) hp) = av y
 dep : ∀ nm vs y hp hp', (∀ k, InT nm k → hget hp k = hget hp' k) → (ov nm vs y).pur hp = (ov nm vs y).pur hp'
 free : ∀ nm vs y, ∀ p ∈ oh nm vs y, p.2.frz = false ∧ ∀ e ∈ p.2.es, ∀ x ∈ e.cells, x.free1 = true
 cfree : ∀ nm vs y, ∀ x ∈ (ov nm vs y).cells, x.free1 = true
 ok : ∀ nm vs y, (ov nm vs y).ok = true
 agg : ∀ nm vs y, (ov nm vs y).isAgg = (av y).isAgg
 len : ∀ nm vs y, (ov nm vs y).cells.length = AVal.n α
open OVal (ov oh on)
theorem OVal.inh {α : Type} [AVal α] [OVal α] {nm : Nat} {vs : Nat → Nat} {y : α} {p : Nat × Box} (h : p ∈ oh nm vs y) : InT nm p.1 :=
 OVal.inn nm y p.1 (by rw [← OVal.names nm vs y]; exact List.mem_map_of_mem h)
theorem oh_ne {α : Type} [AVal α] [OVal α] {nm k : Nat} {vs : Nat → Nat} {y : α} (h : ¬ InT nm k) : ∀ p ∈ oh nm vs y, p.1 ≠ k := fun p hp e => h (e ▸ OVal.inh hp)
theorem on_out {α : Type} [AVal α] [OVal α] {nm k : Nat} {y : α} (h : ¬ InT nm k) : k ∉ on nm y := fun e => h (OVal.inn nm y k e)
@[reducible] def flatOV {α : Type} [AVal α] (ty : TypeId) (h : ∀ (y : α), ∀ x ∈ (av y).cells, x.free1 = true) : OVal α :=
 ⟨ty, fun _ _ x => av x, fun _ _ _ => [], fun _ _ => [], fun _ _ _ => rfl, fun _ _ _ h => (by cases h), fun _ _ _ => trivial, fun _ _ _ _ _ => ⟨rfl, rfl⟩, fun _ _ y hp _ => AVal.nop y _, fun _ _ y _ _ _ => (AVal.nop y _).trans (AVal.nop y _).symm, fun _ _ _ p h => (by cases h), fun _ _ y x hx => h y x hx, fun _ _ y => AVal.ok y, fun _ _ _ => rfl, fun _ _ y => AVal.len y⟩
instance : OVal Int := flatOV 3 (fun y x hx => by rw [av_int] at hx; simp [AV.cells] at hx; subst hx; rfl)
instance : OVal ByteArray := flatOV 9 (fun y x hx => by rw [av_str] at hx; simp [AV.cells] at hx; subst hx; rfl)
theorem self2 {a b : Hp} (ha : hpLe a a) (hb : hpLe b b) (h : ∀ p ∈ b, ∀ q ∈ a, q.1 ≠ p.1) : hpLe (a ++ b) (a ++ b) := by
 rw [hpLe_app]
 exact ⟨hpLe_l ha, hpLe_iff.2 fun p hp => by rw [hg_app_r (h p hp)]; exact hpLe_iff.1 hb p hp⟩
theorem hpLe_frz {s t : Hp} {ks : List Nat} (h : ∀ p ∈ t, p.1 ∉ ks) (hs : hpLe s t) : hpLe (frzL ks s) t := hpLe_iff.2 fun p hp => by rw [hget_frzL_out (h p hp)]; exact hpLe_iff.1 hs p hp

section
variable {α : Type} [AVal α] [OVal α]
def ovL (nm : Nat) (vs : Nat → Nat) : Nat → List α → List AV
 | _, [] => []
 | i, e :: r => ov (sub nm i) vs e :: ovL nm vs (i + 1) r
def ohL (nm : Nat) (vs : Nat → Nat) : Nat → List α → Hp
 | _, [] => []
 | i, e :: r => oh (sub nm i) vs e ++ ohL nm vs (i + 1) r
def onL (nm : Nat) : Nat → List α → List Nat
 | _, [] => []
 | i, e :: r => on (sub nm i) e ++ onL nm (i + 1) r
theorem ovL_len (nm : Nat) (vs : Nat → Nat) : ∀ (i : Nat) (l : List α), (ovL nm vs i l).length = l.length
 | _, [] => rfl
 | i, e :: r => by simp [ovL, ovL_len nm vs (i + 1) r]
theorem ovL_get? (nm : Nat) (vs : Nat → Nat) : ∀ (i : Nat) (l : List α) (j : Nat), (ovL nm vs i l)[j]? = (l[j]?).map (ov (sub nm (i + j)) vs)
 | _, [], j => by simp [ovL]
 | i, e :: r, 0 => by simp [ovL]
 | i, e :: r, j + 1 => by
  simp only [ovL, List.getElem?_cons_succ]
  rw [ovL_get? nm vs (i + 1) r j, show i + 1 + j = i + (j + 1) by omega]
theorem ovL_mem {nm : Nat} {vs : Nat → Nat} {i : Nat} {l : List α} {x : AV} (h : x ∈ ovL nm vs i l) : ∃ (j : Nat) (e : α), x = ov (sub nm j) vs e := by
 obtain ⟨j, hj⟩ := List.getElem?_of_mem h
 rw [ovL_get?, Option.map_eq_some_iff] at hj
 obtain ⟨e, _, rfl⟩ := hj
 exact ⟨_, e, rfl⟩
theorem ohL_mem {nm : Nat} {vs : Nat → Nat} : ∀ {i : Nat} {l : List α} {p : Nat × Box}, p ∈ ohL nm vs i l → ∃ j, ∃ hj : j < l.length, p ∈ oh (sub nm (i + j)) vs l[j]
 | i, e :: r, p, h => by
  simp only [ohL, List.mem_append] at h
  rcases h with h | h
  ·exact ⟨0, by simp, by simpa using h⟩
  ·obtain ⟨j, hj, h⟩ := ohL_mem h
   exact ⟨j + 1, by simpa using hj, by rw [show i + (j + 1) = i + 1 + j by omega]; simpa using h⟩
theorem ohL_in {nm : Nat} {vs : Nat → Nat} {i : Nat} {l : List α} {p : Nat × Box} (h : p ∈ ohL nm vs i l) : ∃ j, i ≤ j ∧ InT (sub nm j) p.1 := by
 obtain ⟨j, _, h⟩ := ohL_mem h
 exact ⟨i + j, by omega, OVal.inh h⟩
theorem onL_in {nm : Nat} : ∀ {i : Nat} {l : List α} {k : Nat}, k ∈ onL nm i l → ∃ j, i ≤ j ∧ InT (sub nm j) k
 | i, e :: r, k, h => by
  simp only [onL, List.mem_append] at h
  rcases h with h | h
  ·exact ⟨i, Nat.le_refl _, OVal.inn _ _ _ h⟩
  ·obtain ⟨j, hj, h⟩ := onL_in h
   exact ⟨j, by omega, h⟩
theorem ohL_names (nm : Nat) (vs : Nat → Nat) : ∀ (i : Nat) (l : List α), (ohL nm vs i l).map Prod.fst = onL nm i l
 | _, [] => rfl
 | i, e :: r => by simp only [ohL, onL, List.map_append, OVal.names, ohL_names nm vs (i + 1) r]
theorem ohL_self (nm : Nat) (vs : Nat → Nat) : ∀ (i : Nat) (l : List α), hpLe (ohL nm vs i l) (ohL nm vs i l)
 | _, [] => trivial
 | i, e :: r => by
  simp only [ohL]
  rw [hpLe_app]
  refine ⟨hpLe_l (OVal.self _ _ _), hpLe_iff.2 fun p hp => ?_⟩
  obtain ⟨j, hj, h⟩ := ohL_in hp
  rw [hg_app_r (oh_ne fun h' => by have := h'.sib h; omega)]
  exact hpLe_iff.1 (ohL_self nm vs (i + 1) r) p hp
theorem ovL_vdep (nm : Nat) (vs vs' : Nat → Nat) (h : ∀ k, InT nm k → vs k = vs' k) : ∀ (i : Nat) (l : List α), ovL nm vs i l = ovL nm vs' i l ∧ ohL nm vs i l = ohL nm vs' i l
 | _, [] => ⟨rfl, rfl⟩
 | i, e :: r => by
  obtain ⟨a, b⟩ := ovL_vdep nm vs vs' h (i + 1) r
  obtain ⟨c, d⟩ := OVal.vdep (sub nm i) vs vs' e (fun k hk => h k hk.up)
  simp only [ovL, ohL, a, b, c, d, and_self]
theorem ovL_lend (nm : Nat) (vs : Nat → Nat) : ∀ (i : Nat) (l : List α) (hp : Hp), hpLe hp (ohL nm vs i l) → (ovL nm vs i l).map (AV.pur (frzL (onL nm i l) hp)) = l.map av
 | _, [], _, _ => rfl
 | i, e :: r, hp, h => by
  simp only [ohL, hpLe_app] at h
  simp only [ovL, onL, List.map_cons, frzL_app]
  have h1 := OVal.lend (sub nm i) vs e hp h.1
  have h2 := ovL_lend nm vs (i + 1) r (frzL (on (sub nm i) e) hp) (hpLe_iff.2 fun p hp' => by
   obtain ⟨j, hj, hi⟩ := ohL_in hp'
   rw [hget_frzL_out (on_out fun h' => by have := h'.sib hi; omega)]
   exact hpLe_iff.1 h.2 p hp')
  rw [h2, ← h1]
  congr 1
  refine OVal.dep _ _ _ _ _ fun k hk => hget_frzL_out fun hm => ?_
  obtain ⟨j, hj, hi⟩ := onL_in hm
  have := hk.sib hi
  omega
theorem ovL_free {nm : Nat} {vs : Nat → Nat} {i : Nat} {l : List α} : ∀ e ∈ ovL nm vs i l, ∀ x ∈ e.cells, x.free1 = true := fun e he x hx => by
 obtain ⟨j, y, rfl⟩ := ovL_mem he
 exact OVal.cfree _ _ _ x hx
end

section
variable {α : Type} [AVal α] [OVal α]
def lbox (nm : Nat) (vs : Nat → Nat) (l : List α) : Box := ⟨vs nm, false, OVal.ty α, AVal.n α, ovL nm vs 0 l⟩
instance : OVal (List α) where
 ty := 0
 ov nm vs l := .row nm (vs nm) l.length
 oh nm vs l := ohL nm vs 0 l ++ [(nm, lbox nm vs l)]
 on nm l := onL nm 0 l ++ [nm]
 names nm vs l := by simp [ohL_names]
 inn nm l k h := by
  rcases List.mem_append.1 h with h | h
  ·obtain ⟨j, _, h⟩ := onL_in h; exact h.up
  ·simp at h; subst h; exact .root
 self nm vs l := by
  rw [hpLe_app]
  refine ⟨hpLe_l (ohL_self _ _ _ _), hpLe_iff.2 fun p hp => ?_⟩
  simp at hp; subst hp
  rw [hg_app_r (fun p hp e => by obtain ⟨j, _, h⟩ := ohL_in hp; exact h.ne e)]
  exact hg_eq
 vdep nm vs vs' l h := by
  obtain ⟨a, b⟩ := ovL_vdep nm vs vs' h 0 l
  simp only [lbox, a, b, h nm .root, and_self]
 lend nm vs l hp h := by
  rw [hpLe_app] at h
  have h1 := ovL_lend nm vs 0 l hp h.1
  have h2 : hget hp nm = some (lbox nm vs l) := hpLe_iff.1 h.2 (nm, _) List.mem_cons_self
  have h3 : hget (frzL (onL nm 0 l) hp) nm = some (lbox nm vs l) := by
   rw [hget_frzL_out (fun hm => by obtain ⟨j, _, h⟩ := onL_in hm; exact h.ne rfl)]; exact h2
  rw [frzL_app, frzL_cons, frzL_nil]
  simp only [AV.pur, AV.pur1, hfrz, h3, hg_eq, lbox, h1]
  rw [if_pos (by simp), List.take_of_length_le (by simp)]
  rfl
 dep nm vs l hp hp' h := by simp only [AV.pur, AV.pur1, h nm .root]
 free nm vs l p hp := by
  rcases List.mem_append.1 hp with h | h
  ·obtain ⟨j, hj, h⟩ := ohL_mem h; exact OVal.free _ _ _ p h
  ·simp at h; subst h; exact ⟨rfl, ovL_free⟩
 cfree nm vs l x hx := by simp [AV.cells] at hx; subst hx; rfl
 ok _ _ _ := rfl
 agg _ _ _ := rfl
 len _ _ _ := rfl
theorem ov_list (nm : Nat) (vs : Nat → Nat) (l : List α) : ov nm vs l = .row nm (vs nm) l.length := eqq rfl
theorem oh_list (nm : Nat) (vs : Nat → Nat) (l : List α) : oh nm vs l = ohL nm vs 0 l ++ [(nm, lbox nm vs l)] := eqq rfl
end
theorem hpLe_skip {β : Type} [AVal β] [OVal β] {K' j : Nat} {b : Box} {vs' : Nat → Nat} {z : β} {hp : Hp} (h : ¬ InT K' j) (hz : hpLe hp (oh K' vs' z)) : hpLe ((j, b) :: hp) (oh K' vs' z) :=
 hpLe_iff.2 fun p hp' => by rw [hg_ne (fun e : j = p.1 => h (by rw [e]; exact OVal.inh hp'))]; exact hpLe_iff.1 hz p hp'
theorem low_beq {q nm i : Nat} (hq : q < 10000) : (q == sub nm i) = false := beq_eq_false_iff_ne.2 fun e => by have := sub_ge nm i; omega
theorem hpLe_low {β : Type} [AVal β] [OVal β] {nm i j : Nat} {b : Box} {vs : Nat → Nat} {z : β} {hp : Hp} (hz : hpLe hp (oh (sub nm i) vs z)) (hj : j < 10000) : hpLe ((j, b) :: hp) (oh (sub nm i) vs z) :=
 hpLe_skip (fun h => by have := h.ge; omega) hz
theorem ovL_flat {α : Type} [AVal α] [OVal α] (h : ∀ nm vs (x : α), ov nm vs x = av x) (nm : Nat) (vs : Nat → Nat) : ∀ (i : Nat) (l : List α), ovL nm vs i l = l.map av
 | _, [] => rfl
 | i, e :: r => by simp only [ovL, List.map_cons, h, ovL_flat h nm vs (i + 1) r]
theorem ohL_flat {α : Type} [AVal α] [OVal α] (h : ∀ nm vs (x : α), oh nm vs x = []) (nm : Nat) (vs : Nat → Nat) : ∀ (i : Nat) (l : List α), ohL nm vs i l = []
 | _, [] => rfl
 | i, e :: r => by simp only [ohL, h, ohL_flat h nm vs (i + 1) r, List.append_nil]
theorem oh_ints (nm : Nat) (vs : Nat → Nat) (l : List Int) : oh nm vs l = [(nm, ⟨vs nm, false, 3, 1, l.map av⟩)] := by
 rw [oh_list, ohL_flat (fun _ _ _ => rfl), List.nil_append, lbox, ovL_flat (fun _ _ _ => rfl)]; rfl
theorem hrest_no (hp : Hp) : hrest [] hp = hp := by
 induction hp with
 | nil => rfl
 | cons p r ih => obtain ⟨q, c⟩ := p; rw [hrest_cons, if_neg (by simp), ih]
theorem ohL_nil {α : Type} [AVal α] [OVal α] (nm : Nat) (vs : Nat → Nat) (i : Nat) : ohL nm vs i ([] : List α) = [] := rfl
theorem oh_flat {α : Type} [AVal α] [OVal α] (h1 : ∀ nm vs (x : α), ov nm vs x = av x) (h2 : ∀ nm vs (x : α), oh nm vs x = []) (nm : Nat) (vs : Nat → Nat) (l : List α) : oh nm vs l = [(nm, ⟨vs nm, false, OVal.ty α, AVal.n α, l.map av⟩)] := by
 rw [oh_list, ohL_flat h2, List.nil_append, lbox, ovL_flat h1]
/-! ### calls that are handed parts -/
theorem aCallH_gen {P : Go.Program} {f : FuncId} {args : List AV} {hp hp0 : Hp} {k : AV → Hp → Prop} {Post : AV → Hp → Prop} (hs : List Nat) (h : CallsH P f args hp0 Post) {kp : Keep k} (he : hsel hs hp = hp0) (hk : ∀ r hp', Post r hp' → ∀ H, H = hp' ++ hrest hs hp → k r H) : Bd2 (fun k => aCallHK P f args hp k) k kp :=
 aCallH_of hs h he fun r hp' hpst => hk r hp' hpst _ rfl
section
variable {α : Type} [AVal α] [OVal α]
theorem hpLe_root {H : Hp} {K : Nat} {vs : Nat → Nat} {l : List α} (h : hpLe H (oh K vs l)) : hget H K = some ⟨vs K, false, OVal.ty α, AVal.n α, ovL K vs 0 l⟩ := by
 rw [oh_list, hpLe_app] at h
 exact h.2.1
end
theorem sib_ne {nm i j k : Nat} (hij : i ≠ j) (h : InT (sub nm i) k) : ¬ InT (sub nm j) k := fun h' => hij (h.sib h')
end Go.Proofs.YtjifpdcflankpaaGreat.Av

namespace Go.Proofs.YtjifpdcflankpaaGreat.Av
open Go.RowKit
open AVal (av)
open OVal (ov oh on)

theorem Goes.renF {s : St} {T : St → Prop} (F : Nat → List (Nat × AV)) (j k : Nat) {v : Nat} {b : Box} (hb : hget s.hp j = some b) (hv : b.ver = v)
  (hF : ∀ (v' : Nat) (S : Nat → Prop) (w : World) (μ : Mu) (a : Nat → Value), μ k v' = μ j v → (∀ t, VR S w μ (a t) (fget s.fr t)) → ∀ t, VR S w μ (a t) (fget (F v') t))
  (h : ∀ v', Goes ⟨F v', (k, ⟨v', b.frz, b.ty, b.esz, b.es⟩) :: hrest [j] s.hp⟩ T) : Goes s T := by
 refine ⟨?_⟩
 rintro E nt a w ⟨hd, hn, S, μ, hw, hf⟩
 obtain ⟨N, hN0, hN, _⟩ := hw.fresh
 obtain ⟨B, hB, hz, hh⟩ := hw.box j b hb
 have hle : Mu.le μ (μ.put k N B) := Mu.le_put (hN k N (Nat.le_refl _))
 have hget' : ∀ q, hget ((k, (⟨N, b.frz, b.ty, b.esz, b.es⟩ : Box)) :: hrest [j] s.hp) q = if k = q then some ⟨N, b.frz, b.ty, b.esz, b.es⟩ else if q = j then none else hget s.hp q := fun q => by
  simp only [hget]
  split
  ·rfl
  ·rw [hget_rest]
   by_cases hq : q = j
   ·rw [if_pos hq, if_pos (by simp [hq])]
   ·rw [if_neg hq, if_neg (by simp [hq])]
 have hold : ∀ q bq, hget s.hp q = some bq → ∀ B', (μ.put k N B) q bq.ver = some B' → μ q bq.ver = some B' := fun q bq hq B' hB' => by
  obtain ⟨B0, h0, _⟩ := hw.box q bq hq
  have := hle _ _ _ h0
  rw [this] at hB'; cases hB'; exact h0
 refine (h N).run E nt a w ⟨hd, hn, S, μ.put k N B, ⟨hw.ext, hw.lt, hw.base, hw.new, Mu.put_fresh hN0 hw.fresh, fun q bq hq => ?_, ?_, hw.le.trans hle⟩, fun t => ?_⟩
 ·rw [hget'] at hq
  by_cases hkq : k = q
  ·rw [if_pos hkq] at hq; cases hq; subst hkq
   refine ⟨B, Mu.put_self _ _ _ _, hz, ?_⟩
   cases hbl : B.blk with
   | none => rw [hbl] at hh; exact hh
   | some g =>
    rw [hbl] at hh
    obtain ⟨a1, a2, a3, cu, a4, a5, a6, a7, a8⟩ := hh
    exact ⟨a1, a2, a3, cu, a4, a5, a6, a7, a8.mono (fun _ h => h) (Same.refl _ _) hle⟩
  ·rw [if_neg hkq] at hq
   by_cases hqj : q = j
   ·rw [if_pos hqj] at hq; cases hq
   ·rw [if_neg hqj] at hq
    obtain ⟨B0, h0, hz0, hh0⟩ := hw.box q bq hq
    refine ⟨B0, hle _ _ _ h0, hz0, ?_⟩
    cases hbl : B0.blk with
    | none => rw [hbl] at hh0; exact hh0
    | some g =>
     rw [hbl] at hh0
     obtain ⟨a1, a2, a3, cu, a4, a5, a6, a7, a8⟩ := hh0
     exact ⟨a1, a2, a3, cu, a4, a5, a6, a7, a8.mono (fun _ h => h) (Same.refl _ _) hle⟩
 ·intro q q' bq bq' Bq Bq' g hq hq' hne hf1 hf2 hBq hBq' hbl
  rw [hget'] at hq hq'
  by_cases hkq : k = q
  ·rw [if_pos hkq] at hq; cases hq; subst hkq
   rw [Mu.put_self] at hBq; cases hBq
   rw [if_neg hne] at hq'
   by_cases hqj : q' = j
   ·rw [if_pos hqj] at hq'; cases hq'
   ·rw [if_neg hqj] at hq'
    exact hw.apart j q' b bq' B Bq' g hb hq' (fun e => hqj e.symm) hf1 hf2 hB (hold q' bq' hq' _ hBq') hbl
  ·rw [if_neg hkq] at hq
   by_cases hqj : q = j
   ·rw [if_pos hqj] at hq; cases hq
   ·rw [if_neg hqj] at hq
    by_cases hkq' : k = q'
    ·rw [if_pos hkq'] at hq'; cases hq'; subst hkq'
     rw [Mu.put_self] at hBq'; cases hBq'
     exact hw.apart q j bq b Bq B g hq hb hqj hf1 hf2 (hold q bq hq _ hBq) hB hbl
    ·rw [if_neg hkq'] at hq'
     by_cases hqj' : q' = j
     ·rw [if_pos hqj'] at hq'; cases hq'
     ·rw [if_neg hqj'] at hq'
      exact hw.apart q q' bq bq' Bq Bq' g hq hq' hne hf1 hf2 (hold q bq hq _ hBq) (hold q' bq' hq' _ hBq') hbl
 ·exact hF N S w (μ.put k N B) _ ((Mu.put_self _ _ _ _).trans ((hv ▸ hle _ _ _ hB).symm)) (fun t => (hf t).mono (fun _ h => h) (Same.refl _ _) hle) t

theorem VR.ren {S : Nat → Prop} {w : World} {μ : Mu} {u : Value} {j v k v' n : Nat} (h : VR S w μ u (.row j v n)) (e : μ k v' = μ j v) : VR S w μ u (.row k v' n) := by
 cases h with
 | row _ _ _ bl cap esz h1 h2 h3 => exact .row k v' n _ _ _ (e.trans h1) h2 h3
 | row0 _ _ cap esz h1 => exact .row0 k v' _ _ (e.trans h1)
theorem VR.aggSet {S : Nat → Prop} {w : World} {μ : Mu} {u : Value} {cs : List AV} {off : Nat} {y : AV} (h : VR S w μ u (.agg cs)) (h1 : y.one = true) (hy : ∀ x v, cs[off]? = some x → VR S w μ v x → VR S w μ v y) : VR S w μ u (.agg (cs.set off y)) := by
 cases h with
 | agg vs _ hl ho hh =>
  refine .agg vs _ (by simpa using hl) (fun x hx => ?_) (fun q v x p e => ?_)
  ·rcases List.mem_or_eq_of_mem_set hx with h | h
   ·exact ho x h
   ·subst h; exact h1
  ·rw [List.getElem?_set] at e
   split at e
   ·rename_i hq
    subst hq
    split at e
    ·rename_i hlt
     cases e
     exact hy _ v (List.getElem?_eq_getElem hlt) (hh off v _ p (List.getElem?_eq_getElem hlt))
    ·cases e
   ·exact hh q v x p e
theorem fr_put {S : Nat → Prop} {w : World} {μ : Mu} {a : Nat → Value} {fr : List (Nat × AV)} {i : Nat} {y : AV} (h : ∀ t, VR S w μ (a t) (fget fr t)) (hy : VR S w μ (a i) y) : ∀ t, VR S w μ (a t) (fget ((i, y) :: fr) t) := fun t => by
 simp only [fget]
 split
 ·rename_i e; subst e; exact hy
 ·exact h t
theorem Goes.ren {s : St} {T : St → Prop} (i j k : Nat) {v n : Nat} {b : Box} (hi : fget s.fr i = .row j v n) (hb : hget s.hp j = some b) (hv : b.ver = v)
  (h : ∀ v', Goes ⟨(i, .row k v' n) :: s.fr, (k, ⟨v', b.frz, b.ty, b.esz, b.es⟩) :: hrest [j] s.hp⟩ T) : Goes s T :=
 Goes.renF (fun v' => (i, .row k v' n) :: s.fr) j k hb hv (fun v' S w μ a e hf => fr_put hf ((hi ▸ hf i).ren e)) h
theorem Goes.renA {s : St} {T : St → Prop} (i off j k : Nat) {v n : Nat} {cs : List AV} {b : Box} (hi : fget s.fr i = .agg cs) (hc : cs[off]? = some (.row j v n)) (hb : hget s.hp j = some b) (hv : b.ver = v)
  (h : ∀ v', Goes ⟨(i, .agg (cs.set off (.row k v' n))) :: s.fr, (k, ⟨v', b.frz, b.ty, b.esz, b.es⟩) :: hrest [j] s.hp⟩ T) : Goes s T :=
 Goes.renF (fun v' => (i, .agg (cs.set off (.row k v' n))) :: s.fr) j k hb hv (fun v' S w μ a e hf => fr_put hf ((hi ▸ hf i).aggSet rfl fun x u hx hu => by
  rw [hc] at hx; cases hx; exact hu.ren e)) h
theorem Goes.newF {s : St} {T : St → Prop} (F : Nat → List (Nat × AV)) (k : Nat) (ty : TypeId) (esz : Nat)
  (hF : ∀ (v : Nat) (S : Nat → Prop) (w : World) (μ : Mu) (a : Nat → Value), μ k v = some ⟨none, 0, esz⟩ → (∀ t, VR S w μ (a t) (fget s.fr t)) → ∀ t, VR S w μ (a t) (fget (F v) t))
  (h : ∀ v, Goes ⟨F v, (k, ⟨v, false, ty, esz, []⟩) :: s.hp⟩ T) : Goes s T := by
 refine ⟨?_⟩
 rintro E nt a w ⟨hd, hn, S, μ, hw, hf⟩
 obtain ⟨N, hN0, hN, _⟩ := hw.fresh
 have hle : Mu.le μ (μ.put k N ⟨none, 0, esz⟩) := Mu.le_put (hN k N (Nat.le_refl _))
 have hget' : ∀ j, hget ((k, (⟨N, false, ty, esz, []⟩ : Box)) :: s.hp) j = if k = j then some ⟨N, false, ty, esz, []⟩ else hget s.hp j := fun j => rfl
 have hold : ∀ j bj, hget s.hp j = some bj → ∀ B', (μ.put k N ⟨none, 0, esz⟩) j bj.ver = some B' → μ j bj.ver = some B' := fun j bj hj B' hB' => by
  obtain ⟨B0, h0, _⟩ := hw.box j bj hj
  have := hle _ _ _ h0
  rw [this] at hB'; cases hB'; exact h0
 refine (h N).run E nt a w ⟨hd, hn, S, μ.put k N ⟨none, 0, esz⟩, ⟨hw.ext, hw.lt, hw.base, hw.new, Mu.put_fresh hN0 hw.fresh, fun j bj hj => ?_, ?_, hw.le.trans hle⟩, fun t => hF N S w _ _ (Mu.put_self _ _ _ _) (fun t => (hf t).mono (fun _ h => h) (Same.refl _ _) hle) t⟩
 ·rw [hget'] at hj
  by_cases hkj : k = j
  ·rw [if_pos hkj] at hj; cases hj; subst hkj
   exact ⟨_, Mu.put_self _ _ _ _, rfl, rfl⟩
  ·rw [if_neg hkj] at hj
   obtain ⟨B0, h0, hz0, hh⟩ := hw.box j bj hj
   refine ⟨B0, hle _ _ _ h0, hz0, ?_⟩
   cases hbl : B0.blk with
   | none => rw [hbl] at hh; exact hh
   | some b =>
    rw [hbl] at hh
    obtain ⟨a1, a2, a3, cu, a4, a5, a6, a7, a8⟩ := hh
    exact ⟨a1, a2, a3, cu, a4, a5, a6, a7, a8.mono (fun _ h => h) (Same.refl _ _) hle⟩
 ·intro j j' bj bj' Bj Bj' b hj hj' hne hf1 hf2 hBj hBj' hbl
  rw [hget'] at hj hj'
  by_cases hkj : k = j
  ·rw [if_pos hkj] at hj; cases hj; subst hkj
   rw [Mu.put_self] at hBj; cases hBj; cases hbl
  ·rw [if_neg hkj] at hj
   by_cases hkj' : k = j'
   ·rw [if_pos hkj'] at hj'; cases hj'; subst hkj'
    rw [Mu.put_self] at hBj'; cases hBj'; simp
   ·rw [if_neg hkj'] at hj'
    exact hw.apart j j' bj bj' Bj Bj' b hj hj' hne hf1 hf2 (hold j bj hj _ hBj) (hold j' bj' hj' _ hBj') hbl
theorem VR.new {S : Nat → Prop} {w : World} {μ : Mu} {u : Value} {k v esz : Nat} (h : VR S w μ u .nils) (e : μ k v = some ⟨none, 0, esz⟩) : VR S w μ u (.row k v 0) := by
 cases h
 exact .row0 k v 0 esz e
theorem Goes.new {s : St} {T : St → Prop} (i k : Nat) (ty : TypeId) (esz : Nat) (hi : fget s.fr i = .nils) (h : ∀ v, Goes ⟨(i, .row k v 0) :: s.fr, (k, ⟨v, false, ty, esz, []⟩) :: s.hp⟩ T) : Goes s T :=
 Goes.newF (fun v => (i, .row k v 0) :: s.fr) k ty esz (fun v S w μ a e hf => fr_put hf ((hi ▸ hf i).new e)) h
theorem callsH_goes {P : Go.Program} {f : FuncId} {args : List AV} {hp : Hp} {Post Post2 : AV → Hp → Prop} (h : CallsH P f args hp Post) (hg : ∀ r hp', Post r hp' → Goes ⟨[(0, r)], hp'⟩ fun s => Post2 (fget s.fr 0) s.hp) : CallsH P f args hp Post2 := by
 obtain ⟨hc, h⟩ := h
 refine ⟨hc, fun S w μ vs hW hv => (h S w μ vs hW hv).mono fun e w' ⟨v, r, hp', S', μ', he, hpst, hvr, hw'⟩ => ?_⟩
 obtain ⟨s2, hT, hd, hn, S2, μ2, hw2, hf2⟩ := (hg r hp' hpst).run ⟨w, S, ownOf μ hp, μ⟩ 1 { tmps := #[v], defers := [] } w' ⟨rfl, rfl, S', μ', hw', fun t => by
  cases t with
  | zero => exact hvr
  | succ t => exact .top _⟩
 exact ⟨v, fget s2.fr 0, s2.hp, S2, μ2, he, hT, hf2 0, hw2⟩

open Classical in
noncomputable def glue (K : Nat) (vs vs' : Nat → Nat) : Nat → Nat := fun k => if InT K k then vs k else vs' k
theorem glue_in {K k : Nat} {vs vs' : Nat → Nat} (h : InT K k) : glue K vs vs' k = vs k := if_pos h
theorem glue_out {K k : Nat} {vs vs' : Nat → Nat} (h : ¬ InT K k) : glue K vs vs' k = vs' k := if_neg h
section
variable {α : Type} [AVal α] [OVal α]
theorem ov_glue (K : Nat) (vs vs' : Nat → Nat) (y : α) : ov K (glue K vs vs') y = ov K vs y := (OVal.vdep K _ _ y fun k h => glue_in h).1
theorem oh_glue (K : Nat) (vs vs' : Nat → Nat) (y : α) : oh K (glue K vs vs') y = oh K vs y := (OVal.vdep K _ _ y fun k h => glue_in h).2
theorem ov_glue' {K K' : Nat} (vs vs' : Nat → Nat) (y : α) (h : ∀ k, InT K' k → ¬ InT K k) : ov K' (glue K vs vs') y = ov K' vs' y := (OVal.vdep K' _ _ y fun k hk => glue_out (h k hk)).1
theorem oh_glue' {K K' : Nat} (vs vs' : Nat → Nat) (y : α) (h : ∀ k, InT K' k → ¬ InT K k) : oh K' (glue K vs vs') y = oh K' vs' y := (OVal.vdep K' _ _ y fun k hk => glue_out (h k hk)).2
def ToPost (nm : Nat) (y : α) (r : AV) (hp' : Hp) : Prop := ∃ vs, r = ov nm vs y ∧ hp' = oh nm vs y
theorem ovL_app (nm : Nat) (vs : Nat → Nat) : ∀ (i : Nat) (a b : List α), ovL nm vs i (a ++ b) = ovL nm vs i a ++ ovL nm vs (i + a.length) b
 | _, [], _ => by simp [ovL]
 | i, e :: r, b => by simp only [List.cons_append, ovL, ovL_app nm vs (i + 1) r b, List.length_cons]; rw [show i + 1 + r.length = i + (r.length + 1) by omega]
theorem ohL_app (nm : Nat) (vs : Nat → Nat) : ∀ (i : Nat) (a b : List α), ohL nm vs i (a ++ b) = ohL nm vs i a ++ ohL nm vs (i + a.length) b
 | _, [], _ => by simp [ohL]
 | i, e :: r, b => by simp only [List.cons_append, ohL, ohL_app nm vs (i + 1) r b, List.length_cons, List.append_assoc]; rw [show i + 1 + r.length = i + (r.length + 1) by omega]
theorem ovL_glue' {nm j : Nat} (vs vs' : Nat → Nat) : ∀ (i : Nat) (l : List α), i + l.length ≤ j → ovL nm (glue (sub nm j) vs vs') i l = ovL nm vs' i l ∧ ohL nm (glue (sub nm j) vs vs') i l = ohL nm vs' i l
 | _, [], _ => ⟨rfl, rfl⟩
 | i, e :: r, h => by
  simp only [List.length_cons] at h
  obtain ⟨a, b⟩ := ovL_glue' (nm := nm) (j := j) vs vs' (i + 1) r (by omega)
  have hne : ∀ k, InT (sub nm i) k → ¬ InT (sub nm j) k := fun k h1 h2 => by have := h1.sib h2; omega
  simp only [ovL, ohL, a, b, ov_glue' vs vs' e hne, oh_glue' vs vs' e hne, and_self]
theorem ohL_take {nm : Nat} {vs vs' : Nat → Nat} {l : List α} {k : Nat} (h : k < l.length) : ohL nm (glue (sub nm k) vs vs') 0 (l.take (k + 1)) = ohL nm vs' 0 (l.take k) ++ oh (sub nm k) vs l[k] := by
 have ht : (l.take k).length = k := by simp; omega
 rw [List.take_succ_eq_append_getElem h, ohL_app, ht, Nat.zero_add, (ovL_glue' vs vs' 0 _ (by omega)).2]
 simp only [ohL, oh_glue, List.append_nil]
end
theorem oh_full {α : Type} [AVal α] [OVal α] {nm : Nat} {vs : Nat → Nat} {v' : Nat} (l : List α) : ov nm (glue nm (fun k => if k = nm then v' else vs k) vs) l = .row nm v' l.length ∧
  oh nm (glue nm (fun k => if k = nm then v' else vs k) vs) l = ohL nm vs 0 l ++ [(nm, ⟨v', false, OVal.ty α, AVal.n α, ovL nm vs 0 l⟩)] := by
 have hroot : glue nm (fun k => if k = nm then v' else vs k) vs nm = v' := by rw [glue_in .root]; simp
 have hrest : ∀ i (l : List α), ovL nm (glue nm (fun k => if k = nm then v' else vs k) vs) i l = ovL nm vs i l ∧ ohL nm (glue nm (fun k => if k = nm then v' else vs k) vs) i l = ohL nm vs i l := by
  intro i l
  induction l generalizing i with
  | nil => exact ⟨rfl, rfl⟩
  | cons e r ih =>
   obtain ⟨a, b⟩ := ih (i + 1)
   obtain ⟨c, d⟩ := OVal.vdep (sub nm i) (glue nm (fun k => if k = nm then v' else vs k) vs) vs e (fun k hk => by
    rw [glue_in hk.up]; simp [hk.ne])
   simp only [ovL, ohL, a, b, c, d, and_self]
 rw [ov_list, oh_list, lbox, hroot, (hrest 0 l).1, (hrest 0 l).2]
 exact ⟨rfl, rfl⟩
theorem old_get {α : Type} [AVal α] [OVal α] {nm i : Nat} {vs : Nat → Nat} {y : α} {hp H : Hp} (hH : H = oh (sub nm i) vs y ++ hp) : ∀ q, q < 10000 → hget H q = hget hp q := fun q hq => by
 rw [hH, hg_app_r (oh_ne fun h => by have := h.ge; omega)]
theorem full_le {α : Type} [AVal α] [OVal α] {nm j v' : Nat} {vs : Nat → Nat} {l : List α} {b : Box} {hp : Hp} (hj : j < 10000) (hp0 : hp = (nm, ⟨v', false, OVal.ty α, AVal.n α, ovL nm vs 0 l⟩) :: hrest [j] ((j, b) :: ohL nm vs 0 l)) :
  hpLe hp (oh nm (glue nm (fun k => if k = nm then v' else vs k) vs) l) := by
 rw [(oh_full l).2, hpLe_app]
 refine ⟨hpLe_iff.2 fun p hp' => ?_, ⟨by rw [hp0]; exact hg_eq, trivial⟩⟩
 obtain ⟨q, _, hq⟩ := ohL_in hp'
 have hne : p.1 ≠ nm := hq.ne
 have hge := hq.ge
 rw [hp0, hg_ne (fun e => hne e.symm), hget_rest_out (by simp; omega), hg_ne (by omega)]
 exact hpLe_iff.1 (ohL_self nm vs 0 l) p hp'
end Go.Proofs.YtjifpdcflankpaaGreat.Av

namespace Go.Proofs.YtjifpdcflankpaaGreat
open Go.RowKit Go.Proofs.YtjifpdcflankpaaGreat.Av Go.Proofs.YtjifpdcflankpaaGreat.Ml
open Go.Proofs.YtjifpdcflankpaaGreat.Av.AVal (av)

def dig (k : Nat) : List UInt8 := if h : k < 10 then [UInt8.ofNat (48 + k)] else dig (k / 10) ++ [UInt8.ofNat (48 + k % 10)]
termination_by k
decreasing_by exact Nat.div_lt_self (by omega) (by decide)
def digS (k : Nat) : ByteArray := ⟨(dig k).toArray⟩
theorem dig_small {k : Nat} (h : k < 10) : dig k = [UInt8.ofNat (48 + k)] := by rw [dig, dif_pos h]
theorem dig_great {k : Nat} (h : ¬ k < 10) : dig k = dig (k / 10) ++ [UInt8.ofNat (48 + k % 10)] := by rw [dig, dif_neg h]

theorem dig_len : ∀ (n k : Nat), 1 ≤ n → k < 10 ^ n → (dig k).length ≤ n
 | 0, _, h, _ => absurd h (by decide)
 | n + 1, k, _, hk => by
  by_cases h : k < 10
  ·rw [dig_small h]; simp
  ·rw [dig_great h]
   have h1 : 1 ≤ n := by
    rcases Nat.eq_zero_or_pos n with rfl | h1
    ·simp at hk; omega
    ·exact h1
   have := dig_len n (k / 10) h1 (by rw [Nat.pow_succ] at hk; omega)
   simp; exact this

def numS (n : Int) : ByteArray := if -4611686018427387904 ≤ n ∧ n ≤ 4611686018427387903 then (if n < 0 then ⟨#[45]⟩ ++ digS (-n).toNat else digS n.toNat) else ⟨#[]⟩
theorem digS_le (k : Nat) (hk : k ≤ 9223372036854775808) : (digS k).size ≤ 64 := by
 have := dig_len 20 k (by decide) (by omega)
 show (List.toArray _).size ≤ 64
 simp; omega
theorem numS_le (n : Int) : (numS n).size ≤ 65 := by
 unfold numS
 split
 ·split
  ·rw [ByteArray.size_append]; have := digS_le (-n).toNat (by omega); have h : (⟨#[45]⟩ : ByteArray).size = 1 := rfl; omega
  ·have := digS_le n.toNat (by omega); omega
 ·show (0 : Nat) ≤ 65; omega

theorem digS_small {k : Nat} (h : k < 10) : digS k = ⟨[UInt8.ofNat (48 + k)].toArray⟩ := by unfold digS; rw [dig_small h]
theorem digS_great {k : Nat} (h : ¬ k < 10) : digS k = digS (k / 10) ++ ⟨[UInt8.ofNat (48 + k % 10)].toArray⟩ := by
 unfold digS; rw [dig_great h]; first | (rw [ByteArray.mk_append_mk]; done) | (rw [ByteArray.mk_append_mk]; simp)
theorem av_byte (m : Nat) (h : m < 256) : AV.int .u8 ((UInt8.ofNat m).toNat : Int) = .int .u8 (m : Int) := by
 rw [UInt8.toNat_ofNat']; congr 1; omega

end Go.Proofs.YtjifpdcflankpaaGreat

set_option maxRecDepth 100000
namespace Go.Proofs.YtjifpdcflankpaaGreat
open Go.RowKit Go.Proofs.YtjifpdcflankpaaGreat.Av Go.Proofs.YtjifpdcflankpaaGreat.Ml
open Go.Proofs.YtjifpdcflankpaaGreat.Av.AVal (av)
open OVal (ov oh on)

def markS (k : Int) : ByteArray := ⟨#[109]⟩ ++ digS k.toNat
class Mk (α : Type) where
 mkv : Int → α → α
 cnt : α → Nat
open Mk (mkv cnt)
instance : Mk Int := ⟨fun k _ => k, fun _ => 1⟩
instance : Mk ByteArray := ⟨fun k _ => markS k, fun _ => 1⟩
section
variable {α : Type} [Mk α]
def mkL : Int → List α → List α
 | _, [] => []
 | k, x :: r => mkv k x :: mkL (k + (cnt x : Int)) r
def cntL : List α → Nat
 | [] => 0
 | x :: r => cnt x + cntL r
instance : Mk (List α) := ⟨mkL, cntL⟩
theorem cnt_list (l : List α) : cnt l = cntL l := rfl
end
class MkB (α : Type) [Mk α] [Bulk α] : Prop where
 le : ∀ x : α, cnt x ≤ Bulk.bulk x
instance : MkB Int := ⟨fun _ => Nat.le_refl _⟩
instance : MkB ByteArray := ⟨fun s => by show 1 ≤ s.size + 1; omega⟩
theorem cntL_bulk {α : Type} [Mk α] [Bulk α] [MkB α] : ∀ l : List α, cntL l + 1 ≤ Bulk.bulk l
 | [] => by simp [cntL, Bulk.bulk]
 | x :: r => by
  have h1 := MkB.le x
  have h2 := cntL_bulk r
  simp only [cntL, Bulk.bulk, List.map_cons, List.sum_cons] at h1 h2 ⊢
  omega
instance {α : Type} [Mk α] [Bulk α] [MkB α] : MkB (List α) := ⟨fun l => by have := cntL_bulk l; rw [cnt_list]; omega⟩
/-! lending -/
section
variable {α : Type} [AVal α] [OVal α]
end
section
variable {α β : Type} [AVal α] [OVal α] [AVal β] [OVal β]
end
structure TS where
 m : Nat
 s : ByteArray
end Go.Proofs.YtjifpdcflankpaaGreat

namespace Go.Proofs.YtjifpdcflankpaaGreat
open Go.RowKit Go.Proofs.YtjifpdcflankpaaGreat.Av Go.Proofs.YtjifpdcflankpaaGreat.Ml
open Go.Proofs.YtjifpdcflankpaaGreat.Av.AVal (av)
open OVal (ov oh on)

open Classical in
noncomputable def glueR (nm m : Nat) (vs vs' : Nat → Nat) : Nat → Nat := fun k => if ∃ i, m ≤ i ∧ InT (sub nm i) k then vs k else vs' k
section
variable {α : Type} [AVal α] [OVal α]
theorem glueR_hi {nm m : Nat} (vs vs' : Nat → Nat) : ∀ (i : Nat) (l : List α), m ≤ i → ovL nm (glueR nm m vs vs') i l = ovL nm vs i l ∧ ohL nm (glueR nm m vs vs') i l = ohL nm vs i l
 | _, [], _ => ⟨rfl, rfl⟩
 | i, e :: r, h => by
  obtain ⟨a, b⟩ := glueR_hi (nm := nm) (m := m) vs vs' (i + 1) r (by omega)
  obtain ⟨c, d⟩ := OVal.vdep (sub nm i) (glueR nm m vs vs') vs e (fun k hk => if_pos ⟨i, h, hk⟩)
  simp only [ovL, ohL, a, b, c, d, and_self]
theorem glueR_lo {nm m : Nat} (vs vs' : Nat → Nat) : ∀ (i : Nat) (l : List α), i + l.length ≤ m → ovL nm (glueR nm m vs vs') i l = ovL nm vs' i l ∧ ohL nm (glueR nm m vs vs') i l = ohL nm vs' i l
 | _, [], _ => ⟨rfl, rfl⟩
 | i, e :: r, h => by
  simp only [List.length_cons] at h
  obtain ⟨a, b⟩ := glueR_lo (nm := nm) (m := m) vs vs' (i + 1) r (by omega)
  obtain ⟨c, d⟩ := OVal.vdep (sub nm i) (glueR nm m vs vs') vs' e (fun k hk => if_neg (fun ⟨j, hj, hk'⟩ => by have := hk.sib hk'; omega))
  simp only [ovL, ohL, a, b, c, d, and_self]
theorem glueR_app {nm : Nat} (vs vs' : Nat → Nat) (i : Nat) (a b : List α) : ovL nm (glueR nm (i + a.length) vs vs') i (a ++ b) = ovL nm vs' i a ++ ovL nm vs (i + a.length) b ∧ ohL nm (glueR nm (i + a.length) vs vs') i (a ++ b) = ohL nm vs' i a ++ ohL nm vs (i + a.length) b := by
 have h1 := glueR_lo (α := α) (nm := nm) (m := i + a.length) vs vs' i a (Nat.le_refl _)
 have h2 := glueR_hi (α := α) (nm := nm) (m := i + a.length) vs vs' (i + a.length) b (Nat.le_refl _)
 rw [ovL_app, ohL_app, h1.1, h1.2, h2.1, h2.2]
 exact ⟨rfl, rfl⟩
theorem parts_app {nm m i : Nat} {vs vs' : Nat → Nat} {a b : List α} {s : Hp} (hm : i + a.length ≤ m) (hs : ∀ p ∈ ohL nm vs' i a, hget s p.1 = some p.2) : hpLe (ohL nm vs m b ++ s) (ohL nm vs' i a ++ ohL nm vs m b) := by
 rw [hpLe_app]
 refine ⟨hpLe_iff.2 fun p hp => ?_, hpLe_l (ohL_self nm vs m b)⟩
 obtain ⟨q, hq, hin⟩ := ohL_mem hp
 have hn : ∀ r ∈ ohL nm vs m b, r.1 ≠ p.1 := fun r hr e => by
  obtain ⟨j, hj, h2⟩ := ohL_in hr
  rw [e] at h2
  have := h2.sib (OVal.inh hin)
  omega
 rw [hg_app_r hn]
 exact hs p hp
end
theorem ohL_far {α : Type} [AVal α] [OVal α] {nm i q : Nat} {vs : Nat → Nat} {l : List α} (h : q < 10000) : hget (ohL nm vs i l) q = none := hg_none fun p hp e => by
 obtain ⟨j, _, hj⟩ := ohL_in hp
 have := hj.ge
 omega
end Go.Proofs.YtjifpdcflankpaaGreat

namespace Go.Proofs.YtjifpdcflankpaaGreat
open Go.RowKit Go.Proofs.YtjifpdcflankpaaGreat.Av
open Go.Proofs.YtjifpdcflankpaaGreat.Av.AVal (av)
open AVal (av)
open OVal (ov oh on)

theorem Av.VR.tupSet {S : Nat → Prop} {w : World} {μ : Mu} {u : Value} {cs : List AV} {off : Nat} {y : AV} (h : VR S w μ u (.tup cs)) (hy : ∀ x v, cs[off]? = some x → VR S w μ v x → VR S w μ v y) : VR S w μ u (.tup (cs.set off y)) := by
 cases h with
 | tup vs _ hl hh =>
  refine .tup vs _ (by simpa using hl) (fun q v x p e => ?_)
  rw [List.getElem?_set] at e
  split at e
  ·rename_i hq
   subst hq
   split at e
   ·rename_i hlt
    cases e
    exact hy _ v (List.getElem?_eq_getElem hlt) (hh off v _ p (List.getElem?_eq_getElem hlt))
   ·cases e
  ·exact hh q v x p e
theorem Goes.newT {s : St} {T : St → Prop} (i o2 off k : Nat) (ty : TypeId) (esz : Nat) {ts cs : List AV} (hi : fget s.fr i = .tup ts) (ht : ts[o2]? = some (.agg cs)) (hc : cs[off]? = some .nils) (h : ∀ v, Goes ⟨(i, .tup (ts.set o2 (.agg (cs.set off (.row k v 0))))) :: s.fr, (k, ⟨v, false, ty, esz, []⟩) :: s.hp⟩ T) : Goes s T :=
 Goes.newF (fun v => (i, .tup (ts.set o2 (.agg (cs.set off (.row k v 0))))) :: s.fr) k ty esz (fun v S w μ a e hf => fr_put hf (Av.VR.tupSet (hi ▸ hf i) fun x u hx hu => by
  rw [ht] at hx; cases hx
  exact hu.aggSet rfl fun x u hx hu => by rw [hc] at hx; cases hx; exact hu.new e)) h
theorem Goes.purB {s : St} {T : St → Prop} (k : Nat) {b : Box} (hb : hget s.hp k = some b) (h : Goes ⟨s.fr, (k, ⟨b.ver, b.frz, b.ty, b.esz, b.es.map (AV.pur s.hp)⟩) :: s.hp⟩ T) : Goes s T := by
 refine ⟨?_⟩
 rintro E nt a w ⟨hd, hn, S, μ, hw, hf⟩
 have hget' : ∀ j bj, hget ((k, (⟨b.ver, b.frz, b.ty, b.esz, b.es.map (AV.pur s.hp)⟩ : Box)) :: s.hp) j = some bj → ∃ bo, hget s.hp j = some bo ∧ bo.ver = bj.ver ∧ bo.frz = bj.frz := fun j bj hj => by
  simp only [hget] at hj
  split at hj
  ·rename_i e; subst e; cases hj; exact ⟨b, hb, rfl, rfl⟩
  ·exact ⟨bj, hj, rfl, rfl⟩
 refine h.run E nt a w ⟨hd, hn, S, μ, ⟨hw.ext, hw.lt, hw.base, hw.new, hw.fresh, fun j bj hj => ?_, ?_, hw.le⟩, hf⟩
 ·simp only [hget] at hj
  split at hj
  ·rename_i e; subst e; cases hj
   obtain ⟨B0, h0, hz0, hh⟩ := hw.box k b hb
   refine ⟨B0, h0, hz0, ?_⟩
   cases hbl : B0.blk with
   | none => rw [hbl] at hh; simp only at hh ⊢; rw [hh, List.map_nil]
   | some g =>
    rw [hbl] at hh
    obtain ⟨a1, a2, a3, cu, a4, a5, a6, a7, a8⟩ := hh
    have hok : ∀ e ∈ b.es, e.ok = true := fun e he => by
     by_cases hq : e.isAgg = true
     ·simp [AV.ok, hq]
     ·have : e.cells = [e] := by cases e <;> first | rfl | (simp [AV.isAgg] at hq)
      simp [AV.ok, (a8.1 e he).2 e (by rw [this]; simp)]
    exact ⟨a1, a2, a3, cu, a4, a5, a6, by simpa using a7, a8.pur hw hok⟩
  ·exact hw.box j bj hj
 ·intro j j' bj bj' Bj Bj' g hj hj' hne hf1 hf2 hBj hBj' hbl
  obtain ⟨bo, g1, g2, g3⟩ := hget' j bj hj
  obtain ⟨bo', g1', g2', g3'⟩ := hget' j' bj' hj'
  rw [← g2] at hBj; rw [← g2'] at hBj'
  exact hw.apart j j' bo bo' Bj Bj' g g1 g1' hne (g3.trans hf1) (g3'.trans hf2) hBj hBj' hbl
theorem callsF_weaker {P : Go.Program} {f : FuncId} {args : List AV} {r r' : AV} (h : CallsF P f args r) (hr : ∀ S w v, VR S w mu0 v r → VR S w mu0 v r') : CallsF P f args r' := ⟨h.1, h.2.1, fun S w vs h1 h2 => (h.2.2 S w vs h1 h2).mono fun e w' ⟨v, he, hv, hb⟩ => ⟨v, he, hr _ _ _ hv, hb⟩⟩
end Go.Proofs.YtjifpdcflankpaaGreat

namespace Go.Proofs.YtjifpdcflankpaaGreat.Av
open Go.RowKit

theorem callsF_frz {P : Go.Program} {f : FuncId} {args : List AV} {res : AV} {Post : AV → Hp → Prop} (h : CallsH P f args [] Post) (h1 : ∀ x ∈ args, AvPure x) (h2 : AvPure res) (hp : ∀ r hp', Post r hp' → r.pur (frzAll hp') = res) : CallsF P f args res := by
 obtain ⟨hc, h⟩ := h
 refine ⟨hc, h1, fun S w vs hS hv => ?_⟩
 have hW : WI ⟨w, S, ownOf mu0 [], mu0⟩ S w mu0 [] := ⟨⟨rfl, rfl, rfl, Nat.le_refl _, fun _ _ _ => rfl⟩, hS, fun _ h => h, fun _ h => .inl h, ⟨1, Nat.zero_lt_one, fun _ _ _ => rfl, fun _ _ h => by cases h⟩, fun k bx h => (by cases h), fun k k' bx bx' B B' b h => (by cases h), Mu.le.refl _⟩
 have hno : ∀ b, ¬ ownOf mu0 [] b := by rintro b ⟨k, bx, B, h, _⟩; cases h
 refine (h S w mu0 vs hW hv).mono fun e w' ⟨v, r, hp', S', μ', he, hpost, hvr, hw'⟩ => ?_
 obtain ⟨S1, w1, s1⟩ := WI.frzL (S := S') (hnames hp') hw'
 obtain ⟨S2, w2, s2⟩ := WI.frzL (S := S1) (hnames hp') w1
 have hv2 := VR.pur w2 (hvr.mono (fun b hb => s2 b (s1 b hb)) (Same.refl _ _) (Mu.le.refl _))
 have e : r.pur (frzL (hnames hp') (frzL (hnames hp') hp')) = res := hp r hp' hpost
 rw [e] at hv2
 have hsub : ∀ b, S2 b → S b ∨ (w.heap.size ≤ b ∧ b < w'.heap.size) := fun b hb => by
  rcases w2.new b hb with h | h | h
  ·exact .inl h
  ·exact .inr ⟨h, w2.lt b hb⟩
  ·exact (hno b h).elim
 exact ⟨v, he, (h2 _ _ _ _ hv2).mono hsub (Same.refl _ _) (Mu.le.refl _), ⟨hw'.ext.os, hw'.ext.tape, hw'.ext.output, hw'.ext.size, fun b hb => hw'.ext.block b hb (hno b)⟩⟩
theorem vrs_nil_arg {S : Nat → Prop} {w : World} {μ : Mu} {vs : List Value} {a b : List AV} (h : VRs S w μ vs (a ++ .nils :: b)) : VRs S w μ vs (a ++ .sl [] :: b) := by
 refine ⟨by rw [h.1]; simp, fun i v x p q => ?_⟩
 by_cases hi : i = a.length
 ·subst hi
  rw [List.getElem?_append_right (Nat.le_refl _), Nat.sub_self] at q
  cases q
  have h0 := h.2 a.length v .nils p (by rw [List.getElem?_append_right (Nat.le_refl _), Nat.sub_self]; rfl)
  cases h0
  exact .sl0 none 0 (Nat.zero_le _)
 ·refine h.2 i v x p ?_
  rw [List.getElem?_append] at q ⊢
  split
  ·rename_i hlt; rw [if_pos hlt] at q; exact q
  ·rename_i hlt
   rw [if_neg hlt] at q
   obtain ⟨k, hk⟩ : ∃ k, i - a.length = k + 1 := ⟨i - a.length - 1, by omega⟩
   rw [hk] at q ⊢
   exact q
theorem callsF_argNil {P : Go.Program} {f : FuncId} {a b : List AV} {r : AV} (h : CallsF P f (a ++ .sl [] :: b) r) : CallsF P f (a ++ .nils :: b) r := ⟨h.1, fun x hx => by
 rcases List.mem_append.1 hx with hx | hx
 ·exact h.2.1 x (List.mem_append.2 (.inl hx))
 ·rcases List.mem_cons.1 hx with rfl | hx
  ·exact AvPure.nils
  ·exact h.2.1 x (List.mem_append.2 (.inr (List.mem_cons_of_mem _ hx))), fun S w vs h1 h2 => h.2.2 S w vs h1 (vrs_nil_arg h2)⟩
end Go.Proofs.YtjifpdcflankpaaGreat.Av
