/-
 OWN ROWS WITHIN OWN ROWS: the names of the parts, when a plain value lies in rows of its own, how it is lent, how a part is exchanged. Conditions: none.
-/
import Derived.Test.YteeiaaogmjbcjaaGreatKJ05
set_option linter.unusedVariables false
set_option linter.unusedSimpArgs false
namespace Go.Proofs.YteeiaaogmjbcjaaGreat.Av
open Go.RowKit
open AVal (av)

def sub (nm i : Nat) : Nat := 10000 * (2 ^ i * (2 * nm + 1))
theorem Acq : ∀ (i j a b : Nat), 2 ^ i * (2 * a + 1) = 2 ^ j * (2 * b + 1) → i = j ∧ a = b := by
 intro i
 induction i with
 | zero =>
  intro j a b h
  cases j with
  | zero => simp at h; exact ⟨rfl, by omega⟩
  | succ j =>
   rw [Nat.pow_succ, Nat.mul_comm (2 ^ j) 2, Nat.mul_assoc] at h
   generalize 2 ^ j * (2 * b + 1) = q at h
   simp at h; omega
 | succ i ih =>
  intro j a b h
  cases j with
  | zero =>
   rw [Nat.pow_succ, Nat.mul_comm (2 ^ i) 2, Nat.mul_assoc] at h
   generalize 2 ^ i * (2 * a + 1) = q at h
   simp at h; omega
  | succ j =>
   rw [Nat.pow_succ, Nat.mul_comm (2 ^ i) 2, Nat.mul_assoc, Nat.pow_succ, Nat.mul_comm (2 ^ j) 2, Nat.mul_assoc] at h
   obtain ⟨h1, h2⟩ := ih j a b (by omega)
   exact ⟨by omega, h2⟩
theorem Ib {a b i j : Nat} (h : sub a i = sub b j) : a = b ∧ i = j := by
 unfold sub at h
 have := Acq i j a b (by omega)
 exact ⟨this.2, this.1⟩
theorem WS (nm i : Nat) : 10000 * (2 * nm + 1) ≤ sub nm i := by
 unfold sub
 have h : 1 ≤ 2 ^ i := Nat.one_le_two_pow
 exact Nat.mul_le_mul_left _ (Nat.le_trans (by omega) (Nat.mul_le_mul_right (2 * nm + 1) h))
theorem EE (nm i : Nat) : nm < sub nm i := by have := WS nm i; omega
theorem B5 (nm i : Nat) : 10000 ≤ sub nm i := by have := WS nm i; omega

inductive InT (nm : Nat) : Nat → Prop
 | root : InT nm nm
 | sub {p : Nat} (i : Nat) (h : InT nm p) : InT nm (sub p i)
theorem InT.le {nm k : Nat} (h : InT nm k) : nm ≤ k := by
 induction h with
 | root => exact Nat.le_refl _
 | sub i _ ih => exact Nat.le_trans ih (Nat.le_of_lt (EE _ _))
theorem InT.up {nm i k : Nat} (h : InT (Av.sub nm i) k) : InT nm k := by
 induction h with
 | root => exact .sub i .root
 | sub j _ ih => exact .sub j ih
theorem InT.ne {nm i k : Nat} (h : InT (Av.sub nm i) k) : k ≠ nm := by
 have := h.le; have := EE nm i; omega
theorem InT.ge {nm i k : Nat} (h : InT (Av.sub nm i) k) : 10000 ≤ k := Nat.le_trans (B5 nm i) h.le
theorem InT.sib {nm i j k : Nat} (h : InT (Av.sub nm i) k) : InT (Av.sub nm j) k → i = j := by
 induction h with
 | root =>
  intro h'
  generalize hk : Av.sub nm i = k at h'
  cases h' with
  | root => exact (Ib hk).2
  | sub q h' => have := (Ib hk).1; subst this; exact absurd rfl h'.ne
 | sub q h ih =>
  rename_i p
  intro h'
  generalize hk : Av.sub p q = k at h'
  cases h' with
  | root => have := (Ib hk).1; subst this; exact absurd rfl h.ne
  | sub q' h' => have := (Ib hk).1; subst this; exact ih h'
theorem InT.apart {a b k : Nat} (ha : a < 10000) (hb : b < 10000) (h : InT a k) : InT b k → a = b := by
 induction h with
 | root =>
  intro h'
  cases h' with
  | root => rfl
  | sub q _ => rename_i p _; have := B5 p q; omega
 | sub q h ih =>
  rename_i p
  intro h'
  generalize hk : Av.sub p q = k at h'
  cases h' with
  | root => have := B5 p q; omega
  | sub q' h' => have := (Ib hk).1; subst this; exact ih h'
theorem InT.small {a k : Nat} (h : InT a k) (hk : k < 10000) : k = a := by
 cases h with
 | root => rfl
 | sub i h => rename_i p; have := B5 p i; omega

/-! ### heaps, name by name -/
theorem RN : ∀ {hp : Hp} {k : Nat} {b : Box}, AA hp k = some b → (k, b) ∈ hp
 | (j, c) :: r, k, b, h => by
  simp only [AA] at h
  split at h
  ·rename_i e; subst e; cases h; exact List.mem_cons_self
  ·exact List.mem_cons_of_mem _ (RN h)
theorem Lw : ∀ {hp : Hp} {k : Nat}, (∀ p ∈ hp, p.1 ≠ k) → AA hp k = none
 | [], _, _ => rfl
 | (j, c) :: r, k, h => by
  simp only [AA]
  rw [if_neg (h (j, c) List.mem_cons_self)]
  exact Lw fun p hp => h p (List.mem_cons_of_mem _ hp)
theorem RO : ∀ (a b : Hp) (k : Nat), AA (a ++ b) k = (AA a k).orElse fun _ => AA b k
 | [], b, k => rfl
 | (j, c) :: r, b, k => by
  simp only [List.cons_append, AA]
  split
  ·rfl
  ·exact RO r b k
theorem JN {a b : Hp} {k : Nat} {x : Box} (h : AA a k = some x) : AA (a ++ b) k = some x := by rw [RO, h]; rfl
theorem Ca {a b : Hp} {k : Nat} (h : ∀ p ∈ a, p.1 ≠ k) : AA (a ++ b) k = AA b k := by rw [RO, Lw h]; rfl
theorem Bc {j k : Nat} {b : Box} {r : Hp} (h : j ≠ k) : AA ((j, b) :: r) k = AA r k := by simp only [AA]; rw [if_neg h]
theorem Dt {k : Nat} {b : Box} {r : Hp} : AA ((k, b) :: r) k = some b := by simp [AA]
theorem AP {s : Hp} : ∀ {t : Hp}, Bu s t ↔ ∀ p ∈ t, AA s p.1 = some p.2
 | [] => ⟨fun _ p hp => (by cases hp), fun _ => trivial⟩
 | (k, b) :: r => by
  rw [L4, AP (t := r)]
  exact ⟨fun h p hp => (List.mem_cons.1 hp).elim (fun e => by subst e; exact h.1) (h.2 p), fun h => ⟨h _ List.mem_cons_self, fun p hp => h p (List.mem_cons_of_mem _ hp)⟩⟩
theorem AK {s a b : Hp} : Bu s (a ++ b) ↔ Bu s a ∧ Bu s b := by
 simp only [AP, List.mem_append]
 exact ⟨fun h => ⟨fun p hp => h p (.inl hp), fun p hp => h p (.inr hp)⟩, fun h p hp => hp.elim (h.1 p) (h.2 p)⟩
theorem E9 {s a b : Hp} (h : Bu a s) : Bu (a ++ b) s := AP.2 fun p hp => JN (AP.1 h p hp)
theorem contains_iff {l : List Nat} {k : Nat} : l.contains k = true ↔ k ∈ l := by simp
theorem BP {hs : List Nat} {hp : Hp} {k : Nat} (h : k ∉ hs) : AA (B6 hs hp) k = AA hp k := by
 rw [L6, if_neg (fun c => h (contains_iff.1 c))]
theorem Lu {hp : Hp} {k j : Nat} (h : j ≠ k) : AA (HP hp j) k = AA hp k := by
 unfold HP
 split
 ·exact Bc h
 ·rfl
theorem CZ : ∀ {ks : List Nat} {hp : Hp} {k : Nat}, k ∉ ks → AA (Cr ks hp) k = AA hp k
 | [], _, _, _ => rfl
 | j :: r, hp, k, h => by
  rw [Gh, CZ (ks := r) (fun x => h (List.mem_cons_of_mem _ x)), Lu (fun e => h (by rw [e]; exact List.mem_cons_self))]
theorem Ly : ∀ (a b : List Nat) (hp : Hp), Cr (a ++ b) hp = Cr b (Cr a hp)
 | [], _, _ => rfl
 | j :: r, b, hp => by rw [List.cons_append, Gh, Gh, Ly r b]

/-! ### plain values in rows of their own -/
class OVal (α : Type) [AVal α] where
 ty : TypeId
 ov : Nat → (Nat → Nat) → α → AV
 oh : Nat → (Nat → Nat) → α → Hp
 on : Nat → α → List Nat
 names : ∀ nm vs y, (oh nm vs y).map Prod.fst = on nm y
 inn : ∀ nm y k, k ∈ on nm y → InT nm k
 self : ∀ nm vs y, Bu (oh nm vs y) (oh nm vs y)
 LS : ∀ nm vs vs' y, (∀ k, InT nm k → vs k = vs' k) → ov nm vs y = ov nm vs' y ∧ oh nm vs y = oh nm vs' y
 L0 : ∀ nm vs y hp, Bu hp (oh nm vs y) → (ov nm vs y).pur (Cr (on nm y) hp) = av y
 dep : ∀ nm vs y hp hp', (∀ k, InT nm k → AA hp k = AA hp' k) → (ov nm vs y).pur hp = (ov nm vs y).pur hp'
 free : ∀ nm vs y, ∀ p ∈ oh nm vs y, p.2.frz = false ∧ ∀ e ∈ p.2.es, ∀ x ∈ e.cells, x.HR = true
 QT : ∀ nm vs y, ∀ x ∈ (ov nm vs y).cells, x.HR = true
 ok : ∀ nm vs y, (ov nm vs y).ok = true
 agg : ∀ nm vs y, (ov nm vs y).isAgg = (av y).isAgg
 len : ∀ nm vs y, (ov nm vs y).cells.length = AVal.n α
open OVal (ov oh on)
theorem OVal.inh {α : Type} [AVal α] [OVal α] {nm : Nat} {vs : Nat → Nat} {y : α} {p : Nat × Box} (h : p ∈ oh nm vs y) : InT nm p.1 :=
 OVal.inn nm y p.1 (by rw [← OVal.names nm vs y]; exact List.mem_map_of_mem h)
theorem AdR {α : Type} [AVal α] [OVal α] {nm k : Nat} {vs : Nat → Nat} {y : α} (h : ¬ InT nm k) : ∀ p ∈ oh nm vs y, p.1 ≠ k := fun p hp e => h (e ▸ OVal.inh hp)
theorem Adj {α : Type} [AVal α] [OVal α] {nm k : Nat} {y : α} (h : ¬ InT nm k) : k ∉ on nm y := fun e => h (OVal.inn nm y k e)
@[reducible] def Abd {α : Type} [AVal α] (ty : TypeId) (h : ∀ (y : α), ∀ x ∈ (av y).cells, x.HR = true) : OVal α :=
 ⟨ty, fun _ _ x => av x, fun _ _ _ => [], fun _ _ => [], fun _ _ _ => rfl, fun _ _ _ h => (by cases h), fun _ _ _ => trivial, fun _ _ _ _ _ => ⟨rfl, rfl⟩, fun _ _ y hp _ => AVal.nop y _, fun _ _ y _ _ _ => (AVal.nop y _).trans (AVal.nop y _).symm, fun _ _ _ p h => (by cases h), fun _ _ y x hx => h y x hx, fun _ _ y => AVal.ok y, fun _ _ _ => rfl, fun _ _ y => AVal.len y⟩
instance : OVal Int := Abd 3 (fun y x hx => by rw [Af] at hx; simp [AV.cells] at hx; subst hx; rfl)
instance : OVal ByteArray := Abd 9 (fun y x hx => by rw [FA] at hx; simp [AV.cells] at hx; subst hx; rfl)
section
variable {α : Type} [AVal α] [OVal α]
def ovL (nm : Nat) (vs : Nat → Nat) : Nat → List α → List AV
 | _, [] => []
 | i, e :: r => ov (sub nm i) vs e :: ovL nm vs (i + 1) r
def ohL (nm : Nat) (vs : Nat → Nat) : Nat → List α → Hp
 | _, [] => []
 | i, e :: r => oh (sub nm i) vs e ++ ohL nm vs (i + 1) r
def onL (nm : Nat) : Nat → List α → List Nat
 | _, [] => []
 | i, e :: r => on (sub nm i) e ++ onL nm (i + 1) r
theorem D7 (nm : Nat) (vs : Nat → Nat) : ∀ (i : Nat) (l : List α), (ovL nm vs i l).length = l.length
 | _, [] => rfl
 | i, e :: r => by simp [ovL, D7 nm vs (i + 1) r]
theorem Lb (nm : Nat) (vs : Nat → Nat) : ∀ (i : Nat) (l : List α) (j : Nat), (ovL nm vs i l)[j]? = (l[j]?).map (ov (sub nm (i + j)) vs)
 | _, [], j => by simp [ovL]
 | i, e :: r, 0 => by simp [ovL]
 | i, e :: r, j + 1 => by
  simp only [ovL, List.getElem?_cons_succ]
  rw [Lb nm vs (i + 1) r j, show i + 1 + j = i + (j + 1) by omega]
theorem Rx (nm : Nat) (vs : Nat → Nat) (l : List α) {j : Nat} (h : j < l.length) (d : AV) : (ovL nm vs 0 l).getD j d = ov (sub nm j) vs l[j] := by
 rw [List.getD_eq_getElem?_getD, Lb, List.getElem?_eq_getElem h]; simp
theorem Acm {nm : Nat} {vs : Nat → Nat} {i : Nat} {l : List α} {x : AV} (h : x ∈ ovL nm vs i l) : ∃ (j : Nat) (e : α), x = ov (sub nm j) vs e := by
 obtain ⟨j, hj⟩ := List.getElem?_of_mem h
 rw [Lb, Option.map_eq_some_iff] at hj
 obtain ⟨e, _, rfl⟩ := hj
 exact ⟨_, e, rfl⟩
theorem J0 {nm : Nat} {vs : Nat → Nat} : ∀ {i : Nat} {l : List α} {p : Nat × Box}, p ∈ ohL nm vs i l → ∃ j, ∃ hj : j < l.length, p ∈ oh (sub nm (i + j)) vs l[j]
 | i, e :: r, p, h => by
  simp only [ohL, List.mem_append] at h
  rcases h with h | h
  ·exact ⟨0, by simp, by simpa using h⟩
  ·obtain ⟨j, hj, h⟩ := J0 h
   exact ⟨j + 1, by simpa using hj, by rw [show i + (j + 1) = i + 1 + j by omega]; simpa using h⟩
theorem XH {nm : Nat} {vs : Nat → Nat} : ∀ {i : Nat} {l : List α} {p : Nat × Box} (j : Nat) (hj : j < l.length), p ∈ oh (sub nm (i + j)) vs l[j] → p ∈ ohL nm vs i l
 | i, e :: r, p, 0, hj, h => by simp only [ohL, List.mem_append]; exact .inl (by simpa using h)
 | i, e :: r, p, j + 1, hj, h => by
  simp only [ohL, List.mem_append]
  exact .inr (XH j (by simpa using hj) (by rw [show i + (j + 1) = i + 1 + j by omega] at h; simpa using h))
theorem Db {nm : Nat} {vs : Nat → Nat} {i : Nat} {l : List α} {p : Nat × Box} (h : p ∈ ohL nm vs i l) : ∃ j, i ≤ j ∧ InT (sub nm j) p.1 := by
 obtain ⟨j, _, h⟩ := J0 h
 exact ⟨i + j, by omega, OVal.inh h⟩
theorem Rz {nm : Nat} : ∀ {i : Nat} {l : List α} {k : Nat}, k ∈ onL nm i l → ∃ j, i ≤ j ∧ InT (sub nm j) k
 | i, e :: r, k, h => by
  simp only [onL, List.mem_append] at h
  rcases h with h | h
  ·exact ⟨i, Nat.le_refl _, OVal.inn _ _ _ h⟩
  ·obtain ⟨j, hj, h⟩ := Rz h
   exact ⟨j, by omega, h⟩
theorem Ql (nm : Nat) (vs : Nat → Nat) : ∀ (i : Nat) (l : List α), (ohL nm vs i l).map Prod.fst = onL nm i l
 | _, [] => rfl
 | i, e :: r => by simp only [ohL, onL, List.map_append, OVal.names, Ql nm vs (i + 1) r]
theorem E2 (nm : Nat) (vs : Nat → Nat) : ∀ (i : Nat) (l : List α), Bu (ohL nm vs i l) (ohL nm vs i l)
 | _, [] => trivial
 | i, e :: r => by
  simp only [ohL]
  rw [AK]
  refine ⟨E9 (OVal.self _ _ _), AP.2 fun p hp => ?_⟩
  obtain ⟨j, hj, h⟩ := Db hp
  rw [Ca (AdR fun h' => by have := h'.sib h; omega)]
  exact AP.1 (E2 nm vs (i + 1) r) p hp
theorem Tc (nm : Nat) (vs vs' : Nat → Nat) (h : ∀ k, InT nm k → vs k = vs' k) : ∀ (i : Nat) (l : List α), ovL nm vs i l = ovL nm vs' i l ∧ ohL nm vs i l = ohL nm vs' i l
 | _, [] => ⟨rfl, rfl⟩
 | i, e :: r => by
  obtain ⟨a, b⟩ := Tc nm vs vs' h (i + 1) r
  obtain ⟨c, d⟩ := OVal.LS (sub nm i) vs vs' e (fun k hk => h k hk.up)
  simp only [ovL, ohL, a, b, c, d, and_self]
theorem Td (nm : Nat) (vs : Nat → Nat) : ∀ (i : Nat) (l : List α) (hp : Hp), Bu hp (ohL nm vs i l) → (ovL nm vs i l).map (AV.pur (Cr (onL nm i l) hp)) = l.map av
 | _, [], _, _ => rfl
 | i, e :: r, hp, h => by
  simp only [ohL, AK] at h
  simp only [ovL, onL, List.map_cons, Ly]
  have h1 := OVal.L0 (sub nm i) vs e hp h.1
  have h2 := Td nm vs (i + 1) r (Cr (on (sub nm i) e) hp) (AP.2 fun p hp' => by
   obtain ⟨j, hj, hi⟩ := Db hp'
   rw [CZ (Adj fun h' => by have := h'.sib hi; omega)]
   exact AP.1 h.2 p hp')
  rw [h2, ← h1]
  congr 1
  refine OVal.dep _ _ _ _ _ fun k hk => CZ fun hm => ?_
  obtain ⟨j, hj, hi⟩ := Rz hm
  have := hk.sib hi
  omega
theorem AaB {nm : Nat} {vs : Nat → Nat} {i : Nat} {l : List α} : ∀ e ∈ ovL nm vs i l, ∀ x ∈ e.cells, x.HR = true := fun e he x hx => by
 obtain ⟨j, y, rfl⟩ := Acm he
 exact OVal.QT _ _ _ x hx
end

section
variable {α : Type} [AVal α] [OVal α]
def Tw (nm : Nat) (vs : Nat → Nat) (l : List α) : Box := ⟨vs nm, false, OVal.ty α, AVal.n α, ovL nm vs 0 l⟩
instance : OVal (List α) where
 ty := 0
 ov nm vs l := .row nm (vs nm) l.length
 oh nm vs l := ohL nm vs 0 l ++ [(nm, Tw nm vs l)]
 on nm l := onL nm 0 l ++ [nm]
 names nm vs l := by simp [Ql]
 inn nm l k h := by
  rcases List.mem_append.1 h with h | h
  ·obtain ⟨j, _, h⟩ := Rz h; exact h.up
  ·simp at h; subst h; exact .root
 self nm vs l := by
  rw [AK]
  refine ⟨E9 (E2 _ _ _ _), AP.2 fun p hp => ?_⟩
  simp at hp; subst hp
  rw [Ca (fun p hp e => by obtain ⟨j, _, h⟩ := Db hp; exact h.ne e)]
  exact Dt
 LS nm vs vs' l h := by
  obtain ⟨a, b⟩ := Tc nm vs vs' h 0 l
  simp only [Tw, a, b, h nm .root, and_self]
 L0 nm vs l hp h := by
  rw [AK] at h
  have h1 := Td nm vs 0 l hp h.1
  have h2 : AA hp nm = some (Tw nm vs l) := AP.1 h.2 (nm, _) List.mem_cons_self
  have h3 : AA (Cr (onL nm 0 l) hp) nm = some (Tw nm vs l) := by
   rw [CZ (fun hm => by obtain ⟨j, _, h⟩ := Rz hm; exact h.ne rfl)]; exact h2
  rw [Ly, Gh, Ov]
  simp only [AV.pur, AV.BB, HP, h3, Dt, Tw, h1]
  rw [if_pos (by simp), List.take_of_length_le (by simp)]
  rfl
 dep nm vs l hp hp' h := by simp only [AV.pur, AV.BB, h nm .root]
 free nm vs l p hp := by
  rcases List.mem_append.1 hp with h | h
  ·obtain ⟨j, hj, h⟩ := J0 h; exact OVal.free _ _ _ p h
  ·simp at h; subst h; exact ⟨rfl, AaB⟩
 QT nm vs l x hx := by simp [AV.cells] at hx; subst hx; rfl
 ok _ _ _ := rfl
 agg _ _ _ := rfl
 len _ _ _ := rfl
theorem La (nm : Nat) (vs : Nat → Nat) (l : List α) : ov nm vs l = .row nm (vs nm) l.length := eqq rfl
theorem JY (nm : Nat) (vs : Nat → Nat) (l : List α) : oh nm vs l = ohL nm vs 0 l ++ [(nm, Tw nm vs l)] := eqq rfl
theorem XE {nm : Nat} {vs : Nat → Nat} {l : List α} {i : Nat} (hi : i < l.length) : Bu (oh nm vs l) (oh (sub nm i) vs l[i]) := AP.2 fun p hp =>
 AP.1 (OVal.self nm vs l) p (by rw [JY]; exact List.mem_append_left _ (XH i hi (by simpa using hp)))
end
theorem Zy {β : Type} [AVal β] [OVal β] {K' j : Nat} {b : Box} {vs' : Nat → Nat} {z : β} {hp : Hp} (h : ¬ InT K' j) (hz : Bu hp (oh K' vs' z)) : Bu ((j, b) :: hp) (oh K' vs' z) :=
 AP.2 fun p hp' => by rw [Bc (fun e : j = p.1 => h (by rw [e]; exact OVal.inh hp'))]; exact AP.1 hz p hp'
theorem DQ {q nm i : Nat} (hq : q < 10000) : (q == sub nm i) = false := beq_eq_false_iff_ne.2 fun e => by have := B5 nm i; omega
theorem Aa7 {β : Type} [AVal β] [OVal β] {nm i j : Nat} {b : Box} {vs : Nat → Nat} {z : β} {hp : Hp} (hz : Bu hp (oh (sub nm i) vs z)) (hj : j < 10000) : Bu ((j, b) :: hp) (oh (sub nm i) vs z) :=
 Zy (fun h => by have := h.ge; omega) hz
theorem Te {α : Type} [AVal α] [OVal α] (h : ∀ nm vs (x : α), ov nm vs x = av x) (nm : Nat) (vs : Nat → Nat) : ∀ (i : Nat) (l : List α), ovL nm vs i l = l.map av
 | _, [] => rfl
 | i, e :: r => by simp only [ovL, List.map_cons, h, Te h nm vs (i + 1) r]
theorem Tl {α : Type} [AVal α] [OVal α] (h : ∀ nm vs (x : α), oh nm vs x = []) (nm : Nat) (vs : Nat → Nat) : ∀ (i : Nat) (l : List α), ohL nm vs i l = []
 | _, [] => rfl
 | i, e :: r => by simp only [ohL, h, Tl h nm vs (i + 1) r, List.append_nil]
theorem JZ (nm : Nat) (vs : Nat → Nat) (l : List Int) : oh nm vs l = [(nm, ⟨vs nm, false, 3, 1, l.map av⟩)] := by
 rw [JY, Tl (fun _ _ _ => rfl), List.nil_append, Tw, Te (fun _ _ _ => rfl)]; rfl
theorem Ag (hp : Hp) : B6 [] hp = hp := by
 induction hp with
 | nil => rfl
 | cons p r ih => obtain ⟨q, c⟩ := p; rw [KG, if_neg (by simp), ih]
/-! ### calls that are handed parts -/
theorem Al {P : Go.Program} {f : FuncId} {args : List AV} {hp hp0 : Hp} {k : AV → Hp → Prop} {Post : AV → Hp → Prop} (hs : List Nat) (h : AO P f args hp0 Post) {kp : Ds k} (he : JK hs hp = hp0) (hk : ∀ r hp', Post r hp' → ∀ H, H = hp' ++ B6 hs hp → k r H) : Bd2 (fun k => Nn P f args hp k) k kp :=
 Ac hs h he fun r hp' hpst => hk r hp' hpst _ rfl
section
variable {α : Type} [AVal α] [OVal α]
theorem Ge {H : Hp} {K : Nat} {vs : Nat → Nat} {l : List α} (h : Bu H (oh K vs l)) : AA H K = some ⟨vs K, false, OVal.ty α, AVal.n α, ovL K vs 0 l⟩ := by
 rw [JY, AK] at h
 exact h.2.1
end
end Go.Proofs.YteeiaaogmjbcjaaGreat.Av
