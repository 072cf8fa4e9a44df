/-
 OWN ROWS WITHIN OWN ROWS: the names of the parts, when a plain value lies in rows of its own, how it is lent, how a part is exchanged. Conditions: none.
-/
import Derived.Test.YteeiaaogmjbcjaaGreatUJ05
set_option linter.unusedVariables false
set_option linter.unusedSimpArgs false
namespace Go.Proofs.YteeiaaogmjbcjaaGreat.Av
open Go.RowKit
open AVal (av)

def sub (nm i : Nat) : Nat := 10000 * (2 ^ i * (2 * nm + 1))
theorem Aa9 : ∀ (i j a b : Nat), 2 ^ i * (2 * a + 1) = 2 ^ j * (2 * b + 1) → i = j ∧ a = b := by
 intro i
 induction i with
 | zero =>
  intro j a b h
  cases j with
  | zero => simp at h; exact ⟨rfl, by omega⟩
  | succ j =>
   rw [Nat.pow_succ, Nat.mul_comm (2 ^ j) 2, Nat.mul_assoc] at h
   generalize 2 ^ j * (2 * b + 1) = q at h
   simp at h; omega
 | succ i ih =>
  intro j a b h
  cases j with
  | zero =>
   rw [Nat.pow_succ, Nat.mul_comm (2 ^ i) 2, Nat.mul_assoc] at h
   generalize 2 ^ i * (2 * a + 1) = q at h
   simp at h; omega
  | succ j =>
   rw [Nat.pow_succ, Nat.mul_comm (2 ^ i) 2, Nat.mul_assoc, Nat.pow_succ, Nat.mul_comm (2 ^ j) 2, Nat.mul_assoc] at h
   obtain ⟨h1, h2⟩ := ih j a b (by omega)
   exact ⟨by omega, h2⟩
theorem G9 {a b i j : Nat} (h : sub a i = sub b j) : a = b ∧ i = j := by
 unfold sub at h
 have := Aa9 i j a b (by omega)
 exact ⟨this.2, this.1⟩
theorem Vz (nm i : Nat) : 10000 * (2 * nm + 1) ≤ sub nm i := by
 unfold sub
 have h : 1 ≤ 2 ^ i := Nat.one_le_two_pow
 exact Nat.mul_le_mul_left _ (Nat.le_trans (by omega) (Nat.mul_le_mul_right (2 * nm + 1) h))
theorem DW (nm i : Nat) : nm < sub nm i := by have := Vz nm i; omega
theorem BQ (nm i : Nat) : 10000 ≤ sub nm i := by have := Vz nm i; omega

inductive InT (nm : Nat) : Nat → Prop
 | root : InT nm nm
 | sub {p : Nat} (i : Nat) (h : InT nm p) : InT nm (sub p i)
theorem InT.le {nm k : Nat} (h : InT nm k) : nm ≤ k := by
 induction h with
 | root => exact Nat.le_refl _
 | sub i _ ih => exact Nat.le_trans ih (Nat.le_of_lt (DW _ _))
theorem InT.up {nm i k : Nat} (h : InT (Av.sub nm i) k) : InT nm k := by
 induction h with
 | root => exact .sub i .root
 | sub j _ ih => exact .sub j ih
theorem InT.ne {nm i k : Nat} (h : InT (Av.sub nm i) k) : k ≠ nm := by
 have := h.le; have := DW nm i; omega
theorem InT.ge {nm i k : Nat} (h : InT (Av.sub nm i) k) : 10000 ≤ k := Nat.le_trans (BQ nm i) h.le
theorem InT.sib {nm i j k : Nat} (h : InT (Av.sub nm i) k) : InT (Av.sub nm j) k → i = j := by
 induction h with
 | root =>
  intro h'
  generalize hk : Av.sub nm i = k at h'
  cases h' with
  | root => exact (G9 hk).2
  | sub q h' => have := (G9 hk).1; subst this; exact absurd rfl h'.ne
 | sub q h ih =>
  rename_i p
  intro h'
  generalize hk : Av.sub p q = k at h'
  cases h' with
  | root => have := (G9 hk).1; subst this; exact absurd rfl h.ne
  | sub q' h' => have := (G9 hk).1; subst this; exact ih h'
theorem InT.apart {a b k : Nat} (ha : a < 10000) (hb : b < 10000) (h : InT a k) : InT b k → a = b := by
 induction h with
 | root =>
  intro h'
  cases h' with
  | root => rfl
  | sub q _ => rename_i p _; have := BQ p q; omega
 | sub q h ih =>
  rename_i p
  intro h'
  generalize hk : Av.sub p q = k at h'
  cases h' with
  | root => have := BQ p q; omega
  | sub q' h' => have := (G9 hk).1; subst this; exact ih h'
theorem InT.small {a k : Nat} (h : InT a k) (hk : k < 10000) : k = a := by
 cases h with
 | root => rfl
 | sub i h => rename_i p; have := BQ p i; omega

/-! ### heaps, name by name -/
theorem QA : ∀ {hp : Hp} {k : Nat} {b : Box}, Aw hp k = some b → (k, b) ∈ hp
 | (j, c) :: r, k, b, h => by
  simp only [Aw] at h
  split at h
  ·rename_i e; subst e; cases h; exact List.mem_cons_self
  ·exact List.mem_cons_of_mem _ (QA h)
theorem Kt : ∀ {hp : Hp} {k : Nat}, (∀ p ∈ hp, p.1 ≠ k) → Aw hp k = none
 | [], _, _ => rfl
 | (j, c) :: r, k, h => by
  simp only [Aw]
  rw [if_neg (h (j, c) List.mem_cons_self)]
  exact Kt fun p hp => h p (List.mem_cons_of_mem _ hp)
theorem QB : ∀ (a b : Hp) (k : Nat), Aw (a ++ b) k = (Aw a k).orElse fun _ => Aw b k
 | [], b, k => rfl
 | (j, c) :: r, b, k => by
  simp only [List.cons_append, Aw]
  split
  ·rfl
  ·exact QB r b k
theorem IK {a b : Hp} {k : Nat} {x : Box} (h : Aw a k = some x) : Aw (a ++ b) k = some x := by rw [QB, h]; rfl
theorem BV {a b : Hp} {k : Nat} (h : ∀ p ∈ a, p.1 ≠ k) : Aw (a ++ b) k = Aw b k := by rw [QB, Kt h]; rfl
theorem A4 {j k : Nat} {b : Box} {r : Hp} (h : j ≠ k) : Aw ((j, b) :: r) k = Aw r k := by simp only [Aw]; rw [if_neg h]
theorem Cm {k : Nat} {b : Box} {r : Hp} : Aw ((k, b) :: r) k = some b := by simp [Aw]
theorem AM {s : Hp} : ∀ {t : Hp}, Bf s t ↔ ∀ p ∈ t, Aw s p.1 = some p.2
 | [] => ⟨fun _ p hp => (by cases hp), fun _ => trivial⟩
 | (k, b) :: r => by
  rw [KZ, AM (t := r)]
  exact ⟨fun h p hp => (List.mem_cons.1 hp).elim (fun e => by subst e; exact h.1) (h.2 p), fun h => ⟨h _ List.mem_cons_self, fun p hp => h p (List.mem_cons_of_mem _ hp)⟩⟩
theorem AK {s a b : Hp} : Bf s (a ++ b) ↔ Bf s a ∧ Bf s b := by
 simp only [AM, List.mem_append]
 exact ⟨fun h => ⟨fun p hp => h p (.inl hp), fun p hp => h p (.inr hp)⟩, fun h p hp => hp.elim (h.1 p) (h.2 p)⟩
theorem Eu {s a b : Hp} (h : Bf a s) : Bf (a ++ b) s := AM.2 fun p hp => IK (AM.1 h p hp)
theorem contains_iff {l : List Nat} {k : Nat} : l.contains k = true ↔ k ∈ l := by simp
theorem BE {hs : List Nat} {hp : Hp} {k : Nat} (h : k ∉ hs) : Aw (BS hs hp) k = Aw hp k := by
 rw [K0, if_neg (fun c => h (contains_iff.1 c))]
theorem Kr {hp : Hp} {k j : Nat} (h : j ≠ k) : Aw (GY hp j) k = Aw hp k := by
 unfold GY
 split
 ·exact A4 h
 ·rfl
theorem Cl : ∀ {ks : List Nat} {hp : Hp} {k : Nat}, k ∉ ks → Aw (B9 ks hp) k = Aw hp k
 | [], _, _, _ => rfl
 | j :: r, hp, k, h => by
  rw [FB, Cl (ks := r) (fun x => h (List.mem_cons_of_mem _ x)), Kr (fun e => h (by rw [e]; exact List.mem_cons_self))]
theorem Kv : ∀ (a b : List Nat) (hp : Hp), B9 (a ++ b) hp = B9 b (B9 a hp)
 | [], _, _ => rfl
 | j :: r, b, hp => by rw [List.cons_append, FB, FB, Kv r b]

/-! ### plain values in rows of their own -/
class OVal (α : Type) [AVal α] where
 ty : TypeId
 ov : Nat → (Nat → Nat) → α → AV
 oh : Nat → (Nat → Nat) → α → Hp
 on : Nat → α → List Nat
 names : ∀ nm vs y, (oh nm vs y).map Prod.fst = on nm y
 inn : ∀ nm y k, k ∈ on nm y → InT nm k
 self : ∀ nm vs y, Bf (oh nm vs y) (oh nm vs y)
 KR : ∀ nm vs vs' y, (∀ k, InT nm k → vs k = vs' k) → ov nm vs y = ov nm vs' y ∧ oh nm vs y = oh nm vs' y
 KV : ∀ nm vs y hp, Bf hp (oh nm vs y) → (ov nm vs y).pur (B9 (on nm y) hp) = av y
 dep : ∀ nm vs y hp hp', (∀ k, InT nm k → Aw hp k = Aw hp' k) → (ov nm vs y).pur hp = (ov nm vs y).pur hp'
 free : ∀ nm vs y, ∀ p ∈ oh nm vs y, p.2.frz = false ∧ ∀ e ∈ p.2.es, ∀ x ∈ e.cells, x.GZ = true
 PC : ∀ nm vs y, ∀ x ∈ (ov nm vs y).cells, x.GZ = true
 ok : ∀ nm vs y, (ov nm vs y).ok = true
 agg : ∀ nm vs y, (ov nm vs y).isAgg = (av y).isAgg
 len : ∀ nm vs y, (ov nm vs y).cells.length = AVal.n α
open OVal (ov oh on)
theorem OVal.inh {α : Type} [AVal α] [OVal α] {nm : Nat} {vs : Nat → Nat} {y : α} {p : Nat × Box} (h : p ∈ oh nm vs y) : InT nm p.1 :=
 OVal.inn nm y p.1 (by rw [← OVal.names nm vs y]; exact List.mem_map_of_mem h)
theorem Acr {α : Type} [AVal α] [OVal α] {nm k : Nat} {vs : Nat → Nat} {y : α} (h : ¬ InT nm k) : ∀ p ∈ oh nm vs y, p.1 ≠ k := fun p hp e => h (e ▸ OVal.inh hp)
theorem AbX {α : Type} [AVal α] [OVal α] {nm k : Nat} {y : α} (h : ¬ InT nm k) : k ∉ on nm y := fun e => h (OVal.inn nm y k e)
@[reducible] def ZY {α : Type} [AVal α] (ty : TypeId) (h : ∀ (y : α), ∀ x ∈ (av y).cells, x.GZ = true) : OVal α :=
 ⟨ty, fun _ _ x => av x, fun _ _ _ => [], fun _ _ => [], fun _ _ _ => rfl, fun _ _ _ h => (by cases h), fun _ _ _ => trivial, fun _ _ _ _ _ => ⟨rfl, rfl⟩, fun _ _ y hp _ => AVal.nop y _, fun _ _ y _ _ _ => (AVal.nop y _).trans (AVal.nop y _).symm, fun _ _ _ p h => (by cases h), fun _ _ y x hx => h y x hx, fun _ _ y => AVal.ok y, fun _ _ _ => rfl, fun _ _ y => AVal.len y⟩
instance : OVal Int := ZY 3 (fun y x hx => by rw [Ae] at hx; simp [AV.cells] at hx; subst hx; rfl)
instance : OVal ByteArray := ZY 9 (fun y x hx => by rw [EU] at hx; simp [AV.cells] at hx; subst hx; rfl)
section
variable {α : Type} [AVal α] [OVal α]
def ovL (nm : Nat) (vs : Nat → Nat) : Nat → List α → List AV
 | _, [] => []
 | i, e :: r => ov (sub nm i) vs e :: ovL nm vs (i + 1) r
def ohL (nm : Nat) (vs : Nat → Nat) : Nat → List α → Hp
 | _, [] => []
 | i, e :: r => oh (sub nm i) vs e ++ ohL nm vs (i + 1) r
def onL (nm : Nat) : Nat → List α → List Nat
 | _, [] => []
 | i, e :: r => on (sub nm i) e ++ onL nm (i + 1) r
theorem Dv (nm : Nat) (vs : Nat → Nat) : ∀ (i : Nat) (l : List α), (ovL nm vs i l).length = l.length
 | _, [] => rfl
 | i, e :: r => by simp [ovL, Dv nm vs (i + 1) r]
theorem J9 (nm : Nat) (vs : Nat → Nat) : ∀ (i : Nat) (l : List α) (j : Nat), (ovL nm vs i l)[j]? = (l[j]?).map (ov (sub nm (i + j)) vs)
 | _, [], j => by simp [ovL]
 | i, e :: r, 0 => by simp [ovL]
 | i, e :: r, j + 1 => by
  simp only [ovL, List.getElem?_cons_succ]
  rw [J9 nm vs (i + 1) r j, show i + 1 + j = i + (j + 1) by omega]
theorem Qk (nm : Nat) (vs : Nat → Nat) (l : List α) {j : Nat} (h : j < l.length) (d : AV) : (ovL nm vs 0 l).getD j d = ov (sub nm j) vs l[j] := by
 rw [List.getD_eq_getElem?_getD, J9, List.getElem?_eq_getElem h]; simp
theorem Aa5 {nm : Nat} {vs : Nat → Nat} {i : Nat} {l : List α} {x : AV} (h : x ∈ ovL nm vs i l) : ∃ (j : Nat) (e : α), x = ov (sub nm j) vs e := by
 obtain ⟨j, hj⟩ := List.getElem?_of_mem h
 rw [J9, Option.map_eq_some_iff] at hj
 obtain ⟨e, _, rfl⟩ := hj
 exact ⟨_, e, rfl⟩
theorem I4 {nm : Nat} {vs : Nat → Nat} : ∀ {i : Nat} {l : List α} {p : Nat × Box}, p ∈ ohL nm vs i l → ∃ j, ∃ hj : j < l.length, p ∈ oh (sub nm (i + j)) vs l[j]
 | i, e :: r, p, h => by
  simp only [ohL, List.mem_append] at h
  rcases h with h | h
  ·exact ⟨0, by simp, by simpa using h⟩
  ·obtain ⟨j, hj, h⟩ := I4 h
   exact ⟨j + 1, by simpa using hj, by rw [show i + (j + 1) = i + 1 + j by omega]; simpa using h⟩
theorem Wo {nm : Nat} {vs : Nat → Nat} : ∀ {i : Nat} {l : List α} {p : Nat × Box} (j : Nat) (hj : j < l.length), p ∈ oh (sub nm (i + j)) vs l[j] → p ∈ ohL nm vs i l
 | i, e :: r, p, 0, hj, h => by simp only [ohL, List.mem_append]; exact .inl (by simpa using h)
 | i, e :: r, p, j + 1, hj, h => by
  simp only [ohL, List.mem_append]
  exact .inr (Wo j (by simpa using hj) (by rw [show i + (j + 1) = i + 1 + j by omega] at h; simpa using h))
theorem Cs {nm : Nat} {vs : Nat → Nat} {i : Nat} {l : List α} {p : Nat × Box} (h : p ∈ ohL nm vs i l) : ∃ j, i ≤ j ∧ InT (sub nm j) p.1 := by
 obtain ⟨j, _, h⟩ := I4 h
 exact ⟨i + j, by omega, OVal.inh h⟩
theorem Qn {nm : Nat} : ∀ {i : Nat} {l : List α} {k : Nat}, k ∈ onL nm i l → ∃ j, i ≤ j ∧ InT (sub nm j) k
 | i, e :: r, k, h => by
  simp only [onL, List.mem_append] at h
  rcases h with h | h
  ·exact ⟨i, Nat.le_refl _, OVal.inn _ _ _ h⟩
  ·obtain ⟨j, hj, h⟩ := Qn h
   exact ⟨j, by omega, h⟩
theorem O5 (nm : Nat) (vs : Nat → Nat) : ∀ (i : Nat) (l : List α), (ohL nm vs i l).map Prod.fst = onL nm i l
 | _, [] => rfl
 | i, e :: r => by simp only [ohL, onL, List.map_append, OVal.names, O5 nm vs (i + 1) r]
theorem Eo (nm : Nat) (vs : Nat → Nat) : ∀ (i : Nat) (l : List α), Bf (ohL nm vs i l) (ohL nm vs i l)
 | _, [] => trivial
 | i, e :: r => by
  simp only [ohL]
  rw [AK]
  refine ⟨Eu (OVal.self _ _ _), AM.2 fun p hp => ?_⟩
  obtain ⟨j, hj, h⟩ := Cs hp
  rw [BV (Acr fun h' => by have := h'.sib h; omega)]
  exact AM.1 (Eo nm vs (i + 1) r) p hp
theorem R0 (nm : Nat) (vs vs' : Nat → Nat) (h : ∀ k, InT nm k → vs k = vs' k) : ∀ (i : Nat) (l : List α), ovL nm vs i l = ovL nm vs' i l ∧ ohL nm vs i l = ohL nm vs' i l
 | _, [] => ⟨rfl, rfl⟩
 | i, e :: r => by
  obtain ⟨a, b⟩ := R0 nm vs vs' h (i + 1) r
  obtain ⟨c, d⟩ := OVal.KR (sub nm i) vs vs' e (fun k hk => h k hk.up)
  simp only [ovL, ohL, a, b, c, d, and_self]
theorem R1 (nm : Nat) (vs : Nat → Nat) : ∀ (i : Nat) (l : List α) (hp : Hp), Bf hp (ohL nm vs i l) → (ovL nm vs i l).map (AV.pur (B9 (onL nm i l) hp)) = l.map av
 | _, [], _, _ => rfl
 | i, e :: r, hp, h => by
  simp only [ohL, AK] at h
  simp only [ovL, onL, List.map_cons, Kv]
  have h1 := OVal.KV (sub nm i) vs e hp h.1
  have h2 := R1 nm vs (i + 1) r (B9 (on (sub nm i) e) hp) (AM.2 fun p hp' => by
   obtain ⟨j, hj, hi⟩ := Cs hp'
   rw [Cl (AbX fun h' => by have := h'.sib hi; omega)]
   exact AM.1 h.2 p hp')
  rw [h2, ← h1]
  congr 1
  refine OVal.dep _ _ _ _ _ fun k hk => Cl fun hm => ?_
  obtain ⟨j, hj, hi⟩ := Qn hm
  have := hk.sib hi
  omega
theorem Zm {nm : Nat} {vs : Nat → Nat} {i : Nat} {l : List α} : ∀ e ∈ ovL nm vs i l, ∀ x ∈ e.cells, x.GZ = true := fun e he x hx => by
 obtain ⟨j, y, rfl⟩ := Aa5 he
 exact OVal.PC _ _ _ x hx
end

section
variable {α : Type} [AVal α] [OVal α]
def Sk (nm : Nat) (vs : Nat → Nat) (l : List α) : Box := ⟨vs nm, false, OVal.ty α, AVal.n α, ovL nm vs 0 l⟩
instance : OVal (List α) where
 ty := 0
 ov nm vs l := .row nm (vs nm) l.length
 oh nm vs l := ohL nm vs 0 l ++ [(nm, Sk nm vs l)]
 on nm l := onL nm 0 l ++ [nm]
 names nm vs l := by simp [O5]
 inn nm l k h := by
  rcases List.mem_append.1 h with h | h
  ·obtain ⟨j, _, h⟩ := Qn h; exact h.up
  ·simp at h; subst h; exact .root
 self nm vs l := by
  rw [AK]
  refine ⟨Eu (Eo _ _ _ _), AM.2 fun p hp => ?_⟩
  simp at hp; subst hp
  rw [BV (fun p hp e => by obtain ⟨j, _, h⟩ := Cs hp; exact h.ne e)]
  exact Cm
 KR nm vs vs' l h := by
  obtain ⟨a, b⟩ := R0 nm vs vs' h 0 l
  simp only [Sk, a, b, h nm .root, and_self]
 KV nm vs l hp h := by
  rw [AK] at h
  have h1 := R1 nm vs 0 l hp h.1
  have h2 : Aw hp nm = some (Sk nm vs l) := AM.1 h.2 (nm, _) List.mem_cons_self
  have h3 : Aw (B9 (onL nm 0 l) hp) nm = some (Sk nm vs l) := by
   rw [Cl (fun hm => by obtain ⟨j, _, h⟩ := Qn hm; exact h.ne rfl)]; exact h2
  rw [Kv, FB, Ni]
  simp only [AV.pur, AV.Bs, GY, h3, Cm, Sk, h1]
  rw [if_pos (by simp), List.take_of_length_le (by simp)]
  rfl
 dep nm vs l hp hp' h := by simp only [AV.pur, AV.Bs, h nm .root]
 free nm vs l p hp := by
  rcases List.mem_append.1 hp with h | h
  ·obtain ⟨j, hj, h⟩ := I4 h; exact OVal.free _ _ _ p h
  ·simp at h; subst h; exact ⟨rfl, Zm⟩
 PC nm vs l x hx := by simp [AV.cells] at hx; subst hx; rfl
 ok _ _ _ := rfl
 agg _ _ _ := rfl
 len _ _ _ := rfl
theorem Fl (nm : Nat) (vs : Nat → Nat) (l : List α) : ov nm vs l = .row nm (vs nm) l.length := eqq rfl
theorem I3 (nm : Nat) (vs : Nat → Nat) (l : List α) : oh nm vs l = ohL nm vs 0 l ++ [(nm, Sk nm vs l)] := eqq rfl
theorem Wl {nm : Nat} {vs : Nat → Nat} {l : List α} {i : Nat} (hi : i < l.length) : Bf (oh nm vs l) (oh (sub nm i) vs l[i]) := AM.2 fun p hp =>
 AM.1 (OVal.self nm vs l) p (by rw [I3]; exact List.mem_append_left _ (Wo i hi (by simpa using hp)))
end
theorem Ye {β : Type} [AVal β] [OVal β] {K' j : Nat} {b : Box} {vs' : Nat → Nat} {z : β} {hp : Hp} (h : ¬ InT K' j) (hz : Bf hp (oh K' vs' z)) : Bf ((j, b) :: hp) (oh K' vs' z) :=
 AM.2 fun p hp' => by rw [A4 (fun e : j = p.1 => h (by rw [e]; exact OVal.inh hp'))]; exact AM.1 hz p hp'
theorem Dk {q nm i : Nat} (hq : q < 10000) : (q == sub nm i) = false := beq_eq_false_iff_ne.2 fun e => by have := BQ nm i; omega
theorem ZS {β : Type} [AVal β] [OVal β] {nm i j : Nat} {b : Box} {vs : Nat → Nat} {z : β} {hp : Hp} (hz : Bf hp (oh (sub nm i) vs z)) (hj : j < 10000) : Bf ((j, b) :: hp) (oh (sub nm i) vs z) :=
 Ye (fun h => by have := h.ge; omega) hz
theorem R2 {α : Type} [AVal α] [OVal α] (h : ∀ nm vs (x : α), ov nm vs x = av x) (nm : Nat) (vs : Nat → Nat) : ∀ (i : Nat) (l : List α), ovL nm vs i l = l.map av
 | _, [] => rfl
 | i, e :: r => by simp only [ovL, List.map_cons, h, R2 h nm vs (i + 1) r]
theorem R9 {α : Type} [AVal α] [OVal α] (h : ∀ nm vs (x : α), oh nm vs x = []) (nm : Nat) (vs : Nat → Nat) : ∀ (i : Nat) (l : List α), ohL nm vs i l = []
 | _, [] => rfl
 | i, e :: r => by simp only [ohL, h, R9 h nm vs (i + 1) r, List.append_nil]
theorem D5 (nm : Nat) (vs : Nat → Nat) (l : List Int) : oh nm vs l = [(nm, ⟨vs nm, false, 3, 1, l.map av⟩)] := by
 rw [I3, R9 (fun _ _ _ => rfl), List.nil_append, Sk, R2 (fun _ _ _ => rfl)]; rfl
theorem Af (hp : Hp) : BS [] hp = hp := by
 induction hp with
 | nil => rfl
 | cons p r ih => obtain ⟨q, c⟩ := p; rw [JJ, if_neg (by simp), ih]
/-! ### calls that are handed parts -/
theorem Ak {P : Go.Program} {f : FuncId} {args : List AV} {hp hp0 : Hp} {k : AV → Hp → Prop} {Post : AV → Hp → Prop} (hs : List Nat) (h : AH P f args hp0 Post) {kp : CU k} (he : IJ hs hp = hp0) (hk : ∀ r hp', Post r hp' → ∀ H, H = hp' ++ BS hs hp → k r H) : Bd2 (fun k => Md P f args hp k) k kp :=
 Ac hs h he fun r hp' hpst => hk r hp' hpst _ rfl
section
variable {α : Type} [AVal α] [OVal α]
theorem Fy {H : Hp} {K : Nat} {vs : Nat → Nat} {l : List α} (h : Bf H (oh K vs l)) : Aw H K = some ⟨vs K, false, OVal.ty α, AVal.n α, ovL K vs 0 l⟩ := by
 rw [I3, AK] at h
 exact h.2.1
end
end Go.Proofs.YteeiaaogmjbcjaaGreat.Av
