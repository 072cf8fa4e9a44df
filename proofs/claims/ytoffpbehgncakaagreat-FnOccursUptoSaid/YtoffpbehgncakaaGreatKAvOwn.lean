/-
 OWN ROWS WITHIN OWN ROWS: the names of the parts, when a plain value lies in rows of its own, how it is lent, how a part is exchanged. Conditions: none.
-/
import Derived.Test.YtoffpbehgncakaaGreatKJ05
set_option linter.unusedVariables false
set_option linter.unusedSimpArgs false
namespace Go.Proofs.YtoffpbehgncakaaGreat.Av
open Go.RowKit
open AVal (av)

def sub (nm i : Nat) : Nat := 10000 * (2 ^ i * (2 * nm + 1))
theorem AaL : ∀ (i j a b : Nat), 2 ^ i * (2 * a + 1) = 2 ^ j * (2 * b + 1) → i = j ∧ a = b := by
 intro i
 induction i with
 | zero =>
  intro j a b h
  cases j with
  | zero => simp at h; exact ⟨rfl, by omega⟩
  | succ j =>
   rw [Nat.pow_succ, Nat.mul_comm (2 ^ j) 2, Nat.mul_assoc] at h
   generalize 2 ^ j * (2 * b + 1) = q at h
   simp at h; omega
 | succ i ih =>
  intro j a b h
  cases j with
  | zero =>
   rw [Nat.pow_succ, Nat.mul_comm (2 ^ i) 2, Nat.mul_assoc] at h
   generalize 2 ^ i * (2 * a + 1) = q at h
   simp at h; omega
  | succ j =>
   rw [Nat.pow_succ, Nat.mul_comm (2 ^ i) 2, Nat.mul_assoc, Nat.pow_succ, Nat.mul_comm (2 ^ j) 2, Nat.mul_assoc] at h
   obtain ⟨h1, h2⟩ := ih j a b (by omega)
   exact ⟨by omega, h2⟩
theorem J9 {a b i j : Nat} (h : sub a i = sub b j) : a = b ∧ i = j := by
 unfold sub at h
 have := AaL i j a b (by omega)
 exact ⟨this.2, this.1⟩
theorem VA (nm i : Nat) : 10000 * (2 * nm + 1) ≤ sub nm i := by
 unfold sub
 have h : 1 ≤ 2 ^ i := Nat.one_le_two_pow
 exact Nat.mul_le_mul_left _ (Nat.le_trans (by omega) (Nat.mul_le_mul_right (2 * nm + 1) h))
theorem Zm (nm i : Nat) : nm < sub nm i := by have := VA nm i; omega
theorem EP (nm i : Nat) : 10000 ≤ sub nm i := by have := VA nm i; omega

inductive InT (nm : Nat) : Nat → Prop
 | root : InT nm nm
 | sub {p : Nat} (i : Nat) (h : InT nm p) : InT nm (sub p i)
theorem InT.le {nm k : Nat} (h : InT nm k) : nm ≤ k := by
 induction h with
 | root => exact Nat.le_refl _
 | sub i _ ih => exact Nat.le_trans ih (Nat.le_of_lt (Zm _ _))
theorem InT.up {nm i k : Nat} (h : InT (Av.sub nm i) k) : InT nm k := by
 induction h with
 | root => exact .sub i .root
 | sub j _ ih => exact .sub j ih
theorem InT.ne {nm i k : Nat} (h : InT (Av.sub nm i) k) : k ≠ nm := by
 have := h.le; have := Zm nm i; omega
theorem InT.ge {nm i k : Nat} (h : InT (Av.sub nm i) k) : 10000 ≤ k := Nat.le_trans (EP nm i) h.le
theorem InT.sib {nm i j k : Nat} (h : InT (Av.sub nm i) k) : InT (Av.sub nm j) k → i = j := by
 induction h with
 | root =>
  intro h'
  generalize hk : Av.sub nm i = k at h'
  cases h' with
  | root => exact (J9 hk).2
  | sub q h' => have := (J9 hk).1; subst this; exact absurd rfl h'.ne
 | sub q h ih =>
  rename_i p
  intro h'
  generalize hk : Av.sub p q = k at h'
  cases h' with
  | root => have := (J9 hk).1; subst this; exact absurd rfl h.ne
  | sub q' h' => have := (J9 hk).1; subst this; exact ih h'
theorem InT.apart {a b k : Nat} (ha : a < 10000) (hb : b < 10000) (h : InT a k) : InT b k → a = b := by
 induction h with
 | root =>
  intro h'
  cases h' with
  | root => rfl
  | sub q _ => rename_i p _; have := EP p q; omega
 | sub q h ih =>
  rename_i p
  intro h'
  generalize hk : Av.sub p q = k at h'
  cases h' with
  | root => have := EP p q; omega
  | sub q' h' => have := (J9 hk).1; subst this; exact ih h'
theorem InT.small {a k : Nat} (h : InT a k) (hk : k < 10000) : k = a := by
 cases h with
 | root => rfl
 | sub i h => rename_i p; have := EP p i; omega

/-! ### heaps, name by name -/
theorem EY : ∀ {hp : Hp} {k : Nat} {b : Box}, Ay hp k = some b → (k, b) ∈ hp
 | (j, c) :: r, k, b, h => by
  simp only [Ay] at h
  split at h
  ·rename_i e; subst e; cases h; exact List.mem_cons_self
  ·exact List.mem_cons_of_mem _ (EY h)
theorem Mf : ∀ {hp : Hp} {k : Nat}, (∀ p ∈ hp, p.1 ≠ k) → Ay hp k = none
 | [], _, _ => rfl
 | (j, c) :: r, k, h => by
  simp only [Ay]
  rw [if_neg (h (j, c) List.mem_cons_self)]
  exact Mf fun p hp => h p (List.mem_cons_of_mem _ hp)
theorem QL : ∀ (a b : Hp) (k : Nat), Ay (a ++ b) k = (Ay a k).orElse fun _ => Ay b k
 | [], b, k => rfl
 | (j, c) :: r, b, k => by
  simp only [List.cons_append, Ay]
  split
  ·rfl
  ·exact QL r b k
theorem SQ {a b : Hp} {k : Nat} {x : Box} (h : Ay a k = some x) : Ay (a ++ b) k = some x := by rw [QL, h]; rfl
theorem Db {a b : Hp} {k : Nat} (h : ∀ p ∈ a, p.1 ≠ k) : Ay (a ++ b) k = Ay b k := by rw [QL, Mf h]; rfl
theorem B5 {j k : Nat} {b : Box} {r : Hp} (h : j ≠ k) : Ay ((j, b) :: r) k = Ay r k := by simp only [Ay]; rw [if_neg h]
theorem Ft {k : Nat} {b : Box} {r : Hp} : Ay ((k, b) :: r) k = some b := by simp [Ay]
theorem AP {s : Hp} : ∀ {t : Hp}, Bt s t ↔ ∀ p ∈ t, Ay s p.1 = some p.2
 | [] => ⟨fun _ p hp => (by cases hp), fun _ => trivial⟩
 | (k, b) :: r => by
  rw [Lc, AP (t := r)]
  exact ⟨fun h p hp => (List.mem_cons.1 hp).elim (fun e => by subst e; exact h.1) (h.2 p), fun h => ⟨h _ List.mem_cons_self, fun p hp => h p (List.mem_cons_of_mem _ hp)⟩⟩
theorem AO {s a b : Hp} : Bt s (a ++ b) ↔ Bt s a ∧ Bt s b := by
 simp only [AP, List.mem_append]
 exact ⟨fun h => ⟨fun p hp => h p (.inl hp), fun p hp => h p (.inr hp)⟩, fun h p hp => hp.elim (h.1 p) (h.2 p)⟩
theorem EB {s a b : Hp} (h : Bt a s) : Bt (a ++ b) s := AP.2 fun p hp => SQ (AP.1 h p hp)
theorem contains_iff {l : List Nat} {k : Nat} : l.contains k = true ↔ k ∈ l := by simp
theorem Cp {hs : List Nat} {hp : Hp} {k : Nat} (h : k ∉ hs) : Ay (BU hs hp) k = Ay hp k := by
 rw [Ld, if_neg (fun c => h (contains_iff.1 c))]
theorem Cm {hp : Hp} {k j : Nat} (h : j ≠ k) : Ay (Dr hp j) k = Ay hp k := by
 unfold Dr
 split
 ·exact B5 h
 ·rfl
theorem BI : ∀ {ks : List Nat} {hp : Hp} {k : Nat}, k ∉ ks → Ay (BK ks hp) k = Ay hp k
 | [], _, _, _ => rfl
 | j :: r, hp, k, h => by
  rw [FI, BI (ks := r) (fun x => h (List.mem_cons_of_mem _ x)), Cm (fun e => h (by rw [e]; exact List.mem_cons_self))]
theorem E8 : ∀ (a b : List Nat) (hp : Hp), BK (a ++ b) hp = BK b (BK a hp)
 | [], _, _ => rfl
 | j :: r, b, hp => by rw [List.cons_append, FI, FI, E8 r b]

/-! ### plain values in rows of their own -/
class OVal (α : Type) [AVal α] where
 ty : TypeId
 ov : Nat → (Nat → Nat) → α → AV
 oh : Nat → (Nat → Nat) → α → Hp
 on : Nat → α → List Nat
 names : ∀ nm vs y, (oh nm vs y).map Prod.fst = on nm y
 inn : ∀ nm y k, k ∈ on nm y → InT nm k
 self : ∀ nm vs y, Bt (oh nm vs y) (oh nm vs y)
 Qk : ∀ nm vs vs' y, (∀ k, InT nm k → vs k = vs' k) → ov nm vs y = ov nm vs' y ∧ oh nm vs y = oh nm vs' y
 XW : ∀ nm vs y hp, Bt hp (oh nm vs y) → (ov nm vs y).pur (BK (on nm y) hp) = av y
 dep : ∀ nm vs y hp hp', (∀ k, InT nm k → Ay hp k = Ay hp' k) → (ov nm vs y).pur hp = (ov nm vs y).pur hp'
 free : ∀ nm vs y, ∀ p ∈ oh nm vs y, p.2.frz = false ∧ ∀ e ∈ p.2.es, ∀ x ∈ e.cells, x.G7 = true
 Xa : ∀ nm vs y, ∀ x ∈ (ov nm vs y).cells, x.G7 = true
 ok : ∀ nm vs y, (ov nm vs y).ok = true
 agg : ∀ nm vs y, (ov nm vs y).isAgg = (av y).isAgg
 len : ∀ nm vs y, (ov nm vs y).cells.length = AVal.n α
open OVal (ov oh on)
theorem OVal.inh {α : Type} [AVal α] [OVal α] {nm : Nat} {vs : Nat → Nat} {y : α} {p : Nat × Box} (h : p ∈ oh nm vs y) : InT nm p.1 :=
 OVal.inn nm y p.1 (by rw [← OVal.names nm vs y]; exact List.mem_map_of_mem h)
theorem Ab8 {α : Type} [AVal α] [OVal α] {nm k : Nat} {vs : Nat → Nat} {y : α} (h : ¬ InT nm k) : ∀ p ∈ oh nm vs y, p.1 ≠ k := fun p hp e => h (e ▸ OVal.inh hp)
theorem AbD {α : Type} [AVal α] [OVal α] {nm k : Nat} {y : α} (h : ¬ InT nm k) : k ∉ on nm y := fun e => h (OVal.inn nm y k e)
@[reducible] def ZF {α : Type} [AVal α] (ty : TypeId) (h : ∀ (y : α), ∀ x ∈ (av y).cells, x.G7 = true) : OVal α :=
 ⟨ty, fun _ _ x => av x, fun _ _ _ => [], fun _ _ => [], fun _ _ _ => rfl, fun _ _ _ h => (by cases h), fun _ _ _ => trivial, fun _ _ _ _ _ => ⟨rfl, rfl⟩, fun _ _ y hp _ => AVal.nop y _, fun _ _ y _ _ _ => (AVal.nop y _).trans (AVal.nop y _).symm, fun _ _ _ p h => (by cases h), fun _ _ y x hx => h y x hx, fun _ _ y => AVal.ok y, fun _ _ _ => rfl, fun _ _ y => AVal.len y⟩
instance : OVal Int := ZF 3 (fun y x hx => by rw [Af] at hx; simp [AV.cells] at hx; subst hx; rfl)
instance : OVal ByteArray := ZF 9 (fun y x hx => by rw [Ec] at hx; simp [AV.cells] at hx; subst hx; rfl)
section
variable {α : Type} [AVal α] [OVal α]
def ovL (nm : Nat) (vs : Nat → Nat) : Nat → List α → List AV
 | _, [] => []
 | i, e :: r => ov (sub nm i) vs e :: ovL nm vs (i + 1) r
def ohL (nm : Nat) (vs : Nat → Nat) : Nat → List α → Hp
 | _, [] => []
 | i, e :: r => oh (sub nm i) vs e ++ ohL nm vs (i + 1) r
def onL (nm : Nat) : Nat → List α → List Nat
 | _, [] => []
 | i, e :: r => on (sub nm i) e ++ onL nm (i + 1) r
theorem Kd (nm : Nat) (vs : Nat → Nat) : ∀ (i : Nat) (l : List α), (ovL nm vs i l).length = l.length
 | _, [] => rfl
 | i, e :: r => by simp [ovL, Kd nm vs (i + 1) r]
theorem Ke (nm : Nat) (vs : Nat → Nat) : ∀ (i : Nat) (l : List α) (j : Nat), (ovL nm vs i l)[j]? = (l[j]?).map (ov (sub nm (i + j)) vs)
 | _, [], j => by simp [ovL]
 | i, e :: r, 0 => by simp [ovL]
 | i, e :: r, j + 1 => by
  simp only [ovL, List.getElem?_cons_succ]
  rw [Ke nm vs (i + 1) r j, show i + 1 + j = i + (j + 1) by omega]
theorem AaI {nm : Nat} {vs : Nat → Nat} {i : Nat} {l : List α} {x : AV} (h : x ∈ ovL nm vs i l) : ∃ (j : Nat) (e : α), x = ov (sub nm j) vs e := by
 obtain ⟨j, hj⟩ := List.getElem?_of_mem h
 rw [Ke, Option.map_eq_some_iff] at hj
 obtain ⟨e, _, rfl⟩ := hj
 exact ⟨_, e, rfl⟩
theorem Kp {nm : Nat} {vs : Nat → Nat} : ∀ {i : Nat} {l : List α} {p : Nat × Box}, p ∈ ohL nm vs i l → ∃ j, ∃ hj : j < l.length, p ∈ oh (sub nm (i + j)) vs l[j]
 | i, e :: r, p, h => by
  simp only [ohL, List.mem_append] at h
  rcases h with h | h
  ·exact ⟨0, by simp, by simpa using h⟩
  ·obtain ⟨j, hj, h⟩ := Kp h
   exact ⟨j + 1, by simpa using hj, by rw [show i + (j + 1) = i + 1 + j by omega]; simpa using h⟩
theorem Ws {nm : Nat} {vs : Nat → Nat} : ∀ {i : Nat} {l : List α} {p : Nat × Box} (j : Nat) (hj : j < l.length), p ∈ oh (sub nm (i + j)) vs l[j] → p ∈ ohL nm vs i l
 | i, e :: r, p, 0, hj, h => by simp only [ohL, List.mem_append]; exact .inl (by simpa using h)
 | i, e :: r, p, j + 1, hj, h => by
  simp only [ohL, List.mem_append]
  exact .inr (Ws j (by simpa using hj) (by rw [show i + (j + 1) = i + 1 + j by omega] at h; simpa using h))
theorem Et {nm : Nat} {vs : Nat → Nat} {i : Nat} {l : List α} {p : Nat × Box} (h : p ∈ ohL nm vs i l) : ∃ j, i ≤ j ∧ InT (sub nm j) p.1 := by
 obtain ⟨j, _, h⟩ := Kp h
 exact ⟨i + j, by omega, OVal.inh h⟩
theorem Qv {nm : Nat} : ∀ {i : Nat} {l : List α} {k : Nat}, k ∈ onL nm i l → ∃ j, i ≤ j ∧ InT (sub nm j) k
 | i, e :: r, k, h => by
  simp only [onL, List.mem_append] at h
  rcases h with h | h
  ·exact ⟨i, Nat.le_refl _, OVal.inn _ _ _ h⟩
  ·obtain ⟨j, hj, h⟩ := Qv h
   exact ⟨j, by omega, h⟩
theorem Pg (nm : Nat) (vs : Nat → Nat) : ∀ (i : Nat) (l : List α), (ohL nm vs i l).map Prod.fst = onL nm i l
 | _, [] => rfl
 | i, e :: r => by simp only [ohL, onL, List.map_append, OVal.names, Pg nm vs (i + 1) r]
theorem GN (nm : Nat) (vs : Nat → Nat) : ∀ (i : Nat) (l : List α), Bt (ohL nm vs i l) (ohL nm vs i l)
 | _, [] => trivial
 | i, e :: r => by
  simp only [ohL]
  rw [AO]
  refine ⟨EB (OVal.self _ _ _), AP.2 fun p hp => ?_⟩
  obtain ⟨j, hj, h⟩ := Et hp
  rw [Db (Ab8 fun h' => by have := h'.sib h; omega)]
  exact AP.1 (GN nm vs (i + 1) r) p hp
theorem R3 (nm : Nat) (vs vs' : Nat → Nat) (h : ∀ k, InT nm k → vs k = vs' k) : ∀ (i : Nat) (l : List α), ovL nm vs i l = ovL nm vs' i l ∧ ohL nm vs i l = ohL nm vs' i l
 | _, [] => ⟨rfl, rfl⟩
 | i, e :: r => by
  obtain ⟨a, b⟩ := R3 nm vs vs' h (i + 1) r
  obtain ⟨c, d⟩ := OVal.Qk (sub nm i) vs vs' e (fun k hk => h k hk.up)
  simp only [ovL, ohL, a, b, c, d, and_self]
theorem R4 (nm : Nat) (vs : Nat → Nat) : ∀ (i : Nat) (l : List α) (hp : Hp), Bt hp (ohL nm vs i l) → (ovL nm vs i l).map (AV.pur (BK (onL nm i l) hp)) = l.map av
 | _, [], _, _ => rfl
 | i, e :: r, hp, h => by
  simp only [ohL, AO] at h
  simp only [ovL, onL, List.map_cons, E8]
  have h1 := OVal.XW (sub nm i) vs e hp h.1
  have h2 := R4 nm vs (i + 1) r (BK (on (sub nm i) e) hp) (AP.2 fun p hp' => by
   obtain ⟨j, hj, hi⟩ := Et hp'
   rw [BI (AbD fun h' => by have := h'.sib hi; omega)]
   exact AP.1 h.2 p hp')
  rw [h2, ← h1]
  congr 1
  refine OVal.dep _ _ _ _ _ fun k hk => BI fun hm => ?_
  obtain ⟨j, hj, hi⟩ := Qv hm
  have := hk.sib hi
  omega
theorem Y4 {nm : Nat} {vs : Nat → Nat} {i : Nat} {l : List α} : ∀ e ∈ ovL nm vs i l, ∀ x ∈ e.cells, x.G7 = true := fun e he x hx => by
 obtain ⟨j, y, rfl⟩ := AaI he
 exact OVal.Xa _ _ _ x hx
end

section
variable {α : Type} [AVal α] [OVal α]
def Sn (nm : Nat) (vs : Nat → Nat) (l : List α) : Box := ⟨vs nm, false, OVal.ty α, AVal.n α, ovL nm vs 0 l⟩
instance : OVal (List α) where
 ty := 0
 ov nm vs l := .row nm (vs nm) l.length
 oh nm vs l := ohL nm vs 0 l ++ [(nm, Sn nm vs l)]
 on nm l := onL nm 0 l ++ [nm]
 names nm vs l := by simp [Pg]
 inn nm l k h := by
  rcases List.mem_append.1 h with h | h
  ·obtain ⟨j, _, h⟩ := Qv h; exact h.up
  ·simp at h; subst h; exact .root
 self nm vs l := by
  rw [AO]
  refine ⟨EB (GN _ _ _ _), AP.2 fun p hp => ?_⟩
  simp at hp; subst hp
  rw [Db (fun p hp e => by obtain ⟨j, _, h⟩ := Et hp; exact h.ne e)]
  exact Ft
 Qk nm vs vs' l h := by
  obtain ⟨a, b⟩ := R3 nm vs vs' h 0 l
  simp only [Sn, a, b, h nm .root, and_self]
 XW nm vs l hp h := by
  rw [AO] at h
  have h1 := R4 nm vs 0 l hp h.1
  have h2 : Ay hp nm = some (Sn nm vs l) := AP.1 h.2 (nm, _) List.mem_cons_self
  have h3 : Ay (BK (onL nm 0 l) hp) nm = some (Sn nm vs l) := by
   rw [BI (fun hm => by obtain ⟨j, _, h⟩ := Qv hm; exact h.ne rfl)]; exact h2
  rw [E8, FI, Nj]
  simp only [AV.pur, AV.Bu, Dr, h3, Ft, Sn, h1]
  rw [if_pos (by simp), List.take_of_length_le (by simp)]
  rfl
 dep nm vs l hp hp' h := by simp only [AV.pur, AV.Bu, h nm .root]
 free nm vs l p hp := by
  rcases List.mem_append.1 hp with h | h
  ·obtain ⟨j, hj, h⟩ := Kp h; exact OVal.free _ _ _ p h
  ·simp at h; subst h; exact ⟨rfl, Y4⟩
 Xa nm vs l x hx := by simp [AV.cells] at hx; subst hx; rfl
 ok _ _ _ := rfl
 agg _ _ _ := rfl
 len _ _ _ := rfl
theorem Qs (nm : Nat) (vs : Nat → Nat) (l : List α) : ov nm vs l = .row nm (vs nm) l.length := eqq rfl
theorem Jb (nm : Nat) (vs : Nat → Nat) (l : List α) : oh nm vs l = ohL nm vs 0 l ++ [(nm, Sn nm vs l)] := eqq rfl
theorem Wp {nm : Nat} {vs : Nat → Nat} {l : List α} {i : Nat} (hi : i < l.length) : Bt (oh nm vs l) (oh (sub nm i) vs l[i]) := AP.2 fun p hp =>
 AP.1 (OVal.self nm vs l) p (by rw [Jb]; exact List.mem_append_left _ (Ws i hi (by simpa using hp)))
end
theorem Me {q nm i : Nat} (hq : q < 10000) : (q == sub nm i) = false := beq_eq_false_iff_ne.2 fun e => by have := EP nm i; omega
theorem R5 {α : Type} [AVal α] [OVal α] (h : ∀ nm vs (x : α), ov nm vs x = av x) (nm : Nat) (vs : Nat → Nat) : ∀ (i : Nat) (l : List α), ovL nm vs i l = l.map av
 | _, [] => rfl
 | i, e :: r => by simp only [ovL, List.map_cons, h, R5 h nm vs (i + 1) r]
theorem Sc {α : Type} [AVal α] [OVal α] (h : ∀ nm vs (x : α), oh nm vs x = []) (nm : Nat) (vs : Nat → Nat) : ∀ (i : Nat) (l : List α), ohL nm vs i l = []
 | _, [] => rfl
 | i, e :: r => by simp only [ohL, h, Sc h nm vs (i + 1) r, List.append_nil]
theorem Wo (nm : Nat) (vs : Nat → Nat) (l : List Int) : oh nm vs l = [(nm, ⟨vs nm, false, 3, 1, l.map av⟩)] := by
 rw [Jb, Sc (fun _ _ _ => rfl), List.nil_append, Sn, R5 (fun _ _ _ => rfl)]; rfl
theorem Ah (hp : Hp) : BU [] hp = hp := by
 induction hp with
 | nil => rfl
 | cons p r ih => obtain ⟨q, c⟩ := p; rw [JU, if_neg (by simp), ih]
/-! ### calls that are handed parts -/
theorem Ao {P : Go.Program} {f : FuncId} {args : List AV} {hp hp0 : Hp} {k : AV → Hp → Prop} {Post : AV → Hp → Prop} (hs : List Nat) (h : AW P f args hp0 Post) {kp : C5 k} (he : IX hs hp = hp0) (hk : ∀ r hp', Post r hp' → ∀ H, H = hp' ++ BU hs hp → k r H) : Bd2 (fun k => Mg P f args hp k) k kp :=
 Ad hs h he fun r hp' hpst => hk r hp' hpst _ rfl
section
variable {α : Type} [AVal α] [OVal α]
theorem Cc {H : Hp} {K : Nat} {vs : Nat → Nat} {l : List α} (h : Bt H (oh K vs l)) : Ay H K = some ⟨vs K, false, OVal.ty α, AVal.n α, ovL K vs 0 l⟩ := by
 rw [Jb, AO] at h
 exact h.2.1
end
end Go.Proofs.YtoffpbehgncakaaGreat.Av
