/-
 OWN ROWS WITHIN OWN ROWS: the names of the parts, when a plain value lies in rows of its own, how it is lent, how a part is exchanged. Conditions: none.
-/
import Derived.Test.YtppjinmlfcokaaaGreatJJ07
set_option linter.unusedVariables false
set_option linter.unusedSimpArgs false
namespace Go.Proofs.YtppjinmlfcokaaaGreat.Av
open Go.RowKit
open AVal (av)

def sub (nm i : Nat) : Nat := 10000 * (2 ^ i * (2 * nm + 1))
theorem Aea : ∀ (i j a b : Nat), 2 ^ i * (2 * a + 1) = 2 ^ j * (2 * b + 1) → i = j ∧ a = b := by
 intro i
 induction i with
 | zero =>
  intro j a b h
  cases j with
  | zero => simp at h; exact ⟨rfl, by omega⟩
  | succ j =>
   rw [Nat.pow_succ, Nat.mul_comm (2 ^ j) 2, Nat.mul_assoc] at h
   generalize 2 ^ j * (2 * b + 1) = q at h
   simp at h; omega
 | succ i ih =>
  intro j a b h
  cases j with
  | zero =>
   rw [Nat.pow_succ, Nat.mul_comm (2 ^ i) 2, Nat.mul_assoc] at h
   generalize 2 ^ i * (2 * a + 1) = q at h
   simp at h; omega
  | succ j =>
   rw [Nat.pow_succ, Nat.mul_comm (2 ^ i) 2, Nat.mul_assoc, Nat.pow_succ, Nat.mul_comm (2 ^ j) 2, Nat.mul_assoc] at h
   obtain ⟨h1, h2⟩ := ih j a b (by omega)
   exact ⟨by omega, h2⟩
theorem Em {a b i j : Nat} (h : sub a i = sub b j) : a = b ∧ i = j := by
 unfold sub at h
 have := Aea i j a b (by omega)
 exact ⟨this.2, this.1⟩
theorem YL (nm i : Nat) : 10000 * (2 * nm + 1) ≤ sub nm i := by
 unfold sub
 have h : 1 ≤ 2 ^ i := Nat.one_le_two_pow
 exact Nat.mul_le_mul_left _ (Nat.le_trans (by omega) (Nat.mul_le_mul_right (2 * nm + 1) h))
theorem Ek (nm i : Nat) : nm < sub nm i := by have := YL nm i; omega
theorem Ci (nm i : Nat) : 10000 ≤ sub nm i := by have := YL nm i; omega

inductive InT (nm : Nat) : Nat → Prop
 | root : InT nm nm
 | sub {p : Nat} (i : Nat) (h : InT nm p) : InT nm (sub p i)
theorem InT.le {nm k : Nat} (h : InT nm k) : nm ≤ k := by
 induction h with
 | root => exact Nat.le_refl _
 | sub i _ ih => exact Nat.le_trans ih (Nat.le_of_lt (Ek _ _))
theorem InT.up {nm i k : Nat} (h : InT (Av.sub nm i) k) : InT nm k := by
 induction h with
 | root => exact .sub i .root
 | sub j _ ih => exact .sub j ih
theorem InT.ne {nm i k : Nat} (h : InT (Av.sub nm i) k) : k ≠ nm := by
 have := h.le; have := Ek nm i; omega
theorem InT.ge {nm i k : Nat} (h : InT (Av.sub nm i) k) : 10000 ≤ k := Nat.le_trans (Ci nm i) h.le
theorem InT.sib {nm i j k : Nat} (h : InT (Av.sub nm i) k) : InT (Av.sub nm j) k → i = j := by
 induction h with
 | root =>
  intro h'
  generalize hk : Av.sub nm i = k at h'
  cases h' with
  | root => exact (Em hk).2
  | sub q h' => have := (Em hk).1; subst this; exact absurd rfl h'.ne
 | sub q h ih =>
  rename_i p
  intro h'
  generalize hk : Av.sub p q = k at h'
  cases h' with
  | root => have := (Em hk).1; subst this; exact absurd rfl h.ne
  | sub q' h' => have := (Em hk).1; subst this; exact ih h'
theorem InT.apart {a b k : Nat} (ha : a < 10000) (hb : b < 10000) (h : InT a k) : InT b k → a = b := by
 induction h with
 | root =>
  intro h'
  cases h' with
  | root => rfl
  | sub q _ => rename_i p _; have := Ci p q; omega
 | sub q h ih =>
  rename_i p
  intro h'
  generalize hk : Av.sub p q = k at h'
  cases h' with
  | root => have := Ci p q; omega
  | sub q' h' => have := (Em hk).1; subst this; exact ih h'
theorem InT.small {a k : Nat} (h : InT a k) (hk : k < 10000) : k = a := by
 cases h with
 | root => rfl
 | sub i h => rename_i p; have := Ci p i; omega

/-! ### heaps, name by name -/
theorem Yg : ∀ {hp : Hp} {k : Nat} {b : Box}, An hp k = some b → (k, b) ∈ hp
 | (j, c) :: r, k, b, h => by
  simp only [An] at h
  split at h
  ·rename_i e; subst e; cases h; exact List.mem_cons_self
  ·exact List.mem_cons_of_mem _ (Yg h)
theorem TN : ∀ {hp : Hp} {k : Nat}, (∀ p ∈ hp, p.1 ≠ k) → An hp k = none
 | [], _, _ => rfl
 | (j, c) :: r, k, h => by
  simp only [An]
  rw [if_neg (h (j, c) List.mem_cons_self)]
  exact TN fun p hp => h p (List.mem_cons_of_mem _ hp)
theorem Qd : ∀ (a b : Hp) (k : Nat), An (a ++ b) k = (An a k).orElse fun _ => An b k
 | [], b, k => rfl
 | (j, c) :: r, b, k => by
  simp only [List.cons_append, An]
  split
  ·rfl
  ·exact Qd r b k
theorem Nh {a b : Hp} {k : Nat} {x : Box} (h : An a k = some x) : An (a ++ b) k = some x := by rw [Qd, h]; rfl
theorem BR {a b : Hp} {k : Nat} (h : ∀ p ∈ a, p.1 ≠ k) : An (a ++ b) k = An b k := by rw [Qd, TN h]; rfl
theorem BE {j k : Nat} {b : Box} {r : Hp} (h : j ≠ k) : An ((j, b) :: r) k = An r k := by simp only [An]; rw [if_neg h]
theorem AZ {k : Nat} {b : Box} {r : Hp} : An ((k, b) :: r) k = some b := by simp [An]
theorem Az {s : Hp} : ∀ {t : Hp}, Ax s t ↔ ∀ p ∈ t, An s p.1 = some p.2
 | [] => ⟨fun _ p hp => (by cases hp), fun _ => trivial⟩
 | (k, b) :: r => by
  rw [FG, Az (t := r)]
  exact ⟨fun h p hp => (List.mem_cons.1 hp).elim (fun e => by subst e; exact h.1) (h.2 p), fun h => ⟨h _ List.mem_cons_self, fun p hp => h p (List.mem_cons_of_mem _ hp)⟩⟩
theorem Ap {s a b : Hp} : Ax s (a ++ b) ↔ Ax s a ∧ Ax s b := by
 simp only [Az, List.mem_append]
 exact ⟨fun h => ⟨fun p hp => h p (.inl hp), fun p hp => h p (.inr hp)⟩, fun h p hp => hp.elim (h.1 p) (h.2 p)⟩
theorem Bz {s a b : Hp} (h : Ax a s) : Ax (a ++ b) s := Az.2 fun p hp => Nh (Az.1 h p hp)
theorem ZZ {hp : Hp} : ∀ {hp0 : Hp}, Ax hp hp0 → JL (hp0.map Prod.fst) hp = hp0
 | [], _ => rfl
 | (k, b) :: r, h => by
  rw [FG] at h
  rw [List.map_cons, NO, h.1, L7, ZZ h.2]
theorem contains_iff {l : List Nat} {k : Nat} : l.contains k = true ↔ k ∈ l := by simp
theorem BX {hs : List Nat} {hp : Hp} {k : Nat} (h : k ∉ hs) : An (B1 hs hp) k = An hp k := by
 rw [Ls, if_neg (fun c => h (contains_iff.1 c))]
theorem JM {hp : Hp} {k j : Nat} (h : j ≠ k) : An (Gt hp j) k = An hp k := by
 unfold Gt
 split
 ·exact BE h
 ·rfl
theorem BH : ∀ {ks : List Nat} {hp : Hp} {k : Nat}, k ∉ ks → An (B3 ks hp) k = An hp k
 | [], _, _, _ => rfl
 | j :: r, hp, k, h => by
  rw [ET, BH (ks := r) (fun x => h (List.mem_cons_of_mem _ x)), JM (fun e => h (by rw [e]; exact List.mem_cons_self))]
theorem DU : ∀ (a b : List Nat) (hp : Hp), B3 (a ++ b) hp = B3 b (B3 a hp)
 | [], _, _ => rfl
 | j :: r, b, hp => by rw [List.cons_append, ET, ET, DU r b]

/-! ### plain values in rows of their own -/
class OVal (α : Type) [AVal α] where
 ty : TypeId
 ov : Nat → (Nat → Nat) → α → AV
 oh : Nat → (Nat → Nat) → α → Hp
 on : Nat → α → List Nat
 names : ∀ nm vs y, (oh nm vs y).map Prod.fst = on nm y
 inn : ∀ nm y k, k ∈ on nm y → InT nm k
 self : ∀ nm vs y, Ax (oh nm vs y) (oh nm vs y)
 FL : ∀ nm vs vs' y, (∀ k, InT nm k → vs k = vs' k) → ov nm vs y = ov nm vs' y ∧ oh nm vs y = oh nm vs' y
 HE : ∀ nm vs y hp, Ax hp (oh nm vs y) → (ov nm vs y).pur (B3 (on nm y) hp) = av y
 dep : ∀ nm vs y hp hp', (∀ k, InT nm k → An hp k = An hp' k) → (ov nm vs y).pur hp = (ov nm vs y).pur hp'
 free : ∀ nm vs y, ∀ p ∈ oh nm vs y, p.2.frz = false ∧ ∀ e ∈ p.2.es, ∀ x ∈ e.cells, x.GO = true
 Kq : ∀ nm vs y, ∀ x ∈ (ov nm vs y).cells, x.GO = true
 ok : ∀ nm vs y, (ov nm vs y).ok = true
 agg : ∀ nm vs y, (ov nm vs y).isAgg = (av y).isAgg
 len : ∀ nm vs y, (ov nm vs y).cells.length = AVal.n α
open OVal (ov oh on)
theorem OVal.inh {α : Type} [AVal α] [OVal α] {nm : Nat} {vs : Nat → Nat} {y : α} {p : Nat × Box} (h : p ∈ oh nm vs y) : InT nm p.1 :=
 OVal.inn nm y p.1 (by rw [← OVal.names nm vs y]; exact List.mem_map_of_mem h)
theorem FE {α : Type} [AVal α] [OVal α] {nm k : Nat} {vs : Nat → Nat} {y : α} (h : ¬ InT nm k) : ∀ p ∈ oh nm vs y, p.1 ≠ k := fun p hp e => h (e ▸ OVal.inh hp)
theorem Gl {α : Type} [AVal α] [OVal α] {nm k : Nat} {y : α} (h : ¬ InT nm k) : k ∉ on nm y := fun e => h (OVal.inn nm y k e)
@[reducible] def Yi {α : Type} [AVal α] (ty : TypeId) (h : ∀ (y : α), ∀ x ∈ (av y).cells, x.GO = true) : OVal α :=
 ⟨ty, fun _ _ x => av x, fun _ _ _ => [], fun _ _ => [], fun _ _ _ => rfl, fun _ _ _ h => (by cases h), fun _ _ _ => trivial, fun _ _ _ _ _ => ⟨rfl, rfl⟩, fun _ _ y hp _ => AVal.nop y _, fun _ _ y _ _ _ => (AVal.nop y _).trans (AVal.nop y _).symm, fun _ _ _ p h => (by cases h), fun _ _ y x hx => h y x hx, fun _ _ y => AVal.ok y, fun _ _ _ => rfl, fun _ _ y => AVal.len y⟩
instance : OVal Int := Yi 3 (fun y x hx => by rw [A7] at hx; simp [AV.cells] at hx; subst hx; rfl)
instance : OVal ByteArray := Yi 9 (fun y x hx => by rw [NV] at hx; simp [AV.cells] at hx; subst hx; rfl)
theorem LC {a b : Hp} (ha : Ax a a) (hb : Ax b b) (h : ∀ p ∈ b, ∀ q ∈ a, q.1 ≠ p.1) : Ax (a ++ b) (a ++ b) := by
 rw [Ap]
 exact ⟨Bz ha, Az.2 fun p hp => by rw [BR (h p hp)]; exact Az.1 hb p hp⟩
theorem Jr {s t : Hp} {ks : List Nat} (h : ∀ p ∈ t, p.1 ∉ ks) (hs : Ax s t) : Ax (B3 ks s) t := Az.2 fun p hp => by rw [BH (h p hp)]; exact Az.1 hs p hp

section
variable {α : Type} [AVal α] [OVal α]
def ovL (nm : Nat) (vs : Nat → Nat) : Nat → List α → List AV
 | _, [] => []
 | i, e :: r => ov (sub nm i) vs e :: ovL nm vs (i + 1) r
def ohL (nm : Nat) (vs : Nat → Nat) : Nat → List α → Hp
 | _, [] => []
 | i, e :: r => oh (sub nm i) vs e ++ ohL nm vs (i + 1) r
def onL (nm : Nat) : Nat → List α → List Nat
 | _, [] => []
 | i, e :: r => on (sub nm i) e ++ onL nm (i + 1) r
theorem B2 (nm : Nat) (vs : Nat → Nat) : ∀ (i : Nat) (l : List α), (ovL nm vs i l).length = l.length
 | _, [] => rfl
 | i, e :: r => by simp [ovL, B2 nm vs (i + 1) r]
theorem GL (nm : Nat) (vs : Nat → Nat) : ∀ (i : Nat) (l : List α) (j : Nat), (ovL nm vs i l)[j]? = (l[j]?).map (ov (sub nm (i + j)) vs)
 | _, [], j => by simp [ovL]
 | i, e :: r, 0 => by simp [ovL]
 | i, e :: r, j + 1 => by
  simp only [ovL, List.getElem?_cons_succ]
  rw [GL nm vs (i + 1) r j, show i + 1 + j = i + (j + 1) by omega]
theorem Ep (nm : Nat) (vs : Nat → Nat) (l : List α) {j : Nat} (h : j < l.length) (d : AV) : (ovL nm vs 0 l).getD j d = ov (sub nm j) vs l[j] := by
 rw [List.getD_eq_getElem?_getD, GL, List.getElem?_eq_getElem h]; simp
theorem Ad6 {nm : Nat} {vs : Nat → Nat} {i : Nat} {l : List α} {x : AV} (h : x ∈ ovL nm vs i l) : ∃ (j : Nat) (e : α), x = ov (sub nm j) vs e := by
 obtain ⟨j, hj⟩ := List.getElem?_of_mem h
 rw [GL, Option.map_eq_some_iff] at hj
 obtain ⟨e, _, rfl⟩ := hj
 exact ⟨_, e, rfl⟩
theorem HZ (nm : Nat) (vs : Nat → Nat) (l : List α) (j : Nat) (e : α) : ovL nm vs 0 (l.set j e) = (ovL nm vs 0 l).set j (ov (sub nm j) vs e) := by
 apply List.ext_getElem?
 intro q
 rw [GL, List.getElem?_set, List.getElem?_set, GL, B2]
 by_cases h : j = q
 ·subst h
  by_cases hl : j < l.length <;> simp [hl]
 ·simp [h]
theorem GC {nm : Nat} {vs : Nat → Nat} : ∀ {i : Nat} {l : List α} {p : Nat × Box}, p ∈ ohL nm vs i l → ∃ j, ∃ hj : j < l.length, p ∈ oh (sub nm (i + j)) vs l[j]
 | i, e :: r, p, h => by
  simp only [ohL, List.mem_append] at h
  rcases h with h | h
  ·exact ⟨0, by simp, by simpa using h⟩
  ·obtain ⟨j, hj, h⟩ := GC h
   exact ⟨j + 1, by simpa using hj, by rw [show i + (j + 1) = i + 1 + j by omega]; simpa using h⟩
theorem MQ {nm : Nat} {vs : Nat → Nat} : ∀ {i : Nat} {l : List α} {p : Nat × Box} (j : Nat) (hj : j < l.length), p ∈ oh (sub nm (i + j)) vs l[j] → p ∈ ohL nm vs i l
 | i, e :: r, p, 0, hj, h => by simp only [ohL, List.mem_append]; exact .inl (by simpa using h)
 | i, e :: r, p, j + 1, hj, h => by
  simp only [ohL, List.mem_append]
  exact .inr (MQ j (by simpa using hj) (by rw [show i + (j + 1) = i + 1 + j by omega] at h; simpa using h))
theorem DP {nm : Nat} {vs : Nat → Nat} {i : Nat} {l : List α} {p : Nat × Box} (h : p ∈ ohL nm vs i l) : ∃ j, i ≤ j ∧ InT (sub nm j) p.1 := by
 obtain ⟨j, _, h⟩ := GC h
 exact ⟨i + j, by omega, OVal.inh h⟩
theorem Tu {nm : Nat} : ∀ {i : Nat} {l : List α} {k : Nat}, k ∈ onL nm i l → ∃ j, i ≤ j ∧ InT (sub nm j) k
 | i, e :: r, k, h => by
  simp only [onL, List.mem_append] at h
  rcases h with h | h
  ·exact ⟨i, Nat.le_refl _, OVal.inn _ _ _ h⟩
  ·obtain ⟨j, hj, h⟩ := Tu h
   exact ⟨j, by omega, h⟩
theorem R5 (nm : Nat) (vs : Nat → Nat) : ∀ (i : Nat) (l : List α), (ohL nm vs i l).map Prod.fst = onL nm i l
 | _, [] => rfl
 | i, e :: r => by simp only [ohL, onL, List.map_append, OVal.names, R5 nm vs (i + 1) r]
theorem Cy (nm : Nat) (vs : Nat → Nat) : ∀ (i : Nat) (l : List α), Ax (ohL nm vs i l) (ohL nm vs i l)
 | _, [] => trivial
 | i, e :: r => by
  simp only [ohL]
  rw [Ap]
  refine ⟨Bz (OVal.self _ _ _), Az.2 fun p hp => ?_⟩
  obtain ⟨j, hj, h⟩ := DP hp
  rw [BR (FE fun h' => by have := h'.sib h; omega)]
  exact Az.1 (Cy nm vs (i + 1) r) p hp
theorem Vk (nm : Nat) (vs vs' : Nat → Nat) (h : ∀ k, InT nm k → vs k = vs' k) : ∀ (i : Nat) (l : List α), ovL nm vs i l = ovL nm vs' i l ∧ ohL nm vs i l = ohL nm vs' i l
 | _, [] => ⟨rfl, rfl⟩
 | i, e :: r => by
  obtain ⟨a, b⟩ := Vk nm vs vs' h (i + 1) r
  obtain ⟨c, d⟩ := OVal.FL (sub nm i) vs vs' e (fun k hk => h k hk.up)
  simp only [ovL, ohL, a, b, c, d, and_self]
theorem Vm (nm : Nat) (vs : Nat → Nat) : ∀ (i : Nat) (l : List α) (hp : Hp), Ax hp (ohL nm vs i l) → (ovL nm vs i l).map (AV.pur (B3 (onL nm i l) hp)) = l.map av
 | _, [], _, _ => rfl
 | i, e :: r, hp, h => by
  simp only [ohL, Ap] at h
  simp only [ovL, onL, List.map_cons, DU]
  have h1 := OVal.HE (sub nm i) vs e hp h.1
  have h2 := Vm nm vs (i + 1) r (B3 (on (sub nm i) e) hp) (Az.2 fun p hp' => by
   obtain ⟨j, hj, hi⟩ := DP hp'
   rw [BH (Gl fun h' => by have := h'.sib hi; omega)]
   exact Az.1 h.2 p hp')
  rw [h2, ← h1]
  congr 1
  refine OVal.dep _ _ _ _ _ fun k hk => BH fun hm => ?_
  obtain ⟨j, hj, hi⟩ := Tu hm
  have := hk.sib hi
  omega
theorem Acs {nm : Nat} {vs : Nat → Nat} {i : Nat} {l : List α} : ∀ e ∈ ovL nm vs i l, ∀ x ∈ e.cells, x.GO = true := fun e he x hx => by
 obtain ⟨j, y, rfl⟩ := Ad6 he
 exact OVal.Kq _ _ _ x hx
end

section
variable {α : Type} [AVal α] [OVal α]
def Dv (nm : Nat) (vs : Nat → Nat) (l : List α) : Box := ⟨vs nm, false, OVal.ty α, AVal.n α, ovL nm vs 0 l⟩
instance : OVal (List α) where
 ty := 0
 ov nm vs l := .row nm (vs nm) l.length
 oh nm vs l := ohL nm vs 0 l ++ [(nm, Dv nm vs l)]
 on nm l := onL nm 0 l ++ [nm]
 names nm vs l := by simp [R5]
 inn nm l k h := by
  rcases List.mem_append.1 h with h | h
  ·obtain ⟨j, _, h⟩ := Tu h; exact h.up
  ·simp at h; subst h; exact .root
 self nm vs l := by
  rw [Ap]
  refine ⟨Bz (Cy _ _ _ _), Az.2 fun p hp => ?_⟩
  simp at hp; subst hp
  rw [BR (fun p hp e => by obtain ⟨j, _, h⟩ := DP hp; exact h.ne e)]
  exact AZ
 FL nm vs vs' l h := by
  obtain ⟨a, b⟩ := Vk nm vs vs' h 0 l
  simp only [Dv, a, b, h nm .root, and_self]
 HE nm vs l hp h := by
  rw [Ap] at h
  have h1 := Vm nm vs 0 l hp h.1
  have h2 : An hp nm = some (Dv nm vs l) := Az.1 h.2 (nm, _) List.mem_cons_self
  have h3 : An (B3 (onL nm 0 l) hp) nm = some (Dv nm vs l) := by
   rw [BH (fun hm => by obtain ⟨j, _, h⟩ := Tu hm; exact h.ne rfl)]; exact h2
  rw [DU, ET, Jt]
  simp only [AV.pur, AV.B7, Gt, h3, AZ, Dv, h1]
  rw [if_pos (by simp), List.take_of_length_le (by simp)]
  rfl
 dep nm vs l hp hp' h := by simp only [AV.pur, AV.B7, h nm .root]
 free nm vs l p hp := by
  rcases List.mem_append.1 hp with h | h
  ·obtain ⟨j, hj, h⟩ := GC h; exact OVal.free _ _ _ p h
  ·simp at h; subst h; exact ⟨rfl, Acs⟩
 Kq nm vs l x hx := by simp [AV.cells] at hx; subst hx; rfl
 ok _ _ _ := rfl
 agg _ _ _ := rfl
 len _ _ _ := rfl
theorem AJ (nm : Nat) (vs : Nat → Nat) (l : List α) : ov nm vs l = .row nm (vs nm) l.length := eqq rfl
theorem B8 (nm : Nat) (vs : Nat → Nat) (l : List α) : oh nm vs l = ohL nm vs 0 l ++ [(nm, Dv nm vs l)] := eqq rfl
theorem Er (nm : Nat) (vs : Nat → Nat) (l : List α) : An (oh nm vs l) nm = some (Dv nm vs l) := Az.1 (OVal.self nm vs l) (nm, Dv nm vs l) (by rw [B8]; simp)
theorem Lp {nm : Nat} {vs : Nat → Nat} {l : List α} {i : Nat} (hi : i < l.length) : Ax (oh nm vs l) (oh (sub nm i) vs l[i]) := Az.2 fun p hp =>
 Az.1 (OVal.self nm vs l) p (by rw [B8]; exact List.mem_append_left _ (MQ i hi (by simpa using hp)))
theorem L1 {nm : Nat} {vs : Nat → Nat} {l : List α} {i : Nat} (hi : i < l.length) {e' : α} {hp : Hp} (hk : ∀ k, ¬ InT (sub nm i) k → k ≠ nm → An hp k = An (oh nm vs l) k)
  (h1 : An hp nm = some (Dv nm vs (l.set i e'))) (h2 : Ax hp (oh (sub nm i) vs e')) : Ax hp (oh nm vs (l.set i e')) := by
 rw [B8, Ap]
 refine ⟨Az.2 fun p hp' => ?_, ⟨h1, trivial⟩⟩
 obtain ⟨j, hj, h⟩ := GC hp'
 rw [Nat.zero_add] at h
 by_cases hij : i = j
 ·subst hij
  rw [List.getElem_set_self] at h
  exact Az.1 h2 p h
 ·rw [List.getElem_set_ne hij] at h
  have hin := OVal.inh h
  rw [hk p.1 (fun h' => hij (h'.sib hin)) hin.ne]
  exact Az.1 (Lp (by simpa using hj)) p h
end
theorem Js {α : Type} [AVal α] [OVal α] {K k : Nat} {vs : Nat → Nat} {y y' : α} {hp : Hp} (h : ¬ InT K k) : An (oh K vs y' ++ B1 (on K y) hp) k = An hp k := by
 rw [BR (FE h), BX (Gl h)]
theorem Abs {α β : Type} [AVal α] [OVal α] [AVal β] [OVal β] {K K' : Nat} {vs vs' : Nat → Nat} {y y' : α} {z : β} {hp : Hp} (h : ∀ k, InT K' k → ¬ InT K k) (hz : Ax hp (oh K' vs' z)) : Ax (oh K vs y' ++ B1 (on K y) hp) (oh K' vs' z) :=
 Az.2 fun p hp' => by rw [Js (h _ (OVal.inh hp'))]; exact Az.1 hz p hp'
theorem Al {β : Type} [AVal β] [OVal β] {K' j : Nat} {b : Box} {vs' : Nat → Nat} {z : β} {hp : Hp} (h : ¬ InT K' j) (hz : Ax hp (oh K' vs' z)) : Ax ((j, b) :: hp) (oh K' vs' z) :=
 Az.2 fun p hp' => by rw [BE (fun e : j = p.1 => h (by rw [e]; exact OVal.inh hp'))]; exact Az.1 hz p hp'
theorem Ab8 {α : Type} {E : List α} {i : Nat} {a d : α} (h : i < E.length) (e : E.getD i d = a) : E.set i a = E := by
 rw [List.getD_eq_getElem?_getD, List.getElem?_eq_getElem h] at e
 simp at e
 subst e
 exact List.set_getElem_self h
theorem AQ {q nm i : Nat} (hq : q < 10000) : (q == sub nm i) = false := beq_eq_false_iff_ne.2 fun e => by have := Ci nm i; omega
theorem Eg {β : Type} [AVal β] [OVal β] {nm i j : Nat} {b : Box} {vs : Nat → Nat} {z : β} {hp : Hp} (hz : Ax hp (oh (sub nm i) vs z)) (hj : j < 10000) : Ax ((j, b) :: hp) (oh (sub nm i) vs z) :=
 Al (fun h => by have := h.ge; omega) hz
theorem Dd {α : Type} [AVal α] [OVal α] {nm : Nat} {vs : Nat → Nat} {y : α} {hp : Hp} (h : Ax hp (oh nm vs y)) : JL (on nm y) hp = oh nm vs y := by
 rw [← OVal.names nm vs y]; exact ZZ h
theorem PH {α : Type} [AVal α] [OVal α] (h : ∀ nm vs (x : α), ov nm vs x = av x) (nm : Nat) (vs : Nat → Nat) : ∀ (i : Nat) (l : List α), ovL nm vs i l = l.map av
 | _, [] => rfl
 | i, e :: r => by simp only [ovL, List.map_cons, h, PH h nm vs (i + 1) r]
theorem PN {α : Type} [AVal α] [OVal α] (h : ∀ nm vs (x : α), oh nm vs x = []) (nm : Nat) (vs : Nat → Nat) : ∀ (i : Nat) (l : List α), ohL nm vs i l = []
 | _, [] => rfl
 | i, e :: r => by simp only [ohL, h, PN h nm vs (i + 1) r, List.append_nil]
theorem Zz (nm : Nat) (vs : Nat → Nat) (l : List Int) : oh nm vs l = [(nm, ⟨vs nm, false, 3, 1, l.map av⟩)] := by
 rw [B8, PN (fun _ _ _ => rfl), List.nil_append, Dv, PH (fun _ _ _ => rfl)]; rfl
theorem Bs (hp : Hp) : B1 [] hp = hp := by
 induction hp with
 | nil => rfl
 | cons p r ih => obtain ⟨q, c⟩ := p; rw [L8, if_neg (by simp), ih]
theorem EL {α : Type} [AVal α] [OVal α] (nm : Nat) (vs : Nat → Nat) (i : Nat) : ohL nm vs i ([] : List α) = [] := rfl
theorem ML {α : Type} [AVal α] [OVal α] (h1 : ∀ nm vs (x : α), ov nm vs x = av x) (h2 : ∀ nm vs (x : α), oh nm vs x = []) (nm : Nat) (vs : Nat → Nat) (l : List α) : oh nm vs l = [(nm, ⟨vs nm, false, OVal.ty α, AVal.n α, l.map av⟩)] := by
 rw [B8, PN h2, List.nil_append, Dv, PH h1]
/-! ### calls that are handed parts -/
theorem As {P : Go.Program} {f : FuncId} {args : List AV} {hp hp0 : Hp} {k : AV → Hp → Prop} {Post : AV → Hp → Prop} (hs : List Nat) (h : AU P f args hp0 Post) {kp : DA k} (he : JL hs hp = hp0) (hk : ∀ r hp', Post r hp' → ∀ H, H = hp' ++ B1 hs hp → k r H) : Bd2 (fun k => Lx P f args hp k) k kp :=
 BB hs h he fun r hp' hpst => hk r hp' hpst _ rfl
section
variable {α : Type} [AVal α] [OVal α]
theorem Aq {H : Hp} {K : Nat} {vs : Nat → Nat} {l : List α} (h : Ax H (oh K vs l)) : An H K = some ⟨vs K, false, OVal.ty α, AVal.n α, ovL K vs 0 l⟩ := by
 rw [B8, Ap] at h
 exact h.2.1
theorem Ei {K nm : Nat} {vs : Nat → Nat} {y y' : α} {hp H : Hp} {b : Box} (hH : H = oh K vs y' ++ B1 (on K y) hp) (hn : ¬ InT K nm) (h : An hp nm = some b) : An H nm = some b := by
 rw [hH, Js hn]; exact h
theorem Cb {K : Nat} {vs : Nat → Nat} {y y' : α} {hp H : Hp} (hH : H = oh K vs y' ++ B1 (on K y) hp) : Ax H (oh K vs y') := by
 rw [hH]; exact Bz (OVal.self _ _ _)
theorem BC {β : Type} [AVal β] [OVal β] {K K' : Nat} {vs vs' : Nat → Nat} {y y' : α} {z : β} {hp H : Hp} (hH : H = oh K vs y' ++ B1 (on K y) hp) (h : ∀ k, InT K' k → ¬ InT K k) (hz : Ax hp (oh K' vs' z)) : Ax H (oh K' vs' z) := by
 rw [hH]; exact Abs h hz
theorem IW {nm i j : Nat} {vs : Nat → Nat} {y y' : α} {hp H : Hp} {X : Nat → Option Box} (hH : H = oh (sub (sub nm i) j) vs y' ++ B1 (on (sub (sub nm i) j) y) hp) (h : ∀ q, ¬ InT (sub nm i) q → q ≠ nm → An hp q = X q) : ∀ q, ¬ InT (sub nm i) q → q ≠ nm → An H q = X q := fun q h1 h2 => by
 rw [hH, Js (fun h => h1 h.up)]; exact h q h1 h2
end
theorem DV {nm i : Nat} {b : Box} {hp : Hp} {X : Nat → Option Box} (h : ∀ q, ¬ InT (sub nm i) q → q ≠ nm → An hp q = X q) : ∀ q, ¬ InT (sub nm i) q → q ≠ nm → An ((nm, b) :: hp) q = X q := fun q h1 h2 => by
 rw [BE (fun e => h2 e.symm)]; exact h q h1 h2
theorem BG {nm i j k : Nat} (hij : i ≠ j) (h : InT (sub nm i) k) : ¬ InT (sub nm j) k := fun h' => hij (h.sib h')
theorem JF {nm i j : Nat} : ¬ InT (sub (sub nm i) j) nm := fun h => h.up.ne rfl
theorem IX {nm i j : Nat} : (nm == sub (sub nm i) j) = false := beq_eq_false_iff_ne.2 fun e => JF (i := i) (j := j) (by rw [← e]; exact .root)
end Go.Proofs.YtppjinmlfcokaaaGreat.Av
