/-
 OWN ROWS WITHIN OWN ROWS: the names of the parts, when a plain value lies in rows of its own, how it is lent, how a part is exchanged. Conditions: none.
-/
import Derived.Test.YtjbcnilllfaipaaGreatYJ06
set_option linter.unusedVariables false
set_option linter.unusedSimpArgs false
namespace Go.Proofs.YtjbcnilllfaipaaGreat.Av
open Go.RowKit
open AVal (av)

def sub (nm i : Nat) : Nat := 10000 * (2 ^ i * (2 * nm + 1))
theorem X2 : ∀ (i j a b : Nat), 2 ^ i * (2 * a + 1) = 2 ^ j * (2 * b + 1) → i = j ∧ a = b := by
 intro i
 induction i with
 | zero =>
  intro j a b h
  cases j with
  | zero => simp at h; exact ⟨rfl, by omega⟩
  | succ j =>
   rw [Nat.pow_succ, Nat.mul_comm (2 ^ j) 2, Nat.mul_assoc] at h
   generalize 2 ^ j * (2 * b + 1) = q at h
   simp at h; omega
 | succ i ih =>
  intro j a b h
  cases j with
  | zero =>
   rw [Nat.pow_succ, Nat.mul_comm (2 ^ i) 2, Nat.mul_assoc] at h
   generalize 2 ^ i * (2 * a + 1) = q at h
   simp at h; omega
  | succ j =>
   rw [Nat.pow_succ, Nat.mul_comm (2 ^ i) 2, Nat.mul_assoc, Nat.pow_succ, Nat.mul_comm (2 ^ j) 2, Nat.mul_assoc] at h
   obtain ⟨h1, h2⟩ := ih j a b (by omega)
   exact ⟨by omega, h2⟩
theorem Ls {a b i j : Nat} (h : sub a i = sub b j) : a = b ∧ i = j := by
 unfold sub at h
 have := X2 i j a b (by omega)
 exact ⟨this.2, this.1⟩
theorem Xc (nm i : Nat) : 10000 * (2 * nm + 1) ≤ sub nm i := by
 unfold sub
 have h : 1 ≤ 2 ^ i := Nat.one_le_two_pow
 exact Nat.mul_le_mul_left _ (Nat.le_trans (by omega) (Nat.mul_le_mul_right (2 * nm + 1) h))
theorem Aa5 (nm i : Nat) : nm < sub nm i := by have := Xc nm i; omega
theorem N6 (nm i : Nat) : 10000 ≤ sub nm i := by have := Xc nm i; omega

inductive InT (nm : Nat) : Nat → Prop
 | root : InT nm nm
 | sub {p : Nat} (i : Nat) (h : InT nm p) : InT nm (sub p i)
theorem InT.le {nm k : Nat} (h : InT nm k) : nm ≤ k := by
 induction h with
 | root => exact Nat.le_refl _
 | sub i _ ih => exact Nat.le_trans ih (Nat.le_of_lt (Aa5 _ _))
theorem InT.up {nm i k : Nat} (h : InT (Av.sub nm i) k) : InT nm k := by
 induction h with
 | root => exact .sub i .root
 | sub j _ ih => exact .sub j ih
theorem InT.ne {nm i k : Nat} (h : InT (Av.sub nm i) k) : k ≠ nm := by
 have := h.le; have := Aa5 nm i; omega
theorem InT.ge {nm i k : Nat} (h : InT (Av.sub nm i) k) : 10000 ≤ k := Nat.le_trans (N6 nm i) h.le
theorem InT.sib {nm i j k : Nat} (h : InT (Av.sub nm i) k) : InT (Av.sub nm j) k → i = j := by
 induction h with
 | root =>
  intro h'
  generalize hk : Av.sub nm i = k at h'
  cases h' with
  | root => exact (Ls hk).2
  | sub q h' => have := (Ls hk).1; subst this; exact absurd rfl h'.ne
 | sub q h ih =>
  rename_i p
  intro h'
  generalize hk : Av.sub p q = k at h'
  cases h' with
  | root => have := (Ls hk).1; subst this; exact absurd rfl h.ne
  | sub q' h' => have := (Ls hk).1; subst this; exact ih h'
theorem InT.apart {a b k : Nat} (ha : a < 10000) (hb : b < 10000) (h : InT a k) : InT b k → a = b := by
 induction h with
 | root =>
  intro h'
  cases h' with
  | root => rfl
  | sub q _ => rename_i p _; have := N6 p q; omega
 | sub q h ih =>
  rename_i p
  intro h'
  generalize hk : Av.sub p q = k at h'
  cases h' with
  | root => have := N6 p q; omega
  | sub q' h' => have := (Ls hk).1; subst this; exact ih h'
theorem InT.small {a k : Nat} (h : InT a k) (hk : k < 10000) : k = a := by
 cases h with
 | root => rfl
 | sub i h => rename_i p; have := N6 p i; omega

/-! ### heaps, name by name -/
theorem Sy : ∀ {hp : Hp} {k : Nat} {b : Box}, Aw hp k = some b → (k, b) ∈ hp
 | (j, c) :: r, k, b, h => by
  simp only [Aw] at h
  split at h
  ·rename_i e; subst e; cases h; exact List.mem_cons_self
  ·exact List.mem_cons_of_mem _ (Sy h)
theorem Yw : ∀ {hp : Hp} {k : Nat}, (∀ p ∈ hp, p.1 ≠ k) → Aw hp k = none
 | [], _, _ => rfl
 | (j, c) :: r, k, h => by
  simp only [Aw]
  rw [if_neg (h (j, c) List.mem_cons_self)]
  exact Yw fun p hp => h p (List.mem_cons_of_mem _ hp)
theorem Sz : ∀ (a b : Hp) (k : Nat), Aw (a ++ b) k = (Aw a k).orElse fun _ => Aw b k
 | [], b, k => rfl
 | (j, c) :: r, b, k => by
  simp only [List.cons_append, Aw]
  split
  ·rfl
  ·exact Sz r b k
theorem UD {a b : Hp} {k : Nat} {x : Box} (h : Aw a k = some x) : Aw (a ++ b) k = some x := by rw [Sz, h]; rfl
theorem Dh {a b : Hp} {k : Nat} (h : ∀ p ∈ a, p.1 ≠ k) : Aw (a ++ b) k = Aw b k := by rw [Sz, Yw h]; rfl
theorem D5 {j k : Nat} {b : Box} {r : Hp} (h : j ≠ k) : Aw ((j, b) :: r) k = Aw r k := by simp only [Aw]; rw [if_neg h]
theorem Cj {k : Nat} {b : Box} {r : Hp} : Aw ((k, b) :: r) k = some b := by simp [Aw]
theorem A3 {s : Hp} : ∀ {t : Hp}, Bg s t ↔ ∀ p ∈ t, Aw s p.1 = some p.2
 | [] => ⟨fun _ p hp => (by cases hp), fun _ => trivial⟩
 | (k, b) :: r => by
  rw [Dt, A3 (t := r)]
  exact ⟨fun h p hp => (List.mem_cons.1 hp).elim (fun e => by subst e; exact h.1) (h.2 p), fun h => ⟨h _ List.mem_cons_self, fun p hp => h p (List.mem_cons_of_mem _ hp)⟩⟩
theorem BI {s a b : Hp} : Bg s (a ++ b) ↔ Bg s a ∧ Bg s b := by
 simp only [A3, List.mem_append]
 exact ⟨fun h => ⟨fun p hp => h p (.inl hp), fun p hp => h p (.inr hp)⟩, fun h p hp => hp.elim (h.1 p) (h.2 p)⟩
theorem AX {s a b : Hp} (h : Bg a s) : Bg (a ++ b) s := A3.2 fun p hp => UD (A3.1 h p hp)
theorem Sw {hp : Hp} : ∀ {hp0 : Hp}, Bg hp hp0 → I5 (hp0.map Prod.fst) hp = hp0
 | [], _ => rfl
 | (k, b) :: r, h => by
  rw [Dt] at h
  rw [List.map_cons, MO, h.1, K8, Sw h.2]
theorem contains_iff {l : List Nat} {k : Nat} : l.contains k = true ↔ k ∈ l := by simp
theorem KS {hs : List Nat} {hp : Hp} {k : Nat} (h : k ∉ hs) : Aw (BN hs hp) k = Aw hp k := by
 rw [MQ, if_neg (fun c => h (contains_iff.1 c))]
theorem Sx {hp : Hp} {k j : Nat} (h : j ≠ k) : Aw (KG hp j) k = Aw hp k := by
 unfold KG
 split
 ·exact D5 h
 ·rfl
theorem Dn : ∀ {ks : List Nat} {hp : Hp} {k : Nat}, k ∉ ks → Aw (Cy ks hp) k = Aw hp k
 | [], _, _, _ => rfl
 | j :: r, hp, k, h => by
  rw [GZ, Dn (ks := r) (fun x => h (List.mem_cons_of_mem _ x)), Sx (fun e => h (by rw [e]; exact List.mem_cons_self))]
theorem FT : ∀ (a b : List Nat) (hp : Hp), Cy (a ++ b) hp = Cy b (Cy a hp)
 | [], _, _ => rfl
 | j :: r, b, hp => by rw [List.cons_append, GZ, GZ, FT r b]

/-! ### plain values in rows of their own -/
class OVal (α : Type) [AVal α] where
 ty : TypeId
 ov : Nat → (Nat → Nat) → α → AV
 oh : Nat → (Nat → Nat) → α → Hp
 on : Nat → α → List Nat
 names : ∀ nm vs y, (oh nm vs y).map Prod.fst = on nm y
 inn : ∀ nm y k, k ∈ on nm y → InT nm k
 self : ∀ nm vs y, Bg (oh nm vs y) (oh nm vs y)
 Gm : ∀ nm vs vs' y, (∀ k, InT nm k → vs k = vs' k) → ov nm vs y = ov nm vs' y ∧ oh nm vs y = oh nm vs' y
 Hk : ∀ nm vs y hp, Bg hp (oh nm vs y) → (ov nm vs y).pur (Cy (on nm y) hp) = av y
 dep : ∀ nm vs y hp hp', (∀ k, InT nm k → Aw hp k = Aw hp' k) → (ov nm vs y).pur hp = (ov nm vs y).pur hp'
 free : ∀ nm vs y, ∀ p ∈ oh nm vs y, p.2.frz = false ∧ ∀ e ∈ p.2.es, ∀ x ∈ e.cells, x.HN = true
 JH : ∀ nm vs y, ∀ x ∈ (ov nm vs y).cells, x.HN = true
 ok : ∀ nm vs y, (ov nm vs y).ok = true
 agg : ∀ nm vs y, (ov nm vs y).isAgg = (av y).isAgg
 len : ∀ nm vs y, (ov nm vs y).cells.length = AVal.n α
open OVal (ov oh on)
theorem OVal.inh {α : Type} [AVal α] [OVal α] {nm : Nat} {vs : Nat → Nat} {y : α} {p : Nat × Box} (h : p ∈ oh nm vs y) : InT nm p.1 :=
 OVal.inn nm y p.1 (by rw [← OVal.names nm vs y]; exact List.mem_map_of_mem h)
theorem Ii {α : Type} [AVal α] [OVal α] {nm k : Nat} {vs : Nat → Nat} {y : α} (h : ¬ InT nm k) : ∀ p ∈ oh nm vs y, p.1 ≠ k := fun p hp e => h (e ▸ OVal.inh hp)
theorem JX {α : Type} [AVal α] [OVal α] {nm k : Nat} {y : α} (h : ¬ InT nm k) : k ∉ on nm y := fun e => h (OVal.inn nm y k e)
@[reducible] def WG {α : Type} [AVal α] (ty : TypeId) (h : ∀ (y : α), ∀ x ∈ (av y).cells, x.HN = true) : OVal α :=
 ⟨ty, fun _ _ x => av x, fun _ _ _ => [], fun _ _ => [], fun _ _ _ => rfl, fun _ _ _ h => (by cases h), fun _ _ _ => trivial, fun _ _ _ _ _ => ⟨rfl, rfl⟩, fun _ _ y hp _ => AVal.nop y _, fun _ _ y _ _ _ => (AVal.nop y _).trans (AVal.nop y _).symm, fun _ _ _ p h => (by cases h), fun _ _ y x hx => h y x hx, fun _ _ y => AVal.ok y, fun _ _ _ => rfl, fun _ _ y => AVal.len y⟩
instance : OVal Int := WG 3 (fun y x hx => by rw [Bo] at hx; simp [AV.cells] at hx; subst hx; rfl)
instance : OVal ByteArray := WG 9 (fun y x hx => by rw [B7] at hx; simp [AV.cells] at hx; subst hx; rfl)
theorem AcY {a b : Hp} (ha : Bg a a) (hb : Bg b b) (h : ∀ p ∈ b, ∀ q ∈ a, q.1 ≠ p.1) : Bg (a ++ b) (a ++ b) := by
 rw [BI]
 exact ⟨AX ha, A3.2 fun p hp => by rw [Dh (h p hp)]; exact A3.1 hb p hp⟩
theorem O4 {s t : Hp} {ks : List Nat} (h : ∀ p ∈ t, p.1 ∉ ks) (hs : Bg s t) : Bg (Cy ks s) t := A3.2 fun p hp => by rw [Dn (h p hp)]; exact A3.1 hs p hp

section
variable {α : Type} [AVal α] [OVal α]
def ovL (nm : Nat) (vs : Nat → Nat) : Nat → List α → List AV
 | _, [] => []
 | i, e :: r => ov (sub nm i) vs e :: ovL nm vs (i + 1) r
def ohL (nm : Nat) (vs : Nat → Nat) : Nat → List α → Hp
 | _, [] => []
 | i, e :: r => oh (sub nm i) vs e ++ ohL nm vs (i + 1) r
def onL (nm : Nat) : Nat → List α → List Nat
 | _, [] => []
 | i, e :: r => on (sub nm i) e ++ onL nm (i + 1) r
theorem EI (nm : Nat) (vs : Nat → Nat) : ∀ (i : Nat) (l : List α), (ovL nm vs i l).length = l.length
 | _, [] => rfl
 | i, e :: r => by simp [ovL, EI nm vs (i + 1) r]
theorem JV (nm : Nat) (vs : Nat → Nat) : ∀ (i : Nat) (l : List α) (j : Nat), (ovL nm vs i l)[j]? = (l[j]?).map (ov (sub nm (i + j)) vs)
 | _, [], j => by simp [ovL]
 | i, e :: r, 0 => by simp [ovL]
 | i, e :: r, j + 1 => by
  simp only [ovL, List.getElem?_cons_succ]
  rw [JV nm vs (i + 1) r j, show i + 1 + j = i + (j + 1) by omega]
theorem Ht (nm : Nat) (vs : Nat → Nat) (l : List α) {j : Nat} (h : j < l.length) (d : AV) : (ovL nm vs 0 l).getD j d = ov (sub nm j) vs l[j] := by
 rw [List.getD_eq_getElem?_getD, JV, List.getElem?_eq_getElem h]; simp
theorem Acn {nm : Nat} {vs : Nat → Nat} {i : Nat} {l : List α} {x : AV} (h : x ∈ ovL nm vs i l) : ∃ (j : Nat) (e : α), x = ov (sub nm j) vs e := by
 obtain ⟨j, hj⟩ := List.getElem?_of_mem h
 rw [JV, Option.map_eq_some_iff] at hj
 obtain ⟨e, _, rfl⟩ := hj
 exact ⟨_, e, rfl⟩
theorem Hs (nm : Nat) (vs : Nat → Nat) (l : List α) (j : Nat) (e : α) : ovL nm vs 0 (l.set j e) = (ovL nm vs 0 l).set j (ov (sub nm j) vs e) := by
 apply List.ext_getElem?
 intro q
 rw [JV, List.getElem?_set, List.getElem?_set, JV, EI]
 by_cases h : j = q
 ·subst h
  by_cases hl : j < l.length <;> simp [hl]
 ·simp [h]
theorem LN {nm : Nat} {vs : Nat → Nat} : ∀ {i : Nat} {l : List α} {p : Nat × Box}, p ∈ ohL nm vs i l → ∃ j, ∃ hj : j < l.length, p ∈ oh (sub nm (i + j)) vs l[j]
 | i, e :: r, p, h => by
  simp only [ohL, List.mem_append] at h
  rcases h with h | h
  ·exact ⟨0, by simp, by simpa using h⟩
  ·obtain ⟨j, hj, h⟩ := LN h
   exact ⟨j + 1, by simpa using hj, by rw [show i + (j + 1) = i + 1 + j by omega]; simpa using h⟩
theorem X6 {nm : Nat} {vs : Nat → Nat} : ∀ {i : Nat} {l : List α} {p : Nat × Box} (j : Nat) (hj : j < l.length), p ∈ oh (sub nm (i + j)) vs l[j] → p ∈ ohL nm vs i l
 | i, e :: r, p, 0, hj, h => by simp only [ohL, List.mem_append]; exact .inl (by simpa using h)
 | i, e :: r, p, j + 1, hj, h => by
  simp only [ohL, List.mem_append]
  exact .inr (X6 j (by simpa using hj) (by rw [show i + (j + 1) = i + 1 + j by omega] at h; simpa using h))
theorem Sj {nm : Nat} {vs : Nat → Nat} {i : Nat} {l : List α} {p : Nat × Box} (h : p ∈ ohL nm vs i l) : ∃ j, i ≤ j ∧ InT (sub nm j) p.1 := by
 obtain ⟨j, _, h⟩ := LN h
 exact ⟨i + j, by omega, OVal.inh h⟩
theorem Sg {nm : Nat} : ∀ {i : Nat} {l : List α} {k : Nat}, k ∈ onL nm i l → ∃ j, i ≤ j ∧ InT (sub nm j) k
 | i, e :: r, k, h => by
  simp only [onL, List.mem_append] at h
  rcases h with h | h
  ·exact ⟨i, Nat.le_refl _, OVal.inn _ _ _ h⟩
  ·obtain ⟨j, hj, h⟩ := Sg h
   exact ⟨j, by omega, h⟩
theorem QX (nm : Nat) (vs : Nat → Nat) : ∀ (i : Nat) (l : List α), (ohL nm vs i l).map Prod.fst = onL nm i l
 | _, [] => rfl
 | i, e :: r => by simp only [ohL, onL, List.map_append, OVal.names, QX nm vs (i + 1) r]
theorem LL (nm : Nat) (vs : Nat → Nat) : ∀ (i : Nat) (l : List α), Bg (ohL nm vs i l) (ohL nm vs i l)
 | _, [] => trivial
 | i, e :: r => by
  simp only [ohL]
  rw [BI]
  refine ⟨AX (OVal.self _ _ _), A3.2 fun p hp => ?_⟩
  obtain ⟨j, hj, h⟩ := Sj hp
  rw [Dh (Ii fun h' => by have := h'.sib h; omega)]
  exact A3.1 (LL nm vs (i + 1) r) p hp
theorem T7 (nm : Nat) (vs vs' : Nat → Nat) (h : ∀ k, InT nm k → vs k = vs' k) : ∀ (i : Nat) (l : List α), ovL nm vs i l = ovL nm vs' i l ∧ ohL nm vs i l = ohL nm vs' i l
 | _, [] => ⟨rfl, rfl⟩
 | i, e :: r => by
  obtain ⟨a, b⟩ := T7 nm vs vs' h (i + 1) r
  obtain ⟨c, d⟩ := OVal.Gm (sub nm i) vs vs' e (fun k hk => h k hk.up)
  simp only [ovL, ohL, a, b, c, d, and_self]
theorem T8 (nm : Nat) (vs : Nat → Nat) : ∀ (i : Nat) (l : List α) (hp : Hp), Bg hp (ohL nm vs i l) → (ovL nm vs i l).map (AV.pur (Cy (onL nm i l) hp)) = l.map av
 | _, [], _, _ => rfl
 | i, e :: r, hp, h => by
  simp only [ohL, BI] at h
  simp only [ovL, onL, List.map_cons, FT]
  have h1 := OVal.Hk (sub nm i) vs e hp h.1
  have h2 := T8 nm vs (i + 1) r (Cy (on (sub nm i) e) hp) (A3.2 fun p hp' => by
   obtain ⟨j, hj, hi⟩ := Sj hp'
   rw [Dn (JX fun h' => by have := h'.sib hi; omega)]
   exact A3.1 h.2 p hp')
  rw [h2, ← h1]
  congr 1
  refine OVal.dep _ _ _ _ _ fun k hk => Dn fun hm => ?_
  obtain ⟨j, hj, hi⟩ := Sg hm
  have := hk.sib hi
  omega
theorem AaP {nm : Nat} {vs : Nat → Nat} {i : Nat} {l : List α} : ∀ e ∈ ovL nm vs i l, ∀ x ∈ e.cells, x.HN = true := fun e he x hx => by
 obtain ⟨j, y, rfl⟩ := Acn he
 exact OVal.JH _ _ _ x hx
end

section
variable {α : Type} [AVal α] [OVal α]
def FZ (nm : Nat) (vs : Nat → Nat) (l : List α) : Box := ⟨vs nm, false, OVal.ty α, AVal.n α, ovL nm vs 0 l⟩
instance : OVal (List α) where
 ty := 0
 ov nm vs l := .row nm (vs nm) l.length
 oh nm vs l := ohL nm vs 0 l ++ [(nm, FZ nm vs l)]
 on nm l := onL nm 0 l ++ [nm]
 names nm vs l := by simp [QX]
 inn nm l k h := by
  rcases List.mem_append.1 h with h | h
  ·obtain ⟨j, _, h⟩ := Sg h; exact h.up
  ·simp at h; subst h; exact .root
 self nm vs l := by
  rw [BI]
  refine ⟨AX (LL _ _ _ _), A3.2 fun p hp => ?_⟩
  simp at hp; subst hp
  rw [Dh (fun p hp e => by obtain ⟨j, _, h⟩ := Sj hp; exact h.ne e)]
  exact Cj
 Gm nm vs vs' l h := by
  obtain ⟨a, b⟩ := T7 nm vs vs' h 0 l
  simp only [FZ, a, b, h nm .root, and_self]
 Hk nm vs l hp h := by
  rw [BI] at h
  have h1 := T8 nm vs 0 l hp h.1
  have h2 : Aw hp nm = some (FZ nm vs l) := A3.1 h.2 (nm, _) List.mem_cons_self
  have h3 : Aw (Cy (onL nm 0 l) hp) nm = some (FZ nm vs l) := by
   rw [Dn (fun hm => by obtain ⟨j, _, h⟩ := Sg hm; exact h.ne rfl)]; exact h2
  rw [FT, GZ, Pb]
  simp only [AV.pur, AV.AR, KG, h3, Cj, FZ, h1]
  rw [if_pos (by simp), List.take_of_length_le (by simp)]
  rfl
 dep nm vs l hp hp' h := by simp only [AV.pur, AV.AR, h nm .root]
 free nm vs l p hp := by
  rcases List.mem_append.1 hp with h | h
  ·obtain ⟨j, hj, h⟩ := LN h; exact OVal.free _ _ _ p h
  ·simp at h; subst h; exact ⟨rfl, AaP⟩
 JH nm vs l x hx := by simp [AV.cells] at hx; subst hx; rfl
 ok _ _ _ := rfl
 agg _ _ _ := rfl
 len _ _ _ := rfl
theorem AO (nm : Nat) (vs : Nat → Nat) (l : List α) : ov nm vs l = .row nm (vs nm) l.length := eqq rfl
theorem IY (nm : Nat) (vs : Nat → Nat) (l : List α) : oh nm vs l = ohL nm vs 0 l ++ [(nm, FZ nm vs l)] := eqq rfl
theorem DW (nm : Nat) (vs : Nat → Nat) (l : List α) : Aw (oh nm vs l) nm = some (FZ nm vs l) := A3.1 (OVal.self nm vs l) (nm, FZ nm vs l) (by rw [IY]; simp)
theorem Kx {nm : Nat} {vs : Nat → Nat} {l : List α} {i : Nat} (hi : i < l.length) : Bg (oh nm vs l) (oh (sub nm i) vs l[i]) := A3.2 fun p hp =>
 A3.1 (OVal.self nm vs l) p (by rw [IY]; exact List.mem_append_left _ (X6 i hi (by simpa using hp)))
theorem JY {nm : Nat} {vs : Nat → Nat} {l : List α} {i : Nat} (hi : i < l.length) {e' : α} {hp : Hp} (hk : ∀ k, ¬ InT (sub nm i) k → k ≠ nm → Aw hp k = Aw (oh nm vs l) k)
  (h1 : Aw hp nm = some (FZ nm vs (l.set i e'))) (h2 : Bg hp (oh (sub nm i) vs e')) : Bg hp (oh nm vs (l.set i e')) := by
 rw [IY, BI]
 refine ⟨A3.2 fun p hp' => ?_, ⟨h1, trivial⟩⟩
 obtain ⟨j, hj, h⟩ := LN hp'
 rw [Nat.zero_add] at h
 by_cases hij : i = j
 ·subst hij
  rw [List.getElem_set_self] at h
  exact A3.1 h2 p h
 ·rw [List.getElem_set_ne hij] at h
  have hin := OVal.inh h
  rw [hk p.1 (fun h' => hij (h'.sib hin)) hin.ne]
  exact A3.1 (Kx (by simpa using hj)) p h
end
theorem Kz {α : Type} [AVal α] [OVal α] {K k : Nat} {vs : Nat → Nat} {y y' : α} {hp : Hp} (h : ¬ InT K k) : Aw (oh K vs y' ++ BN (on K y) hp) k = Aw hp k := by
 rw [Dh (Ii h), KS (JX h)]
theorem ZH {α β : Type} [AVal α] [OVal α] [AVal β] [OVal β] {K K' : Nat} {vs vs' : Nat → Nat} {y y' : α} {z : β} {hp : Hp} (h : ∀ k, InT K' k → ¬ InT K k) (hz : Bg hp (oh K' vs' z)) : Bg (oh K vs y' ++ BN (on K y) hp) (oh K' vs' z) :=
 A3.2 fun p hp' => by rw [Kz (h _ (OVal.inh hp'))]; exact A3.1 hz p hp'
theorem Ai {β : Type} [AVal β] [OVal β] {K' j : Nat} {b : Box} {vs' : Nat → Nat} {z : β} {hp : Hp} (h : ¬ InT K' j) (hz : Bg hp (oh K' vs' z)) : Bg ((j, b) :: hp) (oh K' vs' z) :=
 A3.2 fun p hp' => by rw [D5 (fun e : j = p.1 => h (by rw [e]; exact OVal.inh hp'))]; exact A3.1 hz p hp'
theorem Aan {α : Type} {E : List α} {i : Nat} {a d : α} (h : i < E.length) (e : E.getD i d = a) : E.set i a = E := by
 rw [List.getD_eq_getElem?_getD, List.getElem?_eq_getElem h] at e
 simp at e
 subst e
 exact List.set_getElem_self h
theorem BH {q nm i : Nat} (hq : q < 10000) : (q == sub nm i) = false := beq_eq_false_iff_ne.2 fun e => by have := N6 nm i; omega
theorem ED {β : Type} [AVal β] [OVal β] {nm i j : Nat} {b : Box} {vs : Nat → Nat} {z : β} {hp : Hp} (hz : Bg hp (oh (sub nm i) vs z)) (hj : j < 10000) : Bg ((j, b) :: hp) (oh (sub nm i) vs z) :=
 Ai (fun h => by have := h.ge; omega) hz
theorem Fm {α : Type} [AVal α] [OVal α] {nm : Nat} {vs : Nat → Nat} {y : α} {hp : Hp} (h : Bg hp (oh nm vs y)) : I5 (on nm y) hp = oh nm vs y := by
 rw [← OVal.names nm vs y]; exact Sw h
theorem Ox {α : Type} [AVal α] [OVal α] (h : ∀ nm vs (x : α), ov nm vs x = av x) (nm : Nat) (vs : Nat → Nat) : ∀ (i : Nat) (l : List α), ovL nm vs i l = l.map av
 | _, [] => rfl
 | i, e :: r => by simp only [ovL, List.map_cons, h, Ox h nm vs (i + 1) r]
theorem OI {α : Type} [AVal α] [OVal α] (h : ∀ nm vs (x : α), oh nm vs x = []) (nm : Nat) (vs : Nat → Nat) : ∀ (i : Nat) (l : List α), ohL nm vs i l = []
 | _, [] => rfl
 | i, e :: r => by simp only [ohL, h, OI h nm vs (i + 1) r, List.append_nil]
theorem Acr (nm : Nat) (vs : Nat → Nat) (l : List ByteArray) : oh nm vs l = [(nm, ⟨vs nm, false, 9, 1, l.map av⟩)] := by
 rw [IY, OI (fun _ _ _ => rfl), List.nil_append, FZ, Ox (fun _ _ _ => rfl)]; rfl
theorem CK (hp : Hp) : BN [] hp = hp := by
 induction hp with
 | nil => rfl
 | cons p r ih => obtain ⟨q, c⟩ := p; rw [I6, if_neg (by simp), ih]
theorem LM {α : Type} [AVal α] [OVal α] (nm : Nat) (vs : Nat → Nat) (i : Nat) : ohL nm vs i ([] : List α) = [] := rfl
theorem NV {α : Type} [AVal α] [OVal α] (h1 : ∀ nm vs (x : α), ov nm vs x = av x) (h2 : ∀ nm vs (x : α), oh nm vs x = []) (nm : Nat) (vs : Nat → Nat) (l : List α) : oh nm vs l = [(nm, ⟨vs nm, false, OVal.ty α, AVal.n α, l.map av⟩)] := by
 rw [IY, OI h2, List.nil_append, FZ, Ox h1]
/-! ### calls that are handed parts -/
theorem Bb {P : Go.Program} {f : FuncId} {args : List AV} {hp hp0 : Hp} {k : AV → Hp → Prop} {Post : AV → Hp → Prop} (hs : List Nat) (h : Ay P f args hp0 Post) {kp : DC k} (he : I5 hs hp = hp0) (hk : ∀ r hp', Post r hp' → ∀ H, H = hp' ++ BN hs hp → k r H) : Bd2 (fun k => I9 P f args hp k) k kp :=
 Ae hs h he fun r hp' hpst => hk r hp' hpst _ rfl
section
variable {α : Type} [AVal α] [OVal α]
theorem AH {H : Hp} {K : Nat} {vs : Nat → Nat} {l : List α} (h : Bg H (oh K vs l)) : Aw H K = some ⟨vs K, false, OVal.ty α, AVal.n α, ovL K vs 0 l⟩ := by
 rw [IY, BI] at h
 exact h.2.1
theorem GY {K nm : Nat} {vs : Nat → Nat} {y y' : α} {hp H : Hp} {b : Box} (hH : H = oh K vs y' ++ BN (on K y) hp) (hn : ¬ InT K nm) (h : Aw hp nm = some b) : Aw H nm = some b := by
 rw [hH, Kz hn]; exact h
theorem DG {K : Nat} {vs : Nat → Nat} {y y' : α} {hp H : Hp} (hH : H = oh K vs y' ++ BN (on K y) hp) : Bg H (oh K vs y') := by
 rw [hH]; exact AX (OVal.self _ _ _)
theorem BB {β : Type} [AVal β] [OVal β] {K K' : Nat} {vs vs' : Nat → Nat} {y y' : α} {z : β} {hp H : Hp} (hH : H = oh K vs y' ++ BN (on K y) hp) (h : ∀ k, InT K' k → ¬ InT K k) (hz : Bg hp (oh K' vs' z)) : Bg H (oh K' vs' z) := by
 rw [hH]; exact ZH h hz
theorem Ig {nm i j : Nat} {vs : Nat → Nat} {y y' : α} {hp H : Hp} {X : Nat → Option Box} (hH : H = oh (sub (sub nm i) j) vs y' ++ BN (on (sub (sub nm i) j) y) hp) (h : ∀ q, ¬ InT (sub nm i) q → q ≠ nm → Aw hp q = X q) : ∀ q, ¬ InT (sub nm i) q → q ≠ nm → Aw H q = X q := fun q h1 h2 => by
 rw [hH, Kz (fun h => h1 h.up)]; exact h q h1 h2
end
theorem DN {nm i : Nat} {b : Box} {hp : Hp} {X : Nat → Option Box} (h : ∀ q, ¬ InT (sub nm i) q → q ≠ nm → Aw hp q = X q) : ∀ q, ¬ InT (sub nm i) q → q ≠ nm → Aw ((nm, b) :: hp) q = X q := fun q h1 h2 => by
 rw [D5 (fun e => h2 e.symm)]; exact h q h1 h2
theorem C7 {nm i j k : Nat} (hij : i ≠ j) (h : InT (sub nm i) k) : ¬ InT (sub nm j) k := fun h' => hij (h.sib h')
theorem IX {nm i j : Nat} : ¬ InT (sub (sub nm i) j) nm := fun h => h.up.ne rfl
theorem Ih {nm i j : Nat} : (nm == sub (sub nm i) j) = false := beq_eq_false_iff_ne.2 fun e => IX (i := i) (j := j) (by rw [← e]; exact .root)
end Go.Proofs.YtjbcnilllfaipaaGreat.Av
