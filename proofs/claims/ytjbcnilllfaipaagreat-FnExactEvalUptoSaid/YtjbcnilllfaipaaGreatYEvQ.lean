/-
 WHAT A RUN KEEPS: its values are right, its steps and references do not grow less. Conditions: none.
-/
import Derived.Test.YtjbcnilllfaipaaGreatYJ14
import Derived.Test.YtjbcnilllfaipaaGreatYPrimW
set_option linter.unusedVariables false
set_option linter.unusedSimpArgs false
namespace Go.Proofs.YtjbcnilllfaipaaGreat
open Go.RowKit Go.Proofs.YtjbcnilllfaipaaGreat.Av Go.Proofs.YtjbcnilllfaipaaGreat.Ml
open Go.Proofs.YtjbcnilllfaipaaGreat.Av.AVal (av)

def EE.len : EE → Nat
 | .nil => 0
 | .cons _ _ up => up.len + 1
mutual
def EV.ok (l : List Node) (B R D : Nat) : EV → Prop
 | .int n => I64 n
 | .str s => s.size ≤ B
 | .unit => True
 | .EZ s => s.size ≤ B
 | .Gl s v => s.size ≤ B ∧ v.ok l B R D
 | .pair a b => a.ok l B R D ∧ b.ok l B R D
 | .fn i nm e => i < l.length ∧ (l.getD i default).kind = 5 ∧ nm.size ≤ B ∧ e.len ≤ D ∧ e.ok l B R D
 | .ref j => j < R
 | .given s => s.size ≤ B
def EE.ok (l : List Node) (B R D : Nat) : EE → Prop
 | .nil => True
 | .cons s v up => s.size ≤ B ∧ v.ok l B R D ∧ up.ok l B R D
end
mutual
theorem EV.Ak {l : List Node} {B R R' D D' : Nat} (h : R ≤ R') (hd : D ≤ D') : ∀ {v : EV}, v.ok l B R D → v.ok l B R' D'
 | .int n, k => k
 | .str s, k => k
 | .unit, k => trivial
 | .EZ s, k => k
 | .Gl s v, k => by rw [EV.ok] at k ⊢; exact ⟨k.1, EV.Ak h hd k.2⟩
 | .pair a b, k => by rw [EV.ok] at k ⊢; exact ⟨EV.Ak h hd k.1, EV.Ak h hd k.2⟩
 | .fn i nm e, k => by rw [EV.ok] at k ⊢; exact ⟨k.1, k.2.1, k.2.2.1, Nat.le_trans k.2.2.2.1 hd, EE.Ak h hd k.2.2.2.2⟩
 | .ref j, k => by rw [EV.ok] at k ⊢; omega
 | .given s, k => k
theorem EE.Ak {l : List Node} {B R R' D D' : Nat} (h : R ≤ R') (hd : D ≤ D') : ∀ {e : EE}, e.ok l B R D → e.ok l B R' D'
 | .nil, k => trivial
 | .cons s v up, k => by rw [EE.ok] at k ⊢; exact ⟨k.1, EV.Ak h hd k.2.1, EE.Ak h hd k.2.2⟩
end
theorem look_ok {l : List Node} {B R D : Nat} {s : ByteArray} : ∀ {e : EE} {v : EV}, e.ok l B R D → e.look s = some v → v.ok l B R D
 | .nil, v, _, h => by rw [EE.look] at h; cases h
 | .cons t u up, v, k, h => by
  rw [EE.look] at h
  rw [EE.ok] at k
  split at h
  ·cases h; exact k.2.1
  ·exact look_ok k.2.2 h
mutual
def Px.sok (B : Nat) : Px → Prop
 | .mk h ks => h.s.size ≤ B ∧ Px.Wb B ks
def Px.Wb (B : Nat) : List Px → Prop
 | [] => True
 | t :: ts => t.sok B ∧ Px.Wb B ts
end
theorem R5 {B : Nat} : ∀ {ks : List Px}, (∀ k ∈ ks, k.sok B) → Px.Wb B ks
 | [], _ => by rw [Px.Wb]; trivial
 | t :: ts, h => by rw [Px.Wb]; exact ⟨h t (by simp), R5 fun k hk => h k (by simp [hk])⟩
mutual
def Px.cnt : Px → Nat
 | .mk h ks => Px.KH ks + 1
def Px.KH : List Px → Nat
 | [] => 0
 | t :: ts => t.cnt + Px.KH ts
end
mutual
theorem Mc : ∀ (q : Px) (v : EV) (e : EE), (EL q v e).1.len ≤ e.len + q.cnt
 | .mk h ks, v, e => by
  unfold EL
  rw [Px.cnt]
  split
  ·dsimp only; omega
  split
  ·dsimp only; rw [EE.len]; omega
  split
  ·rename_i vs _
   have := MP ks vs e; omega
  ·dsimp only; omega
theorem MP : ∀ (ks : List Px) (vs : List EV) (e : EE), (Cn ks vs e).1.len ≤ e.len + Px.KH ks
 | [], vs, e => by rw [Cn]; exact Nat.le_add_right _ _
 | k :: ks, vs, e => by
  have h1 := Mc k (vs.headD default) e
  have h2 := MP ks vs.tail (EL k (vs.headD default) e).1
  rw [Cn, Px.KH]
  split
  ·omega
  ·dsimp only; omega
end
theorem Q4 {q : Px} {v : EV} {e e' : EE} (h : NL q v e = some e') : e' = (EL q v e).1 := by
 unfold NL at h
 split at h
 ·cases h; rfl
 ·cases h
theorem Vu : ∀ {qs : List Px} {v : EV} {e e' : EE} {i j : Nat}, (∀ q ∈ qs, q.cnt ≤ 600) → Gr qs v e i = some (j, e') → e'.len ≤ e.len + 600
 | [], v, e, e', i, j, _, h => by rw [Gr] at h; cases h
 | q :: r, v, e, e', i, j, hq, h => by
  rw [Gr] at h
  cases h1 : NL q v e with
  | none =>
   rw [h1] at h
   exact Vu (fun x hx => hq x (by simp [hx])) h
  | some e1 =>
   rw [h1] at h
   cases h
   have := Mc q v e
   rw [← Q4 h1] at this
   have := hq q (by simp)
   omega
theorem AcG {l : List Node} {B R D : Nat} {h : Hd} {m : Nat} {v : EV} {vs : List EV} (hv : v.ok l B R D) (hf : DD h m v = some vs) : ∀ x ∈ vs, x.ok l B R D := by
 unfold DD at hf
 split at hf
 ·cases v <;> (try dsimp only at hf) <;> first | cases hf | skip
  split at hf <;> cases hf
  intro x hx; cases hx
 split at hf
 ·cases v <;> (try dsimp only at hf) <;> first | (cases hf; done) | skip
  cases hf
  intro x hx; cases hx
 split at hf
 ·cases v <;> (try dsimp only at hf) <;> first | (cases hf; done) | skip
  cases hf
  rw [EV.ok] at hv
  simp only [List.mem_cons, List.not_mem_nil, or_false]
  rintro x (rfl | rfl)
  ·exact hv.1
  ·exact hv.2
 ·cases v <;> (try dsimp only at hf) <;> first | (cases hf; done) | skip
  ·split at hf <;> cases hf
   intro x hx; cases hx
  ·split at hf <;> cases hf
   rw [EV.ok] at hv
   intro x hx
   rw [List.mem_singleton.1 hx]
   exact hv.2
theorem AcC {l : List Node} {B R D : Nat} {vs : List EV} (h : ∀ x ∈ vs, x.ok l B R D) : (vs.headD default).ok l B R D := by
 cases vs with
 | nil => exact trivial
 | cons v r => exact h v (by simp)
mutual
theorem NX {l : List Node} {B R D : Nat} : ∀ {q : Px} {v : EV} {e : EE}, q.sok B → v.ok l B R D → e.ok l B R D → (EL q v e).1.ok l B R D
 | .mk h ks, v, e, hq, hv, he => by
  rw [Px.sok] at hq
  unfold EL
  split
  ·exact he
  split
  ·rw [EE.ok]; exact ⟨hq.1, hv, he⟩
  split
  ·rename_i vs hf
   exact UA hq.2 (AcG hv hf) he
  ·exact he
theorem UA {l : List Node} {B R D : Nat} : ∀ {ks : List Px} {vs : List EV} {e : EE}, Px.Wb B ks → (∀ v ∈ vs, v.ok l B R D) → e.ok l B R D → (Cn ks vs e).1.ok l B R D
 | [], vs, e, _, _, he => by rw [Cn]; exact he
 | k :: ks, vs, e, hq, hv, he => by
  rw [Px.Wb] at hq
  have h1 := NX hq.1 (AcC hv) he
  rw [Cn]
  split
  ·exact UA hq.2 (fun x hx => hv x (List.mem_of_mem_tail hx)) h1
  ·exact h1
end
theorem AcB {l : List Node} {B R D : Nat} {q : Px} {v : EV} {e e' : EE} (hq : q.sok B) (hv : v.ok l B R D) (he : e.ok l B R D) (h : NL q v e = some e') : e'.ok l B R D := by
 rw [Q4 h]; exact NX hq hv he
theorem YS {l : List Node} {B R D : Nat} : ∀ {qs : List Px} {v : EV} {e e' : EE} {i j : Nat}, (∀ q ∈ qs, q.sok B) → v.ok l B R D → e.ok l B R D → Gr qs v e i = some (j, e') → e'.ok l B R D ∧ i ≤ j ∧ j < i + qs.length
 | [], v, e, e', i, j, _, _, _, h => by rw [Gr] at h; cases h
 | q :: r, v, e, e', i, j, hq, hv, he, h => by
  rw [Gr] at h
  cases h1 : NL q v e with
  | none =>
   rw [h1] at h
   have := YS (fun x hx => hq x (by simp [hx])) hv he h
   simp only [List.length_cons]
   exact ⟨this.1, by omega, by omega⟩
  | some e1 =>
   rw [h1] at h
   cases h
   exact ⟨AcB (hq q (by simp)) hv he h1, by omega, by simp⟩
structure ES.ok (l : List Node) (B M : Nat) (st : ES) : Prop where
 steps : st.steps ≤ M
 refs : st.refs.length ≤ st.steps
 tr : st.tr.length ≤ st.steps
 inp : ∀ x ∈ st.inp, I64 x
 ref : ∀ v ∈ st.refs, v.ok l B st.refs.length (700 * st.steps)
 trs : ∀ s ∈ st.tr, s.size ≤ B
 n : I64 st.n
 inl : st.inp.length ≤ 1099511627776
structure Cm (l : List Node) (B M : Nat) (st : ES) (a : Nat) (r : Option EV × ES) : Prop where
 ok : r.2.ok l B M
 steps : st.steps ≤ r.2.steps
 refs : st.refs.length ≤ r.2.refs.length
 trg : r.2.tr.length + st.steps ≤ st.tr.length + r.2.steps + a
 rfg : r.2.refs.length + st.steps ≤ st.refs.length + r.2.steps + a
 val : ∀ v, r.1 = some v → v.ok l B r.2.refs.length (700 * r.2.steps) ∧ r.2.stop = 0
 stp : r.1 = none → r.2.stop ≠ 0
structure GS (l : List Node) (B : Nat) : Prop where
 one : 1 ≤ l.length
 kids : ∀ i, i < l.length → ∀ k ∈ AF l i, (i : Int) < k ∧ k < l.length
 str : ∀ n ∈ l, n.s.size ≤ B
 num : ∀ n ∈ l, I64 n.n
 pat : ∀ n ∈ l, ∀ q ∈ n.As, (DY q).sok B ∧ (DY q).cnt ≤ 600
 Adp : ∀ i, i < l.length → (l.getD i default).kind = 8 → (l.getD (kd l i 0) default).kind = 5
 big : 1000 ≤ B
theorem GS.Bt {l : List Node} {B : Nat} (h : GS l B) {i : Nat} (hi : i < l.length) (j : Nat) : kd l i j < l.length := by
 unfold kd
 by_cases hj : j < (AF l i).length
 ·have e : (AF l i).getD j 0 = (AF l i)[j] := by simp [List.getD_eq_getElem?_getD, hj]
  have := h.kids i hi _ (List.getElem_mem hj)
  rw [e]; omega
 ·have e : (AF l i).getD j 0 = 0 := by simp [List.getD_eq_getElem?_getD, hj]
  rw [e]; have := h.one; simp; omega
theorem GS.mem {l : List Node} {B : Nat} (h : GS l B) {i : Nat} (hi : i < l.length) : l.getD i default ∈ l := by simp [List.getD_eq_getElem?_getD, hi]
section
variable {l : List Node} {B M : Nat}
theorem ES.ok.tick {st : ES} (h : st.ok l B M) (hs : st.steps < M) : st.tick.ok l B M := ⟨hs, Nat.le_succ_of_le h.refs, Nat.le_succ_of_le h.tr, h.inp, fun v hv => EV.Ak (Nat.le_refl _) (by show 700 * st.steps ≤ 700 * (st.steps + 1); omega) (h.ref v hv), h.trs, h.n, h.inl⟩
theorem ES.ok.stop {st : ES} (h : st.ok l B M) (k : Int) : ({ st with stop := k } : ES).ok l B M := ⟨h.steps, h.refs, h.tr, h.inp, h.ref, h.trs, h.n, h.inl⟩
theorem ES.ok.Aal {st : ES} (h : st.ok l B M) (k : Int) : ({ st with stop := k, n := 0 } : ES).ok l B M := ⟨h.steps, h.refs, h.tr, h.inp, h.ref, h.trs, (show I64 0 from by unfold I64; decide), h.inl⟩
theorem ES.ok.raise {st : ES} (h : st.ok l B M) {m : Int} (hm : I64 m) : (st.raise m).ok l B M := ⟨h.steps, h.refs, h.tr, h.inp, h.ref, h.trs, hm, h.inl⟩
theorem Cm.NO {st st' : ES} {a : Nat} (h : st'.ok l B M) (h1 : st.steps ≤ st'.steps) (h2 : st.refs.length ≤ st'.refs.length) (h3 : st'.stop ≠ 0) (h4 : st'.tr.length + st.steps ≤ st.tr.length + st'.steps + a) (h5 : st'.refs.length + st.steps ≤ st.refs.length + st'.steps + a) : Cm l B M st a (none, st') := ⟨h, h1, h2, h4, h5, (fun v e => by cases e), fun _ => h3⟩
theorem Cm.done {st st' : ES} {v : EV} {a : Nat} (h : st'.ok l B M) (h1 : st.steps ≤ st'.steps) (h2 : st.refs.length ≤ st'.refs.length) (h3 : st'.stop = 0) (hv : v.ok l B st'.refs.length (700 * st'.steps)) (h4 : st'.tr.length + st.steps ≤ st.tr.length + st'.steps + a) (h5 : st'.refs.length + st.steps ≤ st.refs.length + st'.steps + a) : Cm l B M st a (some v, st') := ⟨h, h1, h2, h4, h5, fun u e => by cases e; exact ⟨hv, h3⟩, fun e => by cases e⟩
theorem Cm.up {st st1 : ES} {a b : Nat} {r : Option EV × ES} {o : Option EV} (h0 : Cm l B M st a (o, st1)) (h : Cm l B M st1 b r) : Cm l B M st (a + b) r := ⟨h.ok, Nat.le_trans h0.steps h.steps, Nat.le_trans h0.refs h.refs, by have := h0.trg; have := h.trg; simp only at *; omega, by have := h0.rfg; have := h.rfg; simp only at *; omega, h.val, h.stp⟩
theorem Cm.tick {st : ES} {r : Option EV × ES} (h : Cm l B M st.tick 1 r) : Cm l B M st 0 r := ⟨h.ok, Nat.le_of_succ_le h.steps, h.refs, by have := h.trg; simp only [ES.tick] at this; omega, by have := h.rfg; simp only [ES.tick] at this; omega, h.val, h.stp⟩
theorem Cm.more {st : ES} {a b : Nat} {r : Option EV × ES} (h : Cm l B M st a r) (hab : a ≤ b) : Cm l B M st b r := ⟨h.ok, h.steps, h.refs, Nat.le_trans h.trg (Nat.add_le_add_left hab _), Nat.le_trans h.rfg (Nat.add_le_add_left hab _), h.val, h.stp⟩
theorem Cm.Aai {st : ES} {r : Option EV × ES} {k : EV → ES → Option EV × ES} (h : Cm l B M st 0 r) (hk : ∀ v st1, r = (some v, st1) → Cm l B M st1 1 (k v st1)) : Cm l B M st 1 (Cp r k) := by
 obtain ⟨o, st1⟩ := r
 cases o with
 | none => exact h.more (Nat.zero_le _)
 | some v => exact (Cm.up h (hk v st1 rfl)).more (by omega)
theorem AdY : ∀ {st : ES}, st.bad.stop ≠ 0 := by intro st; show (4 : Int) ≠ 0; decide
theorem EW {st : ES} (h : st.ok l B M) (a : Nat) : Cm l B M st a (none, st.bad) := .NO (h.Aal 4) (Nat.le_refl _) (Nat.le_refl _) AdY (by show st.tr.length + st.steps ≤ st.tr.length + st.steps + a; omega) (by show st.refs.length + st.steps ≤ st.refs.length + st.steps + a; omega)
theorem JN {st : ES} (h : st.ok l B M) (a : Nat) {m : Int} (hm : I64 m) : Cm l B M st a (none, st.raise m) := .NO (h.raise hm) (Nat.le_refl _) (Nat.le_refl _) (by show (2 : Int) ≠ 0; decide) (by show st.tr.length + st.steps ≤ st.tr.length + st.steps + a; omega) (by show st.refs.length + st.steps ≤ st.refs.length + st.steps + a; omega)
theorem F4 {st : ES} {v : EV} (h : st.ok l B M) (h0 : st.stop = 0) (hv : v.ok l B st.refs.length (700 * st.steps)) (a : Nat) : Cm l B M st a (some v, st) := .done h (Nat.le_refl _) (Nat.le_refl _) h0 hv (by omega) (by omega)
theorem ZI {s : ByteArray} {v : EV} {st : ES} (h : st.ok l B M) (h0 : st.stop = 0) (hv : v.ok l B st.refs.length (700 * st.steps)) (hB : 1000 ≤ B) (htr : st.tr.length < st.steps) (hB2 : B ≤ 1099511627776) : Cm l B M st 1 (Bm s v st) := by
 have say : ∀ t : ByteArray, t.size ≤ B → Cm l B M st 1 (some .unit, { st with tr := st.tr ++ [t] }) := fun t ht => by
  refine .done ⟨h.steps, h.refs, by simp <;> omega, h.inp, h.ref, fun x hx => ?_, h.n, h.inl⟩ (Nat.le_refl _) (Nat.le_refl _) h0 trivial (by simp <;> omega) (by simp <;> omega)
  rcases List.mem_append.1 hx with hx | hx
  ·exact h.trs x hx
  ·rw [List.mem_singleton.1 hx]; exact ht
 unfold Bm
 cases v with
 | int n =>
  simp only
  split
  ·exact say _ (by have := Acs n; omega)
  ·exact EW h _
 | str t =>
  simp only
  rw [EV.ok] at hv
  split
  ·exact say _ hv
  ·split
   ·exact F4 h h0 (by rw [EV.ok]; unfold I64; omega) _
   ·exact EW h _
 | unit =>
  simp only
  split
  ·cases hi : st.inp with
   | nil => exact JN h _ (by unfold I64; omega)
   | cons x r => exact .done ⟨h.steps, h.refs, h.tr, fun y hy => h.inp y (by rw [hi]; simp [show y ∈ r from hy]), h.ref, h.trs, h.n, by have := h.inl; rw [hi] at this; simp only [List.length_cons] at this; dsimp only; omega⟩ (Nat.le_refl _) (Nat.le_refl _) h0 (by rw [EV.ok]; exact Z7 x) (by simp <;> omega) (by simp <;> omega)
  ·exact EW h _
 | _ => exact EW h _
theorem AaI {s : ByteArray} {a b : EV} {st : ES} (h : st.ok l B M) (h0 : st.stop = 0) (hB : 1000 ≤ B) : Cm l B M st 1 (Ce s a b st) := by
 unfold Ce
 split
 ·cases a <;> first | exact EW h _ | skip
  cases b <;> first | exact EW h _ | skip
  simp only
  split
  ·exact JN h _ (by unfold I64; omega)
  ·exact F4 h h0 (by rw [EV.ok, ByteArray.size_append]; omega) _
 ·cases a <;> first | exact EW h _ | skip
  cases b <;> first | exact EW h _ | skip
  simp only
  split
  ·split
   ·refine F4 h h0 ?_ _
    rw [EV.ok]
    unfold PV
    split
    ·have : (bs [116, 114, 117, 101]).size = 4 := rfl
     omega
    ·have : (bs [102, 97, 108, 115, 101]).size = 5 := rfl
     omega
   ·rename_i h1 h2
    have := AaG (by simpa using h2)
    exact F4 h h0 (by rw [EV.ok]; unfold I64; omega) _
  ·exact JN h _ (by unfold I64; omega)
theorem Aa9 {s : ByteArray} {e : EE} {v : EV} {R D : Nat} (he : e.ok l B R D) (hB : 1000 ≤ B) (h : DR s e = some v) : v.ok l B R D := by
 unfold DR at h
 split at h
 ·rename_i u hu
  cases h
  exact look_ok he hu
 ·split at h
  ·rename_i hg
   cases h
   rw [EV.ok]
   obtain ⟨x, hx, e⟩ := List.any_eq_true.1 hg
   have e := of_decide_eq_true e
   subst e
   simp only [Ko, List.mem_cons, List.not_mem_nil, or_false] at hx
   have : ∀ y ∈ Ko, y.size ≤ 5 := by decide
   have := this s (by simp only [Ko, List.mem_cons, List.not_mem_nil, or_false]; exact hx)
   omega
  ·cases h
section
variable {n : Node} {go app : Nat → GoE}
theorem Ab7 (hN : GS l B) (hB2 : B ≤ 1099511627776) {a b : EV} {st : ES} (hst : st.ok l B M) (h0 : st.stop = 0) (ha : a.ok l B st.refs.length (700 * st.steps)) (hb : b.ok l B st.refs.length (700 * st.steps)) (lt : st.tr.length < st.steps)
  (hg : ∀ i' e, i' < l.length → e.ok l B st.refs.length (700 * (st.steps + 1)) → e.len ≤ 700 * (st.steps + 1) → Cm l B M st 0 (app i' e st)) : Cm l B M st 1 (DO l n app a b st) := by
 have hB := hN.big
 unfold DO
 split
 ·cases a <;> first | exact EW hst _ | skip
  ·rename_i i' nm env
   have ha' := ha
   rw [EV.ok] at ha
   have hs' := hN.str _ (hN.mem ha.1)
   refine (hg i' _ ha.1 ?_ ?_).more (by omega)
   ·rw [EE.ok]
    refine ⟨hs', EV.Ak (Nat.le_refl _) (by omega) hb, ?_⟩
    split
    ·exact EE.Ak (Nat.le_refl _) (by omega) ha.2.2.2.2
    ·rw [EE.ok]; exact ⟨ha.2.2.1, EV.Ak (Nat.le_refl _) (by omega) ha', EE.Ak (Nat.le_refl _) (by omega) ha.2.2.2.2⟩
   ·have := ha.2.2.2.1
    rw [EE.len]
    split
    ·omega
    ·rw [EE.len]; omega
  ·exact ZI hst h0 hb hB lt hB2
 split
 ·exact AaI hst h0 hB
 split
 ·exact F4 hst h0 (by rw [EV.ok]; exact ⟨ha, hb⟩) _
 ·cases a <;> first | exact EW hst _ | skip
  rename_i j
  refine .done ⟨hst.steps, by simp <;> exact hst.refs, hst.tr, hst.inp, fun v hv => ?_, hst.trs, hst.n, hst.inl⟩ (Nat.le_refl _) (by simp) h0 trivial (by simp <;> omega) (by simp <;> omega)
  rw [List.length_set]
  rcases List.mem_or_eq_of_mem_set hv with hv | rfl
  ·exact hst.ref v hv
  ·exact hb
theorem Acq (hN : GS l B) (hB2 : B ≤ 1099511627776) (hn : n ∈ l) {e : EE} {a : EV} {st : ES} (hst : st.ok l B M) (h0 : st.stop = 0) (he : e.ok l B st.refs.length (700 * st.steps)) (hel : e.len + 700 ≤ 700 * (st.steps + 1)) (ha : a.ok l B st.refs.length (700 * st.steps)) (lt : st.tr.length < st.steps) (lt2 : st.refs.length < st.steps)
  (go1 : ∀ j e, e.ok l B st.refs.length (700 * (st.steps + 1)) → e.len ≤ 700 * (st.steps + 1) → Cm l B M st 0 (go j e st)) (app1 : ∀ i' e st2, i' < l.length → e.ok l B st2.refs.length (700 * (st2.steps + 1)) → e.len ≤ 700 * (st2.steps + 1) → st2.ok l B M → st2.stop = 0 → st.steps ≤ st2.steps → Cm l B M st2 0 (app i' e st2)) : Cm l B M st 1 (Cf l n go app e a st) := by
 have hB := hN.big
 have hs := hN.str _ hn
 have he' : e.ok l B st.refs.length (700 * (st.steps + 1)) := EE.Ak (Nat.le_refl _) (by omega) he
 have ha' : a.ok l B st.refs.length (700 * (st.steps + 1)) := EV.Ak (Nat.le_refl _) (by omega) ha
 unfold Cf
 split
 ·exact (go1 1 _ (by rw [EE.ok]; exact ⟨hs, ha', he'⟩) (by rw [EE.len]; omega)).more (by omega)
 split
 ·cases a <;> first | exact EW hst _ | skip
  dsimp only
  split
  ·exact (go1 1 _ he' (by omega)).more (by omega)
  ·split
   ·exact (go1 2 _ he' (by omega)).more (by omega)
   ·exact EW hst _
 split
 ·cases hr : Gr (n.As.map DY) a e 0 with
  | none => exact JN hst _ (by unfold I64; omega)
  | some p =>
   obtain ⟨j, e'⟩ := p
   have h1 := YS (fun q hq => by obtain ⟨q', h', rfl⟩ := List.mem_map.1 hq; exact (hN.pat n hn q' h').1) ha' he' hr
   have h2 := Vu (fun q hq => by obtain ⟨q', h', rfl⟩ := List.mem_map.1 hq; exact (hN.pat n hn q' h').2) hr
   exact (go1 (j + 1) _ h1.1 (by omega)).more (by omega)
 split
 ·cases a <;> first | exact EW hst _ | skip
  exact (go1 1 _ he' (by omega)).more (by omega)
 split
 ·cases a <;> first | exact EW hst _ | skip
  rw [EV.ok] at ha
  exact JN hst _ ha
 split
 ·refine .done ⟨hst.steps, by simp <;> omega, hst.tr, hst.inp, fun v hv => ?_, hst.trs, hst.n, hst.inl⟩ (Nat.le_refl _) (by simp) h0 (by rw [EV.ok]; simp) (by simp <;> omega) (by simp <;> omega)
  rw [List.length_append]
  rcases List.mem_append.1 hv with hv | hv
  ·exact EV.Ak (Nat.le_add_right _ _) (Nat.le_refl _) (hst.ref v hv)
  ·rw [List.mem_singleton.1 hv]; exact EV.Ak (Nat.le_add_right _ _) (Nat.le_refl _) ha
 split
 ·cases a <;> first | exact EW hst _ | skip
  rename_i j
  rw [EV.ok] at ha
  have e1 : st.refs.getD j default = st.refs[j] := (List.getElem_eq_getD _).symm
  exact F4 hst h0 (by rw [e1]; exact hst.ref _ (List.getElem_mem ha)) _
 have g1 := go1 1 e he' (by omega)
 refine Cm.Aai g1 fun b st2 hr2 => ?_
 rw [hr2] at g1
 obtain ⟨w1, w2⟩ := g1.val b rfl
 have hst2 := g1.steps
 dsimp only at hst2
 exact Ab7 hN hB2 g1.ok w2 (EV.Ak g1.refs (by (try dsimp only); omega) ha) w1 (by have := g1.trg; simp only at *; omega) fun i' e h1 h2 h3 => app1 i' e st2 h1 h2 h3 g1.ok w2 g1.steps
theorem Aam (hN : GS l B) (hB2 : B ≤ 1099511627776) {i : Nat} (hi : i < l.length) (hn : l.getD i default = n) {e : EE} {st : ES} (hst : st.ok l B M) (h0 : st.stop = 0) (he : e.ok l B st.refs.length (700 * st.steps)) (hel : e.len ≤ 700 * st.steps) (lt : st.tr.length < st.steps) (lt2 : st.refs.length < st.steps)
  (go1 : ∀ j e st2, e.ok l B st2.refs.length (700 * (st2.steps + 1)) → e.len ≤ 700 * (st2.steps + 1) → st2.ok l B M → st2.stop = 0 → st.steps ≤ st2.steps → Cm l B M st2 0 (go j e st2)) (app1 : ∀ i' e st2, i' < l.length → e.ok l B st2.refs.length (700 * (st2.steps + 1)) → e.len ≤ 700 * (st2.steps + 1) → st2.ok l B M → st2.stop = 0 → st.steps ≤ st2.steps → Cm l B M st2 0 (app i' e st2)) : Cm l B M st 1 (Ho l M n i go app e st) := by
 have hB := hN.big
 have hm := hN.mem hi
 have hrec := hN.Adp i hi
 rw [hn] at hm hrec
 have hs := hN.str _ hm
 have g0 := go1 0 e st (EE.Ak (Nat.le_refl _) (by omega) he) (by omega) hst h0 (Nat.le_refl _)
 unfold Ho
 split
 ·exact F4 hst h0 (by rw [EV.ok]; exact hN.num _ hm) _
 split
 ·exact F4 hst h0 (by rw [EV.ok]; exact hs) _
 split
 ·exact F4 hst h0 (by rw [EV.ok]; trivial) _
 split
 ·cases hl : DR n.s e with
  | none => exact EW hst _
  | some v => exact F4 hst h0 (Aa9 he hB hl) _
 split
 ·rename_i h5
  exact F4 hst h0 (by rw [EV.ok, hn]; exact ⟨hi, h5, Nat.zero_le _, hel, he⟩) _
 split
 ·rename_i h8
  split
  ·rename_i h1
   exact .NO (hst.Aal 3) (Nat.le_refl _) (Nat.le_refl _) (by show (3 : Int) ≠ 0; decide) (Nat.le_succ _) (Nat.le_succ _)
  ·rename_i h1
   have ht2 := hst.tick (by omega)
   have b2 : Cm l B M st 0 (some EV.unit, st.tick) := .done ht2 (Nat.le_succ _) (Nat.le_refl _) h0 (by rw [EV.ok]; trivial) (by show st.tr.length + st.steps ≤ st.tr.length + (st.steps + 1) + 0; omega) (by show st.refs.length + st.steps ≤ st.refs.length + (st.steps + 1) + 0; omega)
   have he' : e.ok l B st.refs.length (700 * (st.steps + 1 + 1)) := EE.Ak (Nat.le_refl _) (by omega) he
   refine (Cm.up b2 (go1 1 _ st.tick ?_ ?_ ht2 h0 (Nat.le_succ _))).more (by omega)
   ·rw [EE.ok, EV.ok]
    exact ⟨hs, ⟨hN.Bt hi 0, hrec h8, hs, by show e.len ≤ 700 * (st.steps + 1 + 1); omega, he'⟩, he'⟩
   ·rw [EE.len]; show e.len + 1 ≤ 700 * (st.steps + 1 + 1); omega
 split
 ·cases hr : go 0 e st with
  | mk o st1 =>
   rw [hr] at g0
   cases o with
   | some v => exact g0.more (by omega)
   | none =>
    dsimp only
    split
    ·have b2 : Cm l B M st 0 (some EV.unit, ({ st1 with stop := 0 } : ES)) := .done (g0.ok.stop 0) g0.steps g0.refs rfl trivial g0.trg g0.rfg
     have hst1 := g0.steps
     dsimp only at hst1
     exact (Cm.up b2 (go1 1 _ { st1 with stop := 0 } (by rw [EE.ok, EV.ok]; exact ⟨hs, g0.ok.n, EE.Ak g0.refs (by (try dsimp only); omega) he⟩) (by rw [EE.len]; dsimp only; omega) (g0.ok.stop 0) rfl g0.steps)).more (by omega)
    ·exact g0.more (by omega)
 split
 ·split
  ·exact F4 hst h0 (by rw [EV.ok]; exact hs) _
  ·refine Cm.Aai g0 fun v st1 hr => ?_
   rw [hr] at g0
   obtain ⟨v1, v2⟩ := g0.val v rfl
   exact F4 g0.ok v2 (by rw [EV.ok]; exact ⟨hs, v1⟩) _
 refine Cm.Aai g0 fun a st1 hr => ?_
 rw [hr] at g0
 obtain ⟨v1, v2⟩ := g0.val a rfl
 have hst1 := g0.steps
 dsimp only at hst1
 exact Acq hN hB2 hm g0.ok v2 (EE.Ak g0.refs (by (try dsimp only); omega) he) (by omega) v1 (by have := g0.trg; simp only at *; omega) (by have := g0.rfg; simp only at *; omega)
  (fun j e h h' => go1 j e st1 h h' g0.ok v2 g0.steps) fun i' e st2 h1 h2 h3 h4 h5 h6 => app1 i' e st2 h1 h2 h3 h4 h5 (Nat.le_trans g0.steps h6)
end
theorem BO (hN : GS l B) (hB2 : B ≤ 1099511627776) : ∀ f i e st, i < l.length → e.ok l B st.refs.length (700 * (st.steps + 1)) → e.len ≤ 700 * (st.steps + 1) → st.ok l B M → st.stop = 0 → M - st.steps < f → Cm l B M st 0 (An l M f i e st)
 | 0, i, e, st, _, _, _, _, _, hf => by omega
 | f + 1, i, e, st, hi, he, hel, hst, h0, hf => by
  rw [An]
  by_cases hM : M ≤ st.steps
  ·rw [if_pos hM]
   exact .NO (hst.Aal 3) (Nat.le_refl _) (Nat.le_refl _) (by show (3 : Int) ≠ 0; decide) (Nat.le_refl _) (Nat.le_refl _)
  rw [if_neg hM]
  have a1 := hst.tr
  have a2 := hst.refs
  exact Cm.tick (Aam hN hB2 hi rfl (hst.tick (by omega)) h0 he hel (by show st.tr.length < st.steps + 1; omega) (by show st.refs.length < st.steps + 1; omega)
   (fun j e st2 h1 h1' h2 h3 h4 => BO hN hB2 f _ e st2 (hN.Bt hi j) h1 h1' h2 h3 (by simp only [ES.tick] at h4; omega))
   fun i' e st2 h1 h2 h2' h3 h4 h5 => BO hN hB2 f _ e st2 (hN.Bt h1 0) h2 h2' h3 h4 (by simp only [ES.tick] at h5; omega))
end
end Go.Proofs.YtjbcnilllfaipaaGreat
