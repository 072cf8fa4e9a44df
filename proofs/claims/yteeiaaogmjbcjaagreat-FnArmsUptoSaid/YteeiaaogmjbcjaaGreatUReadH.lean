/-
 TREES OF THE REFERENCE'S READER whose patterns lie in rows of their own: what a call leaves. Conditions: none.
-/
import Derived.Test.YteeiaaogmjbcjaaGreatUReadP
import Derived.Test.YteeiaaogmjbcjaaGreatUJ13
import Derived.Test.YteeiaaogmjbcjaaGreatUJ24
import Derived.Test.YteeiaaogmjbcjaaGreatUJ17
set_option linter.unusedVariables false
set_option linter.unusedSimpArgs false
set_option maxRecDepth 100000
namespace Go.Proofs.YteeiaaogmjbcjaaGreat
open Go.RowKit Go.Proofs.YteeiaaogmjbcjaaGreat.Av Go.Proofs.YteeiaaogmjbcjaaGreat.Ml
open Go.Proofs.YteeiaaogmjbcjaaGreat.Av.AVal (av)
open OVal (ov oh on)

def F7 (nm : Nat) (T : Hp) : Prop := (∀ p ∈ T, 10000 ≤ p.1 ∧ InT nm p.1) ∧ Bf T T ∧ Unf T
def Ud (T : Hp) : Prop := ∀ p ∈ T, 10000 ≤ p.1
theorem F7.far {nm : Nat} {T : Hp} (h : F7 nm T) : Ud T := fun p hp => (h.1 p hp).1
theorem Abh (nm : Nat) : F7 nm [] := ⟨fun p hp => (by cases hp), trivial, Ad⟩
theorem Ew {nm i : Nat} {T : Hp} (h : F7 (sub nm i) T) : F7 nm T := ⟨fun p hp => ⟨(h.1 p hp).1, (h.1 p hp).2.up⟩, h.2⟩
theorem IX {a b : Hp} (ha : Unf a) (hb : Unf b) : Unf (a ++ b) := fun p h => (List.mem_append.1 h).elim (ha p) (hb p)
theorem Q7 {hs : List Nat} {a : Hp} (h : Unf a) : Unf (BS hs a) := fun p hp => h p (List.mem_filter.1 hp).1
theorem Fz {a b : Hp} (ha : Bf a a) (hb : Bf b b) (hd : ∀ p ∈ b, ∀ q ∈ a, q.1 ≠ p.1) : Bf (a ++ b) (a ++ b) :=
 AK.2 ⟨Eu ha, AM.2 fun p hp => by rw [BV (hd p hp)]; exact AM.1 hb p hp⟩
theorem BB {nm i j : Nat} {a b : Hp} (ha : F7 (sub nm i) a) (hb : F7 (sub nm j) b) (hij : i ≠ j) : ∀ p ∈ b, ∀ q ∈ a, q.1 ≠ p.1 := fun p hp q hq e =>
 hij ((ha.1 q hq).2.sib (e ▸ (hb.1 p hp).2))
def Lc (nm n : Nat) (T : Hp) : Prop := (∀ p ∈ T, 10000 ≤ p.1 ∧ ∃ i, i < n ∧ InT (sub nm i) p.1) ∧ Bf T T ∧ Unf T
theorem Lc.far {nm n : Nat} {T : Hp} (h : Lc nm n T) : Ud T := fun p hp => (h.1 p hp).1
theorem Lc.dis {nm n : Nat} {T : Hp} (h : Lc nm n T) : F7 nm T := ⟨fun p hp => ⟨(h.1 p hp).1, by obtain ⟨i, _, hi⟩ := (h.1 p hp).2; exact hi.up⟩, h.2⟩
theorem ET {nm n j : Nat} {a b : Hp} (ha : Lc nm n a) (hb : F7 (sub nm j) b) (hj : n ≤ j) : ∀ p ∈ a, ∀ q ∈ b, q.1 ≠ p.1 := fun p hp q hq e => by
 obtain ⟨i, hi, h⟩ := (ha.1 p hp).2
 have := h.sib (e ▸ (hb.1 q hq).2)
 omega
theorem B3 {nm n j : Nat} {a b : Hp} (ha : Lc nm n a) (hb : F7 (sub nm j) b) (hj : n ≤ j) : Lc nm (j + 1) (b ++ a) :=
 ⟨fun p hp => by
  rcases List.mem_append.1 hp with h | h
  ·exact ⟨(hb.1 p h).1, j, Nat.lt_succ_self _, (hb.1 p h).2⟩
  ·obtain ⟨i, hi, h2⟩ := (ha.1 p h).2
   exact ⟨(ha.1 p h).1, i, by omega, h2⟩, Fz hb.2.1 ha.2.1 (ET ha hb hj), IX hb.2.2 ha.2.2⟩
theorem Ah {hp T : Hp} {k : Nat} {b : Box} (h : Bf hp T) (hT : Ud T) (hk : k < 10000) : Bf ((k, b) :: hp) T :=
 AM.2 fun p hp' => by rw [A4 (by have := hT p hp'; omega)]; exact AM.1 h p hp'
structure Left (C : RC) (s : RS) (hp H : Hp) : Prop where
 a : Aw H 2100 = some ⟨C.v, false, 173, 7, [.agg [.sl (C.L.map av), .int .i64 s.i, .int .i64 C.E, .int .i64 s.code, .int .i64 s.pos, .sl (s.vars.map av), .row 2101 s.sv s.seen.length]]⟩
 b : Aw H 2101 = some ⟨s.sv, false, 9, 1, s.seen.map av⟩
 o : ∀ q, q < 2000 → Aw H q = Aw hp q
 u : Unf hp → Unf H
theorem AP {C : RC} {s : RS} {hp H : Hp} (hH : H = rdB C s ++ BS [2100, 2101] hp) : Left C s hp H ∧ ∀ T, Ud T → Bf hp T → Bf H T := by
 subst hH
 refine ⟨⟨rfl, rfl, fun q hq => ?_, fun hu => ?_⟩, fun T hT h => AM.2 fun p hp' => ?_⟩
 ·rw [show rdB C s ++ BS [2100, 2101] hp = (2100, _) :: (2101, _) :: BS [2100, 2101] hp from rfl, A4 (by omega), A4 (by omega), BE (by simp; omega)]
 ·exact AO (AO (Q7 hu))
 ·have hge := hT p hp'
  rw [show rdB C s ++ BS [2100, 2101] hp = (2100, _) :: (2101, _) :: BS [2100, 2101] hp from rfl, A4 (by omega), A4 (by omega), BE (by simp; omega)]
  exact AM.1 h p hp'
theorem Be {C : RC} {s : RS} {hp H T : Hp} {nm : Nat} (hH : H = (rdB C s ++ T) ++ BS [2100, 2101] hp) (hD : F7 nm T) : Left C s hp H ∧ Bf H T ∧ ∀ T1, Ud T1 → (∀ p ∈ T1, ∀ q ∈ T, q.1 ≠ p.1) → Bf hp T1 → Bf H T1 := by
 have hF := hD.far
 subst hH
 have e : (rdB C s ++ T) ++ BS [2100, 2101] hp = (2100, _) :: (2101, _) :: (T ++ BS [2100, 2101] hp) := rfl
 refine ⟨⟨rfl, rfl, fun q hq => ?_, fun hu => ?_⟩, AM.2 fun p hp' => ?_, fun T1 hT1 hap h => AM.2 fun p hp' => ?_⟩
 ·rw [e, A4 (by omega), A4 (by omega), BV (fun p hp => by have := hF p hp; omega), BE (by simp; omega)]
 ·exact AO (AO (IX hD.2.2 (Q7 hu)))
 ·have hge := hF p hp'
  rw [e, A4 (by omega), A4 (by omega)]
  exact AM.1 (Eu hD.2.1) p hp'
 ·have hge := hT1 p hp'
  rw [e, A4 (by omega), A4 (by omega), BV (hap p hp'), BE (by simp; omega)]
  exact AM.1 h p hp'
def QOk (m : Nat) (q : Pat) : Prop := ∃ e : Px, q.nodes = A2 0 e ∧ PxW m e ∧ pxN e ≤ 3 * m + 1
def KN (m : Nat) (T : Hp) (P : AV) : Prop := P = .Au ∨ ∃ K vs, ∃ l : List Pat, P = .row K (vs K) l.length ∧ 10000 ≤ K ∧ Bf T (oh K vs l) ∧ l.length ≤ m ∧ ∀ q ∈ l, QOk m q
mutual
inductive EA (m : Nat) (T : Hp) : Nat → AV → Prop
 | mk (k p n : Int) (s : ByteArray) (P : AV) (es : List AV) (w : Nat) (hs : s.size ≤ m) (hP : KN m T P) (he : EAs m T w es) : EA m T (w + 1) (.agg [.int .i64 k, .int .i64 p, .int .i64 n, .str s, .Au, P, slN es])
inductive EAs (m : Nat) (T : Hp) : Nat → List AV → Prop
 | nil : EAs m T 0 []
 | cons (a b : Nat) (x : AV) (l : List AV) (h : EA m T a x) (hl : EAs m T b l) : EAs m T (a + b) (x :: l)
end
theorem KN.mono {m : Nat} {T T' : Hp} {P : AV} (h : KN m T P) (hT : Bf T' T) : KN m T' P := by
 rcases h with h | ⟨K, vs, l, h1, h2, h3, h4⟩
 ·exact .inl h
 ·exact .inr ⟨K, vs, l, h1, h2, AM.2 fun p hp => AM.1 hT _ (QA (AM.1 h3 p hp)), h4⟩
theorem W0 {m : Nat} {T T' : Hp} (hT : Bf T' T) : ∀ (n w : Nat), w ≤ n → (∀ X, EA m T w X → EA m T' w X) ∧ ∀ l, EAs m T w l → EAs m T' w l := by
 intro n
 induction n with
 | zero =>
  intro w hw
  refine ⟨fun X h => by cases h; omega, fun l => ?_⟩
  induction l generalizing w with
  | nil => intro h; cases h; exact .nil
  | cons x l ih =>
   intro h
   cases h with
   | cons a b _ _ h hl => cases h; omega
 | succ n ihn =>
  intro w hw
  have hX : ∀ X, EA m T w X → EA m T' w X := fun X h => by
   cases h with
   | mk k p n' s P es w' hs hP he => exact .mk k p n' s P es w' hs (hP.mono hT) ((ihn w' (by omega)).2 es he)
  refine ⟨hX, fun l => ?_⟩
  induction l generalizing w with
  | nil => intro h; cases h; exact .nil
  | cons x l ih =>
   intro h
   cases h with
   | cons a b _ _ h hl =>
    have ha : 1 ≤ a := by cases h; omega
    refine .cons a b x l ?_ ((ihn b (by omega)).2 l hl)
    rcases Nat.lt_or_ge a (n + 1) with h' | h'
    ·exact (ihn a (by omega)).1 x h
    ·have hb0 : b = 0 := by omega
     subst hb0
     exact hX x h
theorem EA.mono {m w : Nat} {T T' : Hp} {X : AV} (h : EA m T w X) (hT : Bf T' T) : EA m T' w X := (W0 hT w w (Nat.le_refl _)).1 X h
structure EV (X : AV) : Prop where
 len : X.cells.length = 7
 ok : X.ok = true
 pur : ∀ hp, Unf hp → X.pur hp = X
 BN : ∀ hp, Unf hp → X.BN hp = X
 take : AV.agg (List.take 7 X.cells) = X
 agg : AV.agg X.cells = X
theorem KN.keep {m : Nat} {T : Hp} {P : AV} (h : KN m T P) : LX P := by
 rcases h with rfl | ⟨K, vs, l, rfl, _⟩
 ·exact .Au
 ·exact .row _ _ _
theorem EA.ev {m w : Nat} {T : Hp} {X : AV} (h : EA m T w X) : EV X := by
 cases h with
 | mk k p n s P es w hs hP he =>
  obtain ⟨h1, h2⟩ := hP.keep
  refine ⟨rfl, rfl, fun hp hu => ?_, fun hp hu => ?_, rfl, rfl⟩
  ·simp only [AV.pur, List.map_cons, List.map_nil, DY, h2 hp hu]; rfl
  ·show AV.agg _ = _
   simp only [List.map_cons, List.map_nil, DY, h2 hp hu]; rfl
theorem Ar {X : AV} (h : EV X) : X.cells.length = 7 := h.len
theorem Ay {X : AV} (h : EV X) : X.ok = true := h.ok
theorem Aq {X : AV} {hp : Hp} (h : EV X) (hu : Unf hp) : X.pur hp = X := h.pur hp hu
theorem Am {X : AV} {hp : Hp} (h : EV X) (hu : Unf hp) : X.BN hp = X := h.BN hp hu
theorem Al {X : AV} (h : EV X) : AV.agg (List.take 7 X.cells) = X := h.take
theorem As {X : AV} (h : EV X) : AV.agg X.cells = X := h.agg
theorem An {X : AV} (h : EV X) (a b c d e f g : AV) : X.EF 0 [a, b, c, d, e, f, g] = .agg [a, b, c, d, e, f, g] := by
 have h1 := h.len
 rw [← h.agg]
 generalize X.cells = l at *
 match l, h1 with
 | [_, _, _, _, _, _, _], _ => rfl
theorem Ao {X : AV} (h : EV X) (F : Nat → AV) (esz i : Nat) (es : List AV) (ps : List (Nat × AB)) (k : List AV → Prop) : F5 X F esz i es ps k = ((X.cells.length = esz ∧ i < es.length) ∧ EE F esz (es.set i X) ps k) := by simp [F5, h.ok]
def ExP (C : RC) (s : RS) (nm : Nat) (X : AV) (hp' : Hp) : Prop := ∃ s' T w, hp' = rdB C s' ++ T ∧ Bc C s' ∧ s.i ≤ s'.i ∧ (s'.code = 0 → s.code = 0 ∧ s.i < s'.i ∧ w + 3 * s.i + 1 ≤ 3 * s'.i) ∧ EA C.m T w X ∧ F7 nm T
theorem ea0 {m : Nat} {T : Hp} (k p n : Int) (s : ByteArray) (hs : s.size ≤ m) : EA m T 1 (.agg [.int .i64 k, .int .i64 p, .int .i64 n, .str s, .Au, .Au, .Au]) := .mk k p n s .Au [] 0 hs (.inl rfl) .nil
theorem ea1 {m a : Nat} {T : Hp} {A : AV} (k p n : Int) (s : ByteArray) (hs : s.size ≤ m) (hA : EA m T a A) : EA m T (a + 1) (.agg [.int .i64 k, .int .i64 p, .int .i64 n, .str s, .Au, .Au, .sl [A]]) := .mk k p n s .Au [A] a hs (.inl rfl) (by have := EAs.cons a 0 A [] hA .nil; exact this)
theorem ea2 {m a b : Nat} {T : Hp} {A B : AV} (k p n : Int) (s : ByteArray) (hs : s.size ≤ m) (hA : EA m T a A) (hB : EA m T b B) : EA m T (a + b + 1) (.agg [.int .i64 k, .int .i64 p, .int .i64 n, .str s, .Au, .Au, .sl [A, B]]) := .mk k p n s .Au [A, B] (a + b) hs (.inl rfl) (by have := EAs.cons a (b + 0) A [B] hA (.cons b 0 B [] hB .nil); exact this)
theorem ea3 {m a b c : Nat} {T : Hp} {A B D : AV} (k p n : Int) (s : ByteArray) (hs : s.size ≤ m) (hA : EA m T a A) (hB : EA m T b B) (hD : EA m T c D) : EA m T (a + (b + c) + 1) (.agg [.int .i64 k, .int .i64 p, .int .i64 n, .str s, .Au, .Au, .sl [A, B, D]]) := .mk k p n s .Au [A, B, D] (a + (b + c)) hs (.inl rfl) (by have := EAs.cons a (b + (c + 0)) A [B, D] hA (.cons b (c + 0) B [D] hB (.cons c 0 D [] hD .nil)); exact this)
theorem Lv {C : RC} {s s' : RS} (nm : Nat) (hs : Bc C s') (k p n : Int) (x : ByteArray) (h3 : x.size ≤ C.m) (hi : s.i ≤ s'.i) (hc : s'.code = 0 → s.code = 0 ∧ s.i < s'.i) : ExP C s nm (.agg [.int .i64 k, .int .i64 p, .int .i64 n, .str x, .Au, .Au, .Au]) (rdB C s') :=
 ⟨s', [], 1, by rw [List.append_nil], hs, hi, fun h => ⟨(hc h).1, (hc h).2, by have := (hc h).2; omega⟩, ea0 k p n x h3, Abh nm⟩
theorem A6 {nm i : Nat} {T : Hp} (h : F7 (sub nm i) T) : Lc nm (i + 1) T := ⟨fun p hp => ⟨(h.1 p hp).1, i, Nat.lt_succ_self _, (h.1 p hp).2⟩, h.2⟩
theorem comb {nm n j : Nat} {a b : Hp} (ha : Lc nm n a) (hb : F7 (sub nm j) b) (hj : n ≤ j) : Bf (b ++ a) b ∧ Bf (b ++ a) a :=
 ⟨Eu hb.2.1, (AK.1 (Fz hb.2.1 ha.2.1 (ET ha hb hj))).2⟩
theorem EVB : type_of% (And.intro @Ar (And.intro @Ay (And.intro @Aq (And.intro @Am (And.intro @Al (And.intro @As (And.intro @An @Ao))))))) := (And.intro @Ar (And.intro @Ay (And.intro @Aq (And.intro @Am (And.intro @Al (And.intro @As (And.intro @An @Ao)))))))
end Go.Proofs.YteeiaaogmjbcjaaGreat
