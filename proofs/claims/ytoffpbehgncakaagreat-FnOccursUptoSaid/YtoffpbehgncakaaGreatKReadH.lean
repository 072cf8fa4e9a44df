/-
 TREES OF THE REFERENCE'S READER whose patterns lie in rows of their own: what a call leaves. Conditions: none.
-/
import Derived.Test.YtoffpbehgncakaaGreatKReadP
import Derived.Test.YtoffpbehgncakaaGreatKJ18
import Derived.Test.YtoffpbehgncakaaGreatKJ15
set_option linter.unusedVariables false
set_option linter.unusedSimpArgs false
set_option maxRecDepth 100000
namespace Go.Proofs.YtoffpbehgncakaaGreat
open Go.RowKit Go.Proofs.YtoffpbehgncakaaGreat.Av Go.Proofs.YtoffpbehgncakaaGreat.Ml
open Go.Proofs.YtoffpbehgncakaaGreat.Av.AVal (av)
open OVal (ov oh on)

def Ee (nm : Nat) (T : Hp) : Prop := (∀ p ∈ T, 10000 ≤ p.1 ∧ InT nm p.1) ∧ Bt T T ∧ Unf T
def L9 (T : Hp) : Prop := ∀ p ∈ T, 10000 ≤ p.1
theorem Ee.far {nm : Nat} {T : Hp} (h : Ee nm T) : L9 T := fun p hp => (h.1 p hp).1
theorem W6 (nm : Nat) : Ee nm [] := ⟨fun p hp => (by cases hp), trivial, Ae⟩
theorem Eb {nm i : Nat} {T : Hp} (h : Ee (sub nm i) T) : Ee nm T := ⟨fun p hp => ⟨(h.1 p hp).1, (h.1 p hp).2.up⟩, h.2⟩
theorem He {a b : Hp} (ha : Unf a) (hb : Unf b) : Unf (a ++ b) := fun p h => (List.mem_append.1 h).elim (ha p) (hb p)
theorem Q9 {hs : List Nat} {a : Hp} (h : Unf a) : Unf (BU hs a) := fun p hp => h p (List.mem_filter.1 hp).1
theorem EX {a b : Hp} (ha : Bt a a) (hb : Bt b b) (hd : ∀ p ∈ b, ∀ q ∈ a, q.1 ≠ p.1) : Bt (a ++ b) (a ++ b) :=
 AO.2 ⟨EB ha, AP.2 fun p hp => by rw [Db (hd p hp)]; exact AP.1 hb p hp⟩
theorem BG {nm i j : Nat} {a b : Hp} (ha : Ee (sub nm i) a) (hb : Ee (sub nm j) b) (hij : i ≠ j) : ∀ p ∈ b, ∀ q ∈ a, q.1 ≠ p.1 := fun p hp q hq e =>
 hij ((ha.1 q hq).2.sib (e ▸ (hb.1 p hp).2))
def Lm (nm n : Nat) (T : Hp) : Prop := (∀ p ∈ T, 10000 ≤ p.1 ∧ ∃ i, i < n ∧ InT (sub nm i) p.1) ∧ Bt T T ∧ Unf T
theorem Lm.far {nm n : Nat} {T : Hp} (h : Lm nm n T) : L9 T := fun p hp => (h.1 p hp).1
theorem Lm.dis {nm n : Nat} {T : Hp} (h : Lm nm n T) : Ee nm T := ⟨fun p hp => ⟨(h.1 p hp).1, by obtain ⟨i, _, hi⟩ := (h.1 p hp).2; exact hi.up⟩, h.2⟩
theorem E3 {nm n j : Nat} {a b : Hp} (ha : Lm nm n a) (hb : Ee (sub nm j) b) (hj : n ≤ j) : ∀ p ∈ a, ∀ q ∈ b, q.1 ≠ p.1 := fun p hp q hq e => by
 obtain ⟨i, hi, h⟩ := (ha.1 p hp).2
 have := h.sib (e ▸ (hb.1 q hq).2)
 omega
theorem Ca {nm n j : Nat} {a b : Hp} (ha : Lm nm n a) (hb : Ee (sub nm j) b) (hj : n ≤ j) : Lm nm (j + 1) (b ++ a) :=
 ⟨fun p hp => by
  rcases List.mem_append.1 hp with h | h
  ·exact ⟨(hb.1 p h).1, j, Nat.lt_succ_self _, (hb.1 p h).2⟩
  ·obtain ⟨i, hi, h2⟩ := (ha.1 p h).2
   exact ⟨(ha.1 p h).1, i, by omega, h2⟩, EX hb.2.1 ha.2.1 (E3 ha hb hj), He hb.2.2 ha.2.2⟩
theorem Ag {hp T : Hp} {k : Nat} {b : Box} (h : Bt hp T) (hT : L9 T) (hk : k < 10000) : Bt ((k, b) :: hp) T :=
 AP.2 fun p hp' => by rw [B5 (by have := hT p hp'; omega)]; exact AP.1 h p hp'
structure Left (C : RC) (s : RS) (hp H : Hp) : Prop where
 a : Ay H 2100 = some ⟨C.v, false, 120, 7, [.agg [.sl (C.L.map av), .int .i64 s.i, .int .i64 C.E, .int .i64 s.code, .int .i64 s.pos, .sl (s.vars.map av), .row 2101 s.sv s.seen.length]]⟩
 b : Ay H 2101 = some ⟨s.sv, false, 9, 1, s.seen.map av⟩
 o : ∀ q, q < 2000 → Ay H q = Ay hp q
 u : Unf hp → Unf H
theorem AX {C : RC} {s : RS} {hp H : Hp} (hH : H = rdB C s ++ BU [2100, 2101] hp) : Left C s hp H ∧ ∀ T, L9 T → Bt hp T → Bt H T := by
 subst hH
 refine ⟨⟨rfl, rfl, fun q hq => ?_, fun hu => ?_⟩, fun T hT h => AP.2 fun p hp' => ?_⟩
 ·rw [show rdB C s ++ BU [2100, 2101] hp = (2100, _) :: (2101, _) :: BU [2100, 2101] hp from rfl, B5 (by omega), B5 (by omega), Cp (by simp; omega)]
 ·exact AR (AR (Q9 hu))
 ·have hge := hT p hp'
  rw [show rdB C s ++ BU [2100, 2101] hp = (2100, _) :: (2101, _) :: BU [2100, 2101] hp from rfl, B5 (by omega), B5 (by omega), Cp (by simp; omega)]
  exact AP.1 h p hp'
theorem Bp {C : RC} {s : RS} {hp H T : Hp} {nm : Nat} (hH : H = (rdB C s ++ T) ++ BU [2100, 2101] hp) (hD : Ee nm T) : Left C s hp H ∧ Bt H T ∧ ∀ T1, L9 T1 → (∀ p ∈ T1, ∀ q ∈ T, q.1 ≠ p.1) → Bt hp T1 → Bt H T1 := by
 have hF := hD.far
 subst hH
 have e : (rdB C s ++ T) ++ BU [2100, 2101] hp = (2100, _) :: (2101, _) :: (T ++ BU [2100, 2101] hp) := rfl
 refine ⟨⟨rfl, rfl, fun q hq => ?_, fun hu => ?_⟩, AP.2 fun p hp' => ?_, fun T1 hT1 hap h => AP.2 fun p hp' => ?_⟩
 ·rw [e, B5 (by omega), B5 (by omega), Db (fun p hp => by have := hF p hp; omega), Cp (by simp; omega)]
 ·exact AR (AR (He hD.2.2 (Q9 hu)))
 ·have hge := hF p hp'
  rw [e, B5 (by omega), B5 (by omega)]
  exact AP.1 (EB hD.2.1) p hp'
 ·have hge := hT1 p hp'
  rw [e, B5 (by omega), B5 (by omega), Db (hap p hp'), Cp (by simp; omega)]
  exact AP.1 h p hp'
def QOk (m : Nat) (q : Pat) : Prop := ∃ e : Px, q.nodes = B9 0 e ∧ PxW m e ∧ pxN e ≤ 3 * m + 1
def Gs (m : Nat) (T : Hp) (P : AV) : Prop := P = .Au ∨ ∃ K vs, ∃ l : List Pat, P = .row K (vs K) l.length ∧ 10000 ≤ K ∧ Bt T (oh K vs l) ∧ l.length ≤ m ∧ ∀ q ∈ l, QOk m q
mutual
inductive EA (m : Nat) (T : Hp) : Nat → AV → Prop
 | mk (k p n : Int) (s : ByteArray) (P : AV) (es : List AV) (w : Nat) (hs : s.size ≤ m) (hP : Gs m T P) (he : EAs m T w es) : EA m T (w + 1) (.agg [.int .i64 k, .int .i64 p, .int .i64 n, .str s, .Au, P, slN es])
inductive EAs (m : Nat) (T : Hp) : Nat → List AV → Prop
 | nil : EAs m T 0 []
 | cons (a b : Nat) (x : AV) (l : List AV) (h : EA m T a x) (hl : EAs m T b l) : EAs m T (a + b) (x :: l)
end
theorem Gs.mono {m : Nat} {T T' : Hp} {P : AV} (h : Gs m T P) (hT : Bt T' T) : Gs m T' P := by
 rcases h with h | ⟨K, vs, l, h1, h2, h3, h4⟩
 ·exact .inl h
 ·exact .inr ⟨K, vs, l, h1, h2, AP.2 fun p hp => AP.1 hT _ (EY (AP.1 h3 p hp)), h4⟩
theorem W4 {m : Nat} {T T' : Hp} (hT : Bt T' T) : ∀ (n w : Nat), w ≤ n → (∀ X, EA m T w X → EA m T' w X) ∧ ∀ l, EAs m T w l → EAs m T' w l := by
 intro n
 induction n with
 | zero =>
  intro w hw
  refine ⟨fun X h => by cases h; omega, fun l => ?_⟩
  induction l generalizing w with
  | nil => intro h; cases h; exact .nil
  | cons x l ih =>
   intro h
   cases h with
   | cons a b _ _ h hl => cases h; omega
 | succ n ihn =>
  intro w hw
  have hX : ∀ X, EA m T w X → EA m T' w X := fun X h => by
   cases h with
   | mk k p n' s P es w' hs hP he => exact .mk k p n' s P es w' hs (hP.mono hT) ((ihn w' (by omega)).2 es he)
  refine ⟨hX, fun l => ?_⟩
  induction l generalizing w with
  | nil => intro h; cases h; exact .nil
  | cons x l ih =>
   intro h
   cases h with
   | cons a b _ _ h hl =>
    have ha : 1 ≤ a := by cases h; omega
    refine .cons a b x l ?_ ((ihn b (by omega)).2 l hl)
    rcases Nat.lt_or_ge a (n + 1) with h' | h'
    ·exact (ihn a (by omega)).1 x h
    ·have hb0 : b = 0 := by omega
     subst hb0
     exact hX x h
theorem EA.mono {m w : Nat} {T T' : Hp} {X : AV} (h : EA m T w X) (hT : Bt T' T) : EA m T' w X := (W4 hT w w (Nat.le_refl _)).1 X h
structure EV (X : AV) : Prop where
 len : X.cells.length = 7
 ok : X.ok = true
 pur : ∀ hp, Unf hp → X.pur hp = X
 BW : ∀ hp, Unf hp → X.BW hp = X
 take : AV.agg (List.take 7 X.cells) = X
 agg : AV.agg X.cells = X
theorem Gs.QJ {m : Nat} {T : Hp} {P : AV} (h : Gs m T P) : L5 P := by
 rcases h with rfl | ⟨K, vs, l, rfl, _⟩
 ·exact .Au
 ·exact .row _ _ _
theorem EA.ev {m w : Nat} {T : Hp} {X : AV} (h : EA m T w X) : EV X := by
 cases h with
 | mk k p n s P es w hs hP he =>
  obtain ⟨h1, h2⟩ := hP.QJ
  refine ⟨rfl, rfl, fun hp hu => ?_, fun hp hu => ?_, rfl, rfl⟩
  ·simp only [AV.pur, List.map_cons, List.map_nil, GI, h2 hp hu]; rfl
  ·show AV.agg _ = _
   simp only [List.map_cons, List.map_nil, GI, h2 hp hu]; rfl
theorem Ar {X : AV} (h : EV X) : X.cells.length = 7 := h.len
theorem Az {X : AV} (h : EV X) : X.ok = true := h.ok
theorem Aq {X : AV} {hp : Hp} (h : EV X) (hu : Unf hp) : X.pur hp = X := h.pur hp hu
theorem Ak {X : AV} {hp : Hp} (h : EV X) (hu : Unf hp) : X.BW hp = X := h.BW hp hu
theorem Aj {X : AV} (h : EV X) : AV.agg (List.take 7 X.cells) = X := h.take
theorem As {X : AV} (h : EV X) : AV.agg X.cells = X := h.agg
theorem Al {X : AV} (h : EV X) (a b c d e f g : AV) : X.Fw 0 [a, b, c, d, e, f, g] = .agg [a, b, c, d, e, f, g] := by
 have h1 := h.len
 rw [← h.agg]
 generalize X.cells = l at *
 match l, h1 with
 | [_, _, _, _, _, _, _], _ => rfl
theorem Am {X : AV} (h : EV X) (F : Nat → AV) (esz i : Nat) (es : List AV) (ps : List (Nat × AF)) (k : List AV → Prop) : F2 X F esz i es ps k = ((X.cells.length = esz ∧ i < es.length) ∧ EG F esz (es.set i X) ps k) := by simp [F2, h.ok]
def kp : AV → List Nat
 | .row K _ _ => [K]
 | _ => []
mutual
inductive KD : AV → List Nat → Prop
 | mk (k p n : Int) (s : ByteArray) (P : AV) (es : List AV) (N : List Nat) (h : KDs es N) : KD (.agg [.int .i64 k, .int .i64 p, .int .i64 n, .str s, .Au, P, slN es]) (kp P ++ N)
inductive KDs : List AV → List Nat → Prop
 | nil : KDs [] []
 | cons (x : AV) (l : List AV) (A B : List Nat) (h : KD x A) (hl : KDs l B) : KDs (x :: l) (A ++ B)
end
def DN (nm : Nat) (N : List Nat) : Prop := N.Nodup ∧ ∀ k ∈ N, InT nm k
def DNR (nm n : Nat) (N : List Nat) : Prop := N.Nodup ∧ ∀ k ∈ N, ∃ i, i < n ∧ InT (sub nm i) k
theorem AbL (nm : Nat) : DN nm [] := ⟨List.nodup_nil, fun k hk => by cases hk⟩
theorem ZO {nm i : Nat} {N : List Nat} (h : DN (sub nm i) N) : DN nm N := ⟨h.1, fun k hk => (h.2 k hk).up⟩
theorem B7 {nm i : Nat} {N : List Nat} (h : DN (sub nm i) N) : DNR nm (i + 1) N := ⟨h.1, fun k hk => ⟨i, Nat.lt_succ_self _, h.2 k hk⟩⟩
theorem DNR.dn {nm n : Nat} {N : List Nat} (h : DNR nm n N) : DN nm N := ⟨h.1, fun k hk => by obtain ⟨i, _, hi⟩ := h.2 k hk; exact hi.up⟩
theorem CV {nm n j : Nat} {A B : List Nat} (ha : DNR nm n A) (hb : DN (sub nm j) B) (hj : n ≤ j) : DNR nm (j + 1) (A ++ B) :=
 ⟨List.nodup_append.2 ⟨ha.1, hb.1, fun x hx y hy e => by
  obtain ⟨i, hi, h⟩ := ha.2 x hx
  have := h.sib (e ▸ hb.2 y hy)
  omega⟩, fun k hk => by
  rcases List.mem_append.1 hk with h | h
  ·obtain ⟨i, hi, h2⟩ := ha.2 k h; exact ⟨i, by omega, h2⟩
  ·exact ⟨j, Nat.lt_succ_self _, hb.2 k h⟩⟩
theorem ZN {nm n j : Nat} {A B C : List Nat} (ha : DNR nm n (A ++ B)) (hc : DN (sub nm j) C) (hj : n ≤ j) : DNR nm (j + 1) (A ++ C) :=
 CV ⟨(List.nodup_append.1 ha.1).1, fun k hk => ha.2 k (List.mem_append.2 (.inl hk))⟩ hc hj
theorem kd0 {k p n : Int} {s : ByteArray} : KD (.agg [.int .i64 k, .int .i64 p, .int .i64 n, .str s, .Au, .Au, .Au]) [] := .mk k p n s .Au [] [] .nil
theorem kd1 {k p n : Int} {s : ByteArray} {X : AV} {A : List Nat} (h : KD X A) : KD (.agg [.int .i64 k, .int .i64 p, .int .i64 n, .str s, .Au, .Au, .sl [X]]) A := by
 have := KD.mk k p n s .Au [X] _ (.cons X [] A [] h .nil)
 rw [List.append_nil] at this
 exact this
theorem kd2 {k p n : Int} {s : ByteArray} {X Y : AV} {A B : List Nat} (h : KD X A) (h2 : KD Y B) : KD (.agg [.int .i64 k, .int .i64 p, .int .i64 n, .str s, .Au, .Au, .sl [X, Y]]) (A ++ B) := by
 have := KD.mk k p n s .Au [X, Y] _ (.cons X [Y] A _ h (.cons Y [] B [] h2 .nil))
 rw [List.append_nil] at this
 exact this
theorem kd3 {k p n : Int} {s : ByteArray} {X Y Z : AV} {A B C : List Nat} (h : KD X A) (h2 : KD Y B) (h3 : KD Z C) : KD (.agg [.int .i64 k, .int .i64 p, .int .i64 n, .str s, .Au, .Au, .sl [X, Y, Z]]) (A ++ (B ++ C)) := by
 have := KD.mk k p n s .Au [X, Y, Z] _ (.cons X [Y, Z] A _ h (.cons Y [Z] B _ h2 (.cons Z [] C [] h3 .nil)))
 rw [List.append_nil] at this
 exact this
theorem AbJ {k p n : Int} {s : ByteArray} {P E : AV} {N : List Nat} (h : KD (.agg [.int .i64 k, .int .i64 p, .int .i64 n, .str s, .Au, P, E]) N) : ∃ N', N = kp P ++ N' := by
 generalize hX : AV.agg [.int .i64 k, .int .i64 p, .int .i64 n, .str s, .Au, P, E] = X at h
 cases h with
 | mk k' p' n' s' P' es N' h' =>
  simp only [AV.agg.injEq, List.cons.injEq] at hX
  obtain ⟨_, _, _, _, _, rfl, _⟩ := hX
  exact ⟨N', rfl⟩
theorem kdP {k p n : Int} {s : ByteArray} {P X : AV} {A : List Nat} (h : KD X A) : KD (.agg [.int .i64 k, .int .i64 p, .int .i64 n, .str s, .Au, P, .sl [X]]) (kp P ++ A) := by
 have := KD.mk k p n s P [X] _ (.cons X [] A [] h .nil)
 rw [List.append_nil] at this
 exact this
theorem WB {X : AV} {A : List Nat} (h : KD X A) : KDs [X] A := by
 have := KDs.cons X [] A [] h .nil
 rwa [List.append_nil] at this
theorem AaO {l : List AV} {A B : List Nat} {X : AV} (h : KDs l A) (hX : KD X B) : KDs (l ++ [X]) (A ++ B) := by
 induction l generalizing A with
 | nil => cases h; exact WB hX
 | cons x l ih =>
  cases h with
  | cons _ _ C D h1 h2 => rw [List.append_assoc]; exact .cons x (l ++ [X]) C (D ++ B) h1 (ih h2)
def ExP (C : RC) (s : RS) (nm : Nat) (X : AV) (hp' : Hp) : Prop := ∃ s' T w, hp' = rdB C s' ++ T ∧ Bm C s' ∧ s.i ≤ s'.i ∧ (s'.code = 0 → s.code = 0 ∧ s.i < s'.i ∧ w + 3 * s.i + 1 ≤ 3 * s'.i) ∧ EA C.m T w X ∧ Ee nm T ∧ ∃ N, KD X N ∧ DN nm N
theorem ea0 {m : Nat} {T : Hp} (k p n : Int) (s : ByteArray) (hs : s.size ≤ m) : EA m T 1 (.agg [.int .i64 k, .int .i64 p, .int .i64 n, .str s, .Au, .Au, .Au]) := .mk k p n s .Au [] 0 hs (.inl rfl) .nil
theorem ea1 {m a : Nat} {T : Hp} {A : AV} (k p n : Int) (s : ByteArray) (hs : s.size ≤ m) (hA : EA m T a A) : EA m T (a + 1) (.agg [.int .i64 k, .int .i64 p, .int .i64 n, .str s, .Au, .Au, .sl [A]]) := .mk k p n s .Au [A] a hs (.inl rfl) (by have := EAs.cons a 0 A [] hA .nil; exact this)
theorem ea2 {m a b : Nat} {T : Hp} {A B : AV} (k p n : Int) (s : ByteArray) (hs : s.size ≤ m) (hA : EA m T a A) (hB : EA m T b B) : EA m T (a + b + 1) (.agg [.int .i64 k, .int .i64 p, .int .i64 n, .str s, .Au, .Au, .sl [A, B]]) := .mk k p n s .Au [A, B] (a + b) hs (.inl rfl) (by have := EAs.cons a (b + 0) A [B] hA (.cons b 0 B [] hB .nil); exact this)
theorem ea3 {m a b c : Nat} {T : Hp} {A B D : AV} (k p n : Int) (s : ByteArray) (hs : s.size ≤ m) (hA : EA m T a A) (hB : EA m T b B) (hD : EA m T c D) : EA m T (a + (b + c) + 1) (.agg [.int .i64 k, .int .i64 p, .int .i64 n, .str s, .Au, .Au, .sl [A, B, D]]) := .mk k p n s .Au [A, B, D] (a + (b + c)) hs (.inl rfl) (by have := EAs.cons a (b + (c + 0)) A [B, D] hA (.cons b (c + 0) B [D] hB (.cons c 0 D [] hD .nil)); exact this)
theorem LD {C : RC} {s s' : RS} (nm : Nat) (hs : Bm C s') (k p n : Int) (x : ByteArray) (h3 : x.size ≤ C.m) (hi : s.i ≤ s'.i) (hc : s'.code = 0 → s.code = 0 ∧ s.i < s'.i) : ExP C s nm (.agg [.int .i64 k, .int .i64 p, .int .i64 n, .str x, .Au, .Au, .Au]) (rdB C s') :=
 ⟨s', [], 1, by rw [List.append_nil], hs, hi, fun h => ⟨(hc h).1, (hc h).2, by have := (hc h).2; omega⟩, ea0 k p n x h3, W6 nm, [], kd0, AbL nm⟩
theorem Bi {nm i : Nat} {T : Hp} (h : Ee (sub nm i) T) : Lm nm (i + 1) T := ⟨fun p hp => ⟨(h.1 p hp).1, i, Nat.lt_succ_self _, (h.1 p hp).2⟩, h.2⟩
theorem comb {nm n j : Nat} {a b : Hp} (ha : Lm nm n a) (hb : Ee (sub nm j) b) (hj : n ≤ j) : Bt (b ++ a) b ∧ Bt (b ++ a) a :=
 ⟨EB hb.2.1, (AO.1 (EX hb.2.1 ha.2.1 (E3 ha hb hj))).2⟩
theorem Ps {T : Hp} {l : List Nat} (h : L9 T) (hl : ∀ k ∈ l, k < 10000 := by decide) : BU l T = T := by
 unfold BU
 refine List.filter_eq_self.2 fun p hp => ?_
 have h1 := h p hp
 cases hc : l.contains p.1 with
 | false => rfl
 | true => have := hl _ (contains_iff.1 hc); omega
theorem EVB : type_of% (And.intro @Ar (And.intro @Az (And.intro @Aq (And.intro @Ak (And.intro @Aj (And.intro @As (And.intro @Al @Am))))))) := (And.intro @Ar (And.intro @Az (And.intro @Aq (And.intro @Ak (And.intro @Aj (And.intro @As (And.intro @Al @Am)))))))
end Go.Proofs.YtoffpbehgncakaaGreat
