/-
 THE RULES BY WHICH AN ABSTRACT TEXT IS CARRIED OUT: for simp. Conditions: none.
-/
import Derived.Test.YteeiaaogmjbcjaaGreatKAvDraw
set_option linter.unusedVariables false
namespace Go.Proofs.YteeiaaogmjbcjaaGreat.Av
open Go.RowKit

theorem eqq {α : Sort _} {a b : α} (h : a = b) : a = b := h
structure Ds {α : Type} (a : α) : Type where
 mk ::
def Bd {α : Type} (m : (α → Prop) → Prop) (k : α → Prop) (h : Ds k) : Prop := m k
def Bd2 (m : (AV → Hp → Prop) → Prop) (k : AV → Hp → Prop) (h : Ds k) : Prop := m k
theorem Aei {α : Type} (v : α) (K : α → Prop) (h : Ds K) : Bd (fun k => k v) K h = K v := eqq rfl
theorem AbT {α : Type} (A B : (α → Prop) → Prop) (K : α → Prop) (h : Ds K) : Bd (fun k => A k ∧ B k) K h = (Bd A K h ∧ Bd B K h) := eqq rfl
theorem AbS {α : Type} (c : Prop) (B : (α → Prop) → Prop) (K : α → Prop) (h : Ds K) : Bd (fun k => c → B k) K h = (c → Bd B K h) := eqq rfl
theorem Vp {α : Type} (c : Prop) (K : α → Prop) (h : Ds K) : Bd (fun _ => c) K h = c := eqq rfl
theorem Ac5 (v : AV) (hp : Hp) (K : AV → Hp → Prop) (h : Ds K) : Bd2 (fun k => k v hp) K h = K v hp := eqq rfl
theorem YY (A B : (AV → Hp → Prop) → Prop) (K : AV → Hp → Prop) (h : Ds K) : Bd2 (fun k => A k ∧ B k) K h = (Bd2 A K h ∧ Bd2 B K h) := eqq rfl
theorem YX (c : Prop) (B : (AV → Hp → Prop) → Prop) (K : AV → Hp → Prop) (h : Ds K) : Bd2 (fun k => c → B k) K h = (c → Bd2 B K h) := eqq rfl
theorem YZ {β : Type} (B : β → (AV → Hp → Prop) → Prop) (K : AV → Hp → Prop) (h : Ds K) : Bd2 (fun k => ∀ v, B v k) K h = ∀ v, Bd2 (B v) K h := eqq rfl
theorem Rn (c : Prop) (K : AV → Hp → Prop) (h : Ds K) : Bd2 (fun _ => c) K h = c := eqq rfl

section
variable (P : Program) (Q : Exit → St → Prop) (fr : List (Nat × AV)) (hp : Hp) (K : AV → Hp → Prop) (k : AV → Prop)

theorem US (s : St) : awp P .skip Q s = Q .normal s := eqq rfl
theorem OV (l : List BN) (s : St) : awp P (.region l) Q s = Bv P (Q .normal) l s := eqq rfl
theorem UW (l : List BN) (s : St) : awp P (.draw l) Q s = Bv P (Q .normal) l s := eqq rfl
theorem UY (a b : BF) (s : St) : awp P (.both a b) Q s = (awp P a Q s ∧ awp P b Q s) := eqq rfl
def AcN (P : Program) (b : BF) (Q : Exit → St → Prop) : Exit → St → Prop := fun e s' => match e with | .normal => awp P b Q s' | e => Q e s'
theorem YD (a b : BF) (s : St) : awp P (.seq a b) Q s = awp P a (AcN P b Q) s := eqq rfl
theorem NS (b : BF) (s : St) : AcN P b Q .normal s = awp P b Q s := eqq rfl
theorem NT (b : BF) (i : Nat) (s : St) : AcN P b Q (.exit i) s = Q (.exit i) s := eqq rfl
theorem NR (b : BF) (s : St) : AcN P b Q .ret s = Q .ret s := eqq rfl
def Br (b : Bool) (A B : Prop) (h : Ds A) (h' : Ds B) : Prop := (b = true → A) ∧ (b = false → B)
theorem brt (A B : Prop) (h : Ds A) (h' : Ds B) : Br true A B h h' = A := propext ⟨fun x => x.1 (eqq rfl), fun x => ⟨fun _ => x, fun e => by cases e⟩⟩
theorem brf (A B : Prop) (h : Ds A) (h' : Ds B) : Br false A B h h' = B := propext ⟨fun x => x.2 (eqq rfl), fun x => ⟨fun e => (by cases e), fun _ => x⟩⟩
theorem Abr (b : Bool) (A B : Prop) (h : Ds A) (h' : Ds B) : Br b A B h h' = ((b = true → A) ∧ (b = false → B)) := eqq rfl
def Bn (b : Bool) (A B : Prop) (h : Ds A) (h' : Ds B) : Prop := (b = false → A) ∧ (b = true → B)
theorem bnt (A B : Prop) (h : Ds A) (h' : Ds B) : Bn true A B h h' = B := propext ⟨fun x => x.2 (eqq rfl), fun x => ⟨fun e => (by cases e), fun _ => x⟩⟩
theorem bnf (A B : Prop) (h : Ds A) (h' : Ds B) : Bn false A B h h' = A := propext ⟨fun x => x.1 (eqq rfl), fun x => ⟨fun _ => x, fun e => by cases e⟩⟩
theorem Abt (b : Bool) (A B : Prop) (h : Ds A) (h' : Ds B) : Bn b A B h h' = ((b = false → A) ∧ (b = true → B)) := eqq rfl
def Pk (t : Bool) (a b : AV) (k : AV → Prop) : Prop := (t = true → k a) ∧ (t = false → k b)
theorem pkt (a b : AV) (k : AV → Prop) : Pk true a b k = k a := propext ⟨fun x => x.1 (eqq rfl), fun x => ⟨fun _ => x, fun e => by cases e⟩⟩
theorem pkf (a b : AV) (k : AV → Prop) : Pk false a b k = k b := propext ⟨fun x => x.2 (eqq rfl), fun x => ⟨fun e => (by cases e), fun _ => x⟩⟩
theorem Aau (t : Bool) (a b : AV) (k : AV → Prop) : Pk t a b k = ((t = true → k a) ∧ (t = false → k b)) := eqq rfl
def Ac0 (x : AV) (A B : Prop) (h : Ds A) (h' : Ds B) : Prop :=
 match x with
 | .bool t => (t = true → A) ∧ (t = false → B)
 | _ => False
theorem UX (c : AE) (a b : BF) (s : St) : awp P (.cond c a b) Q s = Ac0 (c.ev (Bo s.fr)) (awp P a Q s) (awp P b Q s) ⟨⟩ ⟨⟩ := eqq rfl
theorem O7 (t : Bool) (A B : Prop) (h : Ds A) (h' : Ds B) : Ac0 (.bool t) A B h h' = Br t A B h h' := eqq rfl
def KR (id : Nat) (Q : Exit → St → Prop) : Exit → St → Prop := fun e s' => match e with | .exit id' => if id' = id then Q .normal s' else Q (.exit id') s' | e => Q e s'
theorem Q6 (id : Nat) (a : BF) (s : St) : awp P (.block id a) Q s = awp P a (KR id Q) s := eqq rfl
theorem Li (id : Nat) (s : St) : KR id Q .normal s = Q .normal s := eqq rfl
theorem Lg (id : Nat) (s : St) : KR id Q .ret s = Q .ret s := eqq rfl
theorem Lj (id : Nat) (s : St) : KR id Q (.exit id) s = Q .normal s := by simp [KR]
theorem Lh {i id : Nat} (h : (i == id) = false) (s : St) : KR id Q (.exit i) s = Q (.exit i) s := by simp [KR, beq_eq_false_iff_ne.1 h]
theorem UU (id : Nat) (s : St) : awp P (.exit id) Q s = Q (.exit id) s := eqq rfl
def R9 (Q : Exit → St → Prop) : Exit → St → Prop := fun e s' => match e with | .goto _ => False | e => Q e s'
theorem Q5 (a : BF) (s : St) : awp P (.scope a) Q s = awp P a (R9 Q) s := eqq rfl
theorem Le (s : St) : R9 Q .normal s = Q .normal s := eqq rfl
theorem Ld (s : St) : R9 Q .ret s = Q .ret s := eqq rfl
theorem Lf (i : Nat) (s : St) : R9 Q (.exit i) s = Q (.exit i) s := eqq rfl
theorem YE : awp P .ret Q ⟨fr, hp⟩ = Bd (fun k => k (KH hp)) (fun hp => Q .ret ⟨fr, hp⟩) ⟨⟩ := eqq rfl
theorem Ow : KH [] = [] := eqq rfl
theorem QE (hp : Hp) : KH hp = Cr (Fa hp) (Cr (Fa hp) hp) := eqq rfl
theorem Ok : Fa [] = [] := eqq rfl
theorem ML (j : Nat) (b : Box) (r : Hp) : Fa ((j, b) :: r) = if (Fa r).contains j then Fa r else j :: Fa r := eqq rfl
theorem Ov (hp : Hp) : Cr [] hp = hp := eqq rfl
theorem Gh (j : Nat) (r : List Nat) (hp : Hp) : Cr (j :: r) hp = Cr r (HP hp j) := eqq rfl
def Aba (bx : Option Box) (hp : Hp) (j : Nat) : Hp :=
 match bx with
 | some b => (j, { b with frz := true, es := b.es.map (AV.pur hp) }) :: hp
 | none => hp
theorem Yf (hp : Hp) (j : Nat) : HP hp j = Aba (AA hp j) hp j := eqq rfl
theorem Oo (ver : Nat) (z : Bool) (ty : TypeId) (esz : Nat) (es : List AV) (hp : Hp) (j : Nat) : Aba (some ⟨ver, z, ty, esz, es⟩) hp j = (j, ⟨ver, true, ty, esz, es.map (AV.pur hp)⟩) :: hp := eqq rfl
theorem Oq (hp : Hp) (j : Nat) : Aba none hp j = hp := eqq rfl
/-! loops -/
def Vi {X : Type} (I : X → St) (pre : X → Prop) (m : X → Nat) (x : X) (Q : Exit → St → Prop) : Exit → St → Prop := fun e s' => match e with | .normal => Ah s' (fun t => ∃ x', (pre x' ∧ m x' < m x) ∧ t = I x') | e => Q e s'
theorem Mz {X : Type} (I : X → St) (pre : X → Prop) (m : X → Nat) (x : X) (s : St) : Vi I pre m x Q .normal s = Ah s (fun t => ∃ x', (pre x' ∧ m x' < m x) ∧ t = I x') := eqq rfl
theorem MA {X : Type} (I : X → St) (pre : X → Prop) (m : X → Nat) (x : X) (i : Nat) (s : St) : Vi I pre m x Q (.exit i) s = Q (.exit i) s := eqq rfl
theorem My {X : Type} (I : X → St) (pre : X → Prop) (m : X → Nat) (x : X) (s : St) : Vi I pre m x Q .ret s = Q .ret s := eqq rfl
theorem AF {P : Program} {Q : Exit → St → Prop} {a : BF} {s : St} {X : Type} (I : X → St) (pre : X → Prop) (m : X → Nat) (x0 : X) (h0 : pre x0) (h1 : Ud s.fr (I x0).fr) (h2 : Bu s.hp (I x0).hp) (hr : ∀ x, pre x → awp P a (Vi I pre m x Q) (I x)) : awp P (.loop a) Q s :=
 ⟨X, I, pre, m, Ah.le ⟨x0, h0, rfl⟩ h1 h2, hr⟩
theorem Cm {P : Program} {Q : Exit → St → Prop} {a : BF} {s : St} {X : Type} (I : X → St) (pre : X → Prop) (m : X → Nat) (h0 : Ah s (fun t => ∃ x, pre x ∧ t = I x)) (hr : ∀ x, pre x → awp P a (Vi I pre m x Q) (I x)) : awp P (.loop a) Q s :=
 ⟨X, I, pre, m, h0, hr⟩
theorem BO {P : Program} {Q : Exit → St → Prop} {a : BF} {s : St} (h : Ah s (fun t => awp P a Q t)) : awp P (.ghost a) Q s := h
theorem Ah.here {s : St} {T : St → Prop} (h : T s) : Ah s T := ⟨fun _ _ a w hr => ⟨s, h, hr⟩⟩
theorem Ub (s : List (Nat × AV)) : Ud s [] = True := eqq rfl
theorem QF (s : List (Nat × AV)) (i : Nat) (x : AV) (r : List (Nat × AV)) : Ud s ((i, x) :: r) = (Bo s i = x ∧ Ud s r) := eqq rfl
theorem TL (s : Hp) : Bu s [] = True := eqq rfl
theorem L4 (s : Hp) (i : Nat) (x : Box) (r : Hp) : Bu s ((i, x) :: r) = (AA s i = some x ∧ Bu s r) := eqq rfl
/-! a function that is handed own rows -/
def Pg (rs : List FL) (Post : AV → Hp → Prop) (t : St) : Prop := BT t.hp (Bo t.fr) rs fun xs => ∃ hp', Bu t.hp hp' ∧ Post (I6 t.hp xs) hp'
theorem Ix (rs : List FL) (Post : AV → Hp → Prop) (s : St) : AbP rs Post .normal s = Ah s (Pg rs Post) := eqq rfl
theorem Lk (rs : List FL) (Post : AV → Hp → Prop) (s : St) : AbP rs Post .ret s = Ah s (Pg rs Post) := eqq rfl
theorem Ah.post {rs : List FL} {Post : AV → Hp → Prop} {s : St} (hp' : Hp) (h : BT s.hp (Bo s.fr) rs fun xs => Bu s.hp hp' ∧ Post (I6 s.hp xs) hp') : Ah s (Pg rs Post) := by
 refine Ah.here ?_
 have : ∀ {l : List FL} {K K' : List AV → Prop}, (∀ ys, K ys → K' ys) → BT s.hp (Bo s.fr) l K → BT s.hp (Bo s.fr) l K' := by
  intro l
  induction l with
  | nil => intro K K' hk h; exact hk _ h
  | cons r l ih =>
   intro K K' hk h
   unfold BT at h ⊢
   cases r with
   | t i => exact ih (fun ys hy => hk _ hy) h
   | c g n i =>
    simp only [Ad2, Fj] at h ⊢
    split at h
    ·unfold Fp at h ⊢; cases g <;> exact ⟨h.1, ih (fun ys hy => hk _ hy) h.2⟩
    ·split at h
     ·refine ⟨h.1, ?_⟩; have h := h.2; unfold Fp at h ⊢; cases g <;> exact ⟨h.1, ih (fun ys hy => hk _ hy) h.2⟩
     ·exact h
    ·exact h
 exact this (fun ys hy => ⟨hp', hy⟩) h
theorem UT (s : St) : awp P .I5 Q s = Q .ret s := eqq rfl
theorem TK (hp : Hp) : JK [] hp = [] := eqq rfl
def Yb (bx : Option Box) (j : Nat) (r : Hp) : Hp :=
 match bx with
 | some b => (j, b) :: r
 | none => r
theorem Qv (j : Nat) (r : List Nat) (hp : Hp) : JK (j :: r) hp = Yb (AA hp j) j (JK r hp) := by
 unfold JK Yb; rw [List.filterMap_cons]; cases AA hp j <;> rfl
theorem Oh (b : Box) (j : Nat) (r : Hp) : Yb (some b) j r = (j, b) :: r := eqq rfl
theorem Oi (j : Nat) (r : Hp) : Yb none j r = r := eqq rfl
theorem Qw (hs : List Nat) : B6 hs [] = [] := eqq rfl
theorem KG (hs : List Nat) (j : Nat) (b : Box) (r : Hp) : B6 hs ((j, b) :: r) = if hs.contains j then B6 hs r else (j, b) :: B6 hs r := by
 unfold B6; rw [List.filter_cons]; cases hs.contains j <;> rfl
def Nn (P : Program) (f : FuncId) (args : List AV) (hp : Hp) (k : AV → Hp → Prop) : Prop := Pb P f args hp k
theorem Ac {P : Program} {f : FuncId} {args : List AV} {hp hp0 : Hp} {k : AV → Hp → Prop} {Post : AV → Hp → Prop} (hs : List Nat) (h : AO P f args hp0 Post) {kp : Ds k} (he : JK hs hp = hp0) (hk : ∀ r hp', Post r hp' → k r (hp' ++ B6 hs hp)) : Bd2 (fun k => Nn P f args hp k) k kp := ⟨hs, Post, .inl ⟨by rw [he]; exact h, hk⟩⟩
theorem PX (F : Nat → AV) (f : FuncId) (as : List AE) : (IOp.Bx f as).sem P F hp K = Bd2 (fun k => Nn P f (as.map fun x => (x.ev F).BW hp) hp k) K ⟨⟩ := eqq rfl
def Vb (P : Program) (x : AV) (args : List AV) (hp : Hp) (k : AV → Hp → Prop) : Prop := LK P x args hp k
theorem NB (F : Nat → AV) (f : AE) (as : List AE) : (IOp.KM f as).sem P F hp K = Bd2 (fun k => Vb P ((f.ev F).BW hp) (as.map fun x => (x.ev F).BW hp) hp k) K ⟨⟩ := eqq rfl
theorem MX (f : FuncId) (caps args : List AV) : Vb P (.fn f caps) args hp K = Nn P f (args ++ caps) hp K := eqq rfl
theorem Jj (rs : List FL) (res : AV) (s : St) : Ret rs res .normal s = BT s.hp (Bo s.fr) rs fun xs => I6 s.hp xs = res := eqq rfl
theorem MB (rs : List FL) (res : AV) (s : St) : Ret rs res .ret s = BT s.hp (Bo s.fr) rs fun xs => I6 s.hp xs = res := eqq rfl

theorem Xt (R : St → Prop) (s : St) : Bv P R [] s = R s := eqq rfl
theorem Xs (R : St → Prop) (d : Nat) (op : IOp) (l : List BN) : Bv P R (⟨some d, none, op⟩ :: l) ⟨fr, hp⟩ = op.sem P (Bo fr) hp fun v hp => Bv P R l ⟨(d, v) :: fr, hp⟩ := eqq rfl
theorem Tf (R : St → Prop) (op : IOp) (l : List BN) : Bv P R (⟨none, none, op⟩ :: l) ⟨fr, hp⟩ = op.sem P (Bo fr) hp fun v hp => Bv P R l ⟨fr, hp⟩ := eqq rfl
def O5 (x : AV) (want : Bool) (A B : Prop) (h : Ds A) (h' : Ds B) : Prop :=
 match x with
 | .bool b => (b = want → A) ∧ (b = (!want) → B)
 | .tup _ => B
 | _ => False
theorem Qj (R : St → Prop) (d t : Nat) (want : Bool) (op : IOp) (l : List BN) : Bv P R (⟨some d, some (t, want), op⟩ :: l) ⟨fr, hp⟩ = O5 (Bo fr t) want (op.sem P (Bo fr) hp fun v hp => Bv P R l ⟨(d, v) :: fr, hp⟩) (Bv P R l ⟨(d, .tup []) :: fr, hp⟩) ⟨⟩ ⟨⟩ := eqq rfl
theorem NU (R : St → Prop) (t : Nat) (want : Bool) (op : IOp) (l : List BN) : Bv P R (⟨none, some (t, want), op⟩ :: l) ⟨fr, hp⟩ = O5 (Bo fr t) want (op.sem P (Bo fr) hp fun v hp => Bv P R l ⟨fr, hp⟩) (Bv P R l ⟨fr, hp⟩) ⟨⟩ ⟨⟩ := eqq rfl
theorem MV (b : Bool) (A B : Prop) (h : Ds A) (h' : Ds B) : O5 (.bool b) true A B h h' = Br b A B h h' := eqq rfl
theorem LJ (b : Bool) (A B : Prop) (h : Ds A) (h' : Ds B) : O5 (.bool b) false A B h h' = Bn b A B h h' := eqq rfl
theorem O4 (xs : List AV) (want : Bool) (A B : Prop) (h : Ds A) (h' : Ds B) : O5 (.tup xs) want A B h h' = B := eqq rfl

theorem AdX (F : Nat → AV) (i : Nat) : AE.ev F (.t i) = F i := eqq rfl
theorem AdZ (F : Nat → AV) (x : AV) : AE.ev F (.c x) = x := eqq rfl
theorem AdY (F : Nat → AV) (l : List Nat) : AE.ev F (.s l) = .str (bs l) := eqq rfl
theorem WT : AV.str ⟨⟨[]⟩⟩ = AV.str (bs []) := eqq rfl
theorem Yo (i : Nat) (x : AV) : Bo ((i, x) :: fr) i = x := by simp [Bo]
theorem Yn {i j : Nat} (x : AV) (h : (i == j) = false) : Bo ((i, x) :: fr) j = Bo fr j := by simp [Bo, (beq_eq_false_iff_ne.1 h)]
theorem Ye (i : Nat) (x : Box) : AA ((i, x) :: hp) i = some x := by simp [AA]
theorem Yd {i j : Nat} (x : Box) (h : (i == j) = false) : AA ((i, x) :: hp) j = AA hp j := by simp [AA, (beq_eq_false_iff_ne.1 h)]
theorem TP (i : Nat) : AA [] i = none := eqq rfl

theorem W4 (F : Nat → AV) (x : AE) : (IOp.mov x).sem P F hp K = Bd (fun k => k (x.ev F)) (fun v => K v hp) ⟨⟩ := eqq rfl
theorem Su (F : Nat → AV) (c a b : AE) : (IOp.pick c a b).sem P F hp K = Bd (fun k => U6 (c.ev F) (a.ev F) (b.ev F) k) (fun v => K v hp) ⟨⟩ := eqq rfl
theorem W8 (F : Nat → AV) (op : BinOp) (kd : EqK) (x y : AE) : (IOp.bin op kd x y).sem P F hp K = Bd (fun k => Gb op kd (x.ev F) (y.ev F) k) (fun v => K v hp) ⟨⟩ := eqq rfl
theorem SC (F : Nat → AV) (op : BinOp) (x y : AE) : (IOp.Adu op x y).sem P F hp K = Bd (fun k => Fq op (x.ev F) (y.ev F) k) (fun v => K v hp) ⟨⟩ := eqq rfl
theorem UN (q : IntKind) (a b : Int) : Fq .add (.int q a) (.int q b) k = k (.int q (q.wrap (a + b))) := by simp [Fq]
theorem UJ (q : IntKind) (a b : Int) : Fq .sub (.int q a) (.int q b) k = k (.int q (q.wrap (a - b))) := by simp [Fq]
theorem UM (q : IntKind) (a b : Int) : Fq .mul (.int q a) (.int q b) k = k (.int q (q.wrap (a * b))) := by simp [Fq]
theorem UL (q r : IntKind) (a b : Int) : Fq .shl (.int q a) (.int r b) k = (0 ≤ b ∧ k (.int q (q.wrap (a * 2 ^ (min b.toNat q.bits))))) := by simp [Fq]
theorem UK (q r : IntKind) (a b : Int) : Fq .shr (.int q a) (.int r b) k = ((0 ≤ b ∧ inR q (a.fdiv (2 ^ (min b.toNat q.bits)))) ∧ k (.int q (a.fdiv (2 ^ (min b.toNat q.bits))))) := by simp [Fq]
theorem Aae (F : Nat → AV) (op : UnOp) (x : AE) : (IOp.un op x).sem P F hp K = Bd (fun k => aUn op (x.ev F) k) (fun v => K v hp) ⟨⟩ := eqq rfl
def It (x : AV) (hp : Hp) (k : AV → Prop) : Prop := x.ok = true ∧ k (.obj (x.pur hp).cells)
theorem Sz (F : Nat → AV) (x : AE) : (IOp.Abs x).sem P F hp K = Bd (fun k => It (x.ev F) hp k) (fun v => K v hp) ⟨⟩ := eqq rfl
theorem Vf (cs : List AV) : It (.agg cs) hp k = k (.obj (cs.map (AV.BB hp))) := by simp [It, AV.ok, AV.one, AV.isAgg, AV.pur, AV.cells]
theorem Ve (q : IntKind) (n : Int) : It (.int q n) hp k = k (.obj [.int q n]) := by simp [It, AV.ok, AV.one, AV.isAgg, AV.pur, AV.BB, AV.cells]
theorem Rj (b : Bool) : It (.bool b) hp k = k (.obj [.bool b]) := by simp [It, AV.ok, AV.one, AV.isAgg, AV.pur, AV.BB, AV.cells]
theorem Vc (s : ByteArray) : It (.str s) hp k = k (.obj [.str s]) := by simp [It, AV.ok, AV.one, AV.isAgg, AV.pur, AV.BB, AV.cells]
theorem YQ (es : List AV) : It (.sl es) hp k = k (.obj [.sl es]) := by simp [It, AV.ok, AV.one, AV.isAgg, AV.pur, AV.BB, AV.cells]
theorem Vd (cs : List AV) : It (.obj cs) hp k = k (.obj [.obj cs]) := by simp [It, AV.ok, AV.one, AV.isAgg, AV.pur, AV.BB, AV.cells]
theorem Rh : It .Aq hp k = k (.obj [.Aq]) := by simp [It, AV.ok, AV.one, AV.isAgg, AV.pur, AV.BB, AV.cells]
theorem Ri : It .DU hp k = k (.obj [.DU]) := by simp [It, AV.ok, AV.one, AV.isAgg, AV.pur, AV.BB, AV.cells]
theorem YR (f : FuncId) (cs : List AV) : It (.fn f cs) hp k = k (.obj [.fn f cs]) := by simp [It, AV.ok, AV.one, AV.isAgg, AV.pur, AV.BB, AV.cells]
def Vg (x : AV) (n j : Nat) (ty : TypeId) (hp : Hp) (K : AV → Hp → Prop) : Prop := (x.ok = true ∧ x.cells.length = n) ∧ ∀ v, K (.ptr j v 0 0) ((j, ⟨v, false, ty, n, [x]⟩) :: hp)
theorem SA (F : Nat → AV) (j : Nat) (ty : TypeId) (n : Nat) (x : AE) : (IOp.GN j ty n x).sem P F hp K = Bd2 (fun k => Vg (x.ev F) n j ty hp k) K ⟨⟩ := eqq rfl
theorem Rl (cs : List AV) (n j : Nat) (ty : TypeId) : Vg (.agg cs) n j ty hp K = (cs.length = n ∧ ∀ v, K (.ptr j v 0 0) ((j, ⟨v, false, ty, n, [.agg cs]⟩) :: hp)) := by simp [Vg, AV.ok, AV.one, AV.isAgg, AV.cells]
theorem Rk (x : AV) (h : x.one = true) (n j : Nat) (ty : TypeId) : Vg x n j ty hp K = (1 = n ∧ ∀ v, K (.ptr j v 0 0) ((j, ⟨v, false, ty, n, [x]⟩) :: hp)) := by simp [Vg, AV.ok, h, Gj h]
theorem PZ (F : Nat → AV) (z : List AV) (ps : List (Nat × Nat × AE)) : (IOp.build z ps).sem P F hp K = Bd (fun k => GU F z ps fun cs => k (.agg cs)) (fun v => K v hp) ⟨⟩ := eqq rfl
theorem Pc (F : Nat → AV) (z : List AV) (k : List AV → Prop) : GU F z [] k = k z := eqq rfl
def LL (x : AV) (F : Nat → AV) (z : List AV) (off n : Nat) (ps : List (Nat × Nat × AE)) (k : List AV → Prop) : Prop := (x.ok = true ∧ x.cells.length = n ∧ off + n ≤ z.length) ∧ GU F (lay z off x.cells) ps k
theorem MZ (F : Nat → AV) (z : List AV) (off n : Nat) (x : AE) (ps : List (Nat × Nat × AE)) (k : List AV → Prop) : GU F z ((off, n, x) :: ps) k = LL (x.ev F) F z off n ps k := eqq rfl
theorem M1 (cs : List AV) (F : Nat → AV) (z : List AV) (off n : Nat) (ps : List (Nat × Nat × AE)) (k : List AV → Prop) : LL (.agg cs) F z off n ps k = ((cs.length = n ∧ off + n ≤ z.length) ∧ GU F (z.take off ++ (cs ++ z.drop (off + cs.length))) ps k) := by simp [LL, AV.ok, AV.one, AV.isAgg, AV.cells, lay]
theorem M0 (x : AV) (h : x.one = true) (F : Nat → AV) (z : List AV) (off n : Nat) (ps : List (Nat × Nat × AE)) (k : List AV → Prop) : LL x F z off n ps k = ((1 = n ∧ off + n ≤ z.length) ∧ GU F (z.take off ++ (x :: z.drop (off + 1))) ps k) := by simp [LL, AV.ok, h, Gj h, lay]
theorem PS (F : Nat → AV) (g : Bool) (n : Nat) (a : AE) : (IOp.Jm g n a).sem P F hp K = Bd (fun k => Fj [] g n (a.ev F) k) (fun v => K v hp) ⟨⟩ := eqq rfl
theorem Sw (F : Nat → AV) (g : Bool) (n : Nat) (a : AE) : (IOp.load g n a).sem P F hp K = Bd (fun k => Fj hp g n (a.ev F) k) (fun v => K v hp) ⟨⟩ := eqq rfl
theorem PQ (F : Nat → AV) (n : Nat) (a x : AE) : (IOp.store n a x).sem P F hp K = Bd (fun k => KO hp n (a.ev F) (x.ev F) k) (fun hp => K (.tup []) hp) ⟨⟩ := eqq rfl
theorem PV (F : Nat → AV) (off : Nat) (x : AE) : (IOp.Cs off x).sem P F hp K = Bd (fun k => Is off (x.ev F) k) (fun v => K v hp) ⟨⟩ := eqq rfl
theorem W6 (F : Nat → AV) (g : Bool) (off n : Nat) (x : AE) : (IOp.fld g off n x).sem P F hp K = Bd (fun k => AbE g off n (x.ev F) k) (fun v => K v hp) ⟨⟩ := eqq rfl
theorem PU (F : Nat → AV) (e : Nat) (x i : AE) : (IOp.MK e x i).sem P F hp K = Bd (fun k => CU hp e (x.ev F) (i.ev F) k) (fun v => K v hp) ⟨⟩ := eqq rfl
theorem NA (F : Nat → AV) (e : Nat) (x i : AE) : (IOp.Og e x i).sem P F hp K = Bd (fun k => CU [] e (x.ev F) (i.ev F) k) (fun v => K v hp) ⟨⟩ := eqq rfl
theorem Ss (F : Nat → AV) (x i : AE) : (IOp.Ac9 x i).sem P F hp K = Bd (fun k => U5 (x.ev F) (i.ev F) k) (fun v => K v hp) ⟨⟩ := eqq rfl
theorem W5 (F : Nat → AV) (g : Bool) (x : AE) : (IOp.len g x).sem P F hp K = Bd (fun k => Ga g (x.ev F) k) (fun v => K v hp) ⟨⟩ := eqq rfl
theorem Sx (F : Nat → AV) (d : IntKind) (x : AE) : (IOp.conv d x).sem P F hp K = Bd (fun k => Va d (x.ev F) k) (fun v => K v hp) ⟨⟩ := eqq rfl
theorem Mv (F : Nat → AV) (i : Nat) (x : AE) : (IOp.extract i x).sem P F hp K = Bd (fun k => GR i (x.ev F) k) (fun v => K v hp) ⟨⟩ := eqq rfl
theorem Ny (F : Nat → AV) (x : AE) : (IOp.DA x).sem P F hp K = Bd (fun k => F9 (x.ev F) k) (fun v => K v hp) ⟨⟩ := eqq rfl
def Adw (neg : Bool) (x : AV) (hp : Hp) (K : AV → Hp → Prop) : Prop :=
 match x with
 | .sl es => (es = [] → K (.bool (!neg)) hp) ∧ K (.bool neg) hp
 | .Aq => K (.bool (!neg)) hp
 | _ => False
theorem PT (F : Nat → AV) (neg : Bool) (x : AE) : (IOp.Lr neg x).sem P F hp K = Bd2 (fun k => Adw neg (x.ev F) hp k) K ⟨⟩ := eqq rfl
theorem YO (neg : Bool) (es : List AV) : Adw neg (.sl es) hp K = ((es = [] → K (.bool (!neg)) hp) ∧ K (.bool neg) hp) := eqq rfl
theorem Re (neg : Bool) : Adw neg .Aq hp K = K (.bool (!neg)) hp := eqq rfl
theorem Sv (F : Nat → AV) (f : FuncId) (cs : List AE) : (IOp.Adn f cs).sem P F hp K = Bd (fun k => k (.fn f (cs.map fun x => x.ev F))) (fun v => K v hp) ⟨⟩ := eqq rfl
def Pa (P : Program) (f : FuncId) (args : List AV) (hp : Hp) (k : AV → Prop) : Prop := MY P f args hp k
theorem Ae {P : Program} {f : FuncId} {args : List AV} {hp : Hp} {k : AV → Prop} (r : AV) (h : AG P f args r) {kp : Ds k} (hk : k r) : Bd (fun k => Pa P f args hp k) k kp := ⟨r, .inl h, hk⟩
theorem ZV {P : Program} {f : FuncId} {args args' : List AV} {hp : Hp} {k : AV → Prop} {r : AV} (ks : List Nat) (h : AG P f args' r) (hs : r.VA = true) {kp : Ds k} (he : args.map (AV.BW (Cr ks hp)) = args') (hk : k r) : Bd (fun k => Pa P f args hp k) k kp := ⟨r, .inr ⟨ks, by rw [he]; exact h, hs⟩, hk⟩
theorem Sy (F : Nat → AV) (f : FuncId) (as : List AE) : (IOp.call f as).sem P F hp K = Bd (fun k => Pa P f (as.map fun x => (x.ev F).BW hp) hp k) (fun v => K v hp) ⟨⟩ := eqq rfl
theorem PY (F : Nat → AV) (f : FuncId) (as : List AE) : (IOp.UE f as).sem P F hp K = ((∀ hp, (as.map fun x => (x.ev F).BW hp) = as.map fun x => x.ev F) ∧ Bd (fun k => Pa P f (as.map fun x => x.ev F) [] k) (fun v => K v hp) ⟨⟩) := eqq rfl
def YP (P : Program) (x : AV) (args : List AV) (hp : Hp) (k : AV → Prop) : Prop := R8 P x args hp k
theorem PW (F : Nat → AV) (f : AE) (as : List AE) : (IOp.Abq f as).sem P F hp K = Bd (fun k => YP P ((f.ev F).BW hp) (as.map fun x => (x.ev F).BW hp) hp k) (fun v => K v hp) ⟨⟩ := eqq rfl
theorem O8 (f : FuncId) (caps args : List AV) : YP P (.fn f caps) args hp k = Pa P f (args ++ caps) hp k := eqq rfl
def AbD (mx : Bool) (xs : List AV) (k : AV → Prop) : Prop := aMm mx xs k
theorem Aaf (F : Nat → AV) (mx : Bool) (xs : List AE) : (IOp.mm mx xs).sem P F hp K = Bd (fun k => AbD mx (xs.map fun x => x.ev F) k) (fun v => K v hp) ⟨⟩ := eqq rfl
theorem U8 (q : IntKind) (a b : Int) : AbD true [.int q a, .int q b] k = k (.int q (max a b)) := by simp [AbD, aMm]
theorem U7 (q : IntKind) (a b : Int) : AbD false [.int q a, .int q b] k = k (.int q (min a b)) := by simp [AbD, aMm]
def CM (x : AV) (esz : Nat) (lo hi : Option AV) (k : AV → Prop) : Prop := Fi (fun i => if i = 0 then lo.getD .top else hi.getD .top) esz (lo.map fun _ => .t 0) (hi.map fun _ => .t 1) x k
theorem ZU (F : Nat → AV) (x : AV) (esz : Nat) (lo hi : Option AE) : Fi F esz lo hi x k = CM x esz (lo.map fun x => x.ev F) (hi.map fun x => x.ev F) k := by
 unfold CM Fi
 have h1 : Dy F lo = Dy (fun i => if i = 0 then (lo.map fun x => x.ev F).getD .top else (hi.map fun x => x.ev F).getD .top) ((lo.map fun x => x.ev F).map fun _ => AE.t 0) := by cases lo <;> rfl
 have h2 : Dy F hi = Dy (fun i => if i = 0 then (lo.map fun x => x.ev F).getD .top else (hi.map fun x => x.ev F).getD .top) ((hi.map fun x => x.ev F).map fun _ => AE.t 1) := by cases hi <;> rfl
 have h3 : ∀ d, A0 F d lo = A0 (fun i => if i = 0 then (lo.map fun x => x.ev F).getD .top else (hi.map fun x => x.ev F).getD .top) d ((lo.map fun x => x.ev F).map fun _ => AE.t 0) := by intro d; cases lo <;> rfl
 have h4 : ∀ d, A0 F d hi = A0 (fun i => if i = 0 then (lo.map fun x => x.ev F).getD .top else (hi.map fun x => x.ev F).getD .top) d ((hi.map fun x => x.ev F).map fun _ => AE.t 1) := by intro d; cases hi <;> rfl
 have h5 : (lo = none) = (((lo.map fun x => x.ev F).map fun _ => AE.t 0) = none) := by cases lo <;> simp
 simp only [h1, h2, h3, h4, h5]
theorem PR (F : Nat → AV) (e : Nat) (x : AE) (lo hi : Option AE) : (IOp.slice e x lo hi).sem P F hp K = Bd (fun k => CM (x.ev F) e (lo.map fun x => x.ev F) (hi.map fun x => x.ev F) k) (fun v => K v hp) ⟨⟩ := by simp only [IOp.sem]; exact ZU _ _ _ _ _ _
theorem K2 (s : ByteArray) (q r : IntKind) (a b : Int) : CM (.str s) 0 (some (.int q a)) (some (.int r b)) k = ((0 ≤ a ∧ a ≤ b ∧ b ≤ s.size) ∧ k (.str (s.extract a.toNat b.toNat))) := by simp [CM, Fi, Dy, A0, AE.ev, AV.isInt, AV.num]
theorem Mq (s : ByteArray) (q : IntKind) (a : Int) : CM (.str s) 0 (some (.int q a)) none k = ((0 ≤ a ∧ a ≤ s.size) ∧ k (.str (s.extract a.toNat s.size))) := by simp [CM, Fi, Dy, A0, AE.ev, AV.isInt, AV.num, and_assoc]
theorem Mr (s : ByteArray) (r : IntKind) (b : Int) : CM (.str s) 0 none (some (.int r b)) k = ((0 ≤ b ∧ b ≤ s.size) ∧ k (.str (s.extract 0 b.toNat))) := by simp [CM, Fi, Dy, A0, AE.ev, AV.isInt, AV.num]
theorem Ms (es : List AV) (e : Nat) (q r : IntKind) (a b : Int) : CM (.sl es) e (some (.int q a)) (some (.int r b)) k = ((e ≠ 0 ∧ 0 ≤ a ∧ a ≤ b ∧ b ≤ es.length ∧ ∀ x ∈ es, x.cells.length = e) ∧ k (.sl ((es.drop a.toNat).take (b.toNat - a.toNat)))) := by simp [CM, Fi, Dy, A0, AE.ev, AV.isInt, AV.num]
theorem Nu (es : List AV) (e : Nat) (q : IntKind) (a : Int) : CM (.sl es) e (some (.int q a)) none k = ((e ≠ 0 ∧ 0 ≤ a ∧ a ≤ es.length ∧ ∀ x ∈ es, x.cells.length = e) ∧ k (.sl ((es.drop a.toNat).take (es.length - a.toNat)))) := by simp [CM, Fi, Dy, A0, AE.ev, AV.isInt, AV.num]
theorem Nv (es : List AV) (e : Nat) (r : IntKind) (b : Int) : CM (.sl es) e none (some (.int r b)) k = ((e ≠ 0 ∧ 0 ≤ b ∧ b ≤ es.length) ∧ k (.sl (es.take b.toNat))) := by simp [CM, Fi, Dy, A0, AE.ev, AV.isInt, AV.num]
theorem K3 (e : Nat) (r : IntKind) (b : Int) : CM .Aq e none (some (.int r b)) k = ((e ≠ 0 ∧ b = 0) ∧ k .Aq) := by simp [CM, Fi, Dy, A0, AE.ev, AV.isInt, AV.num]
theorem Mt (j v n e : Nat) (r : IntKind) (b : Int) : CM (.row j v n) e none (some (.int r b)) k = ((e ≠ 0 ∧ 0 ≤ b ∧ b ≤ n) ∧ k (.row j v b.toNat)) := by simp [CM, Fi, Dy, A0, AE.ev, AV.isInt, AV.num]

/-! slices made, appends -/
def Fk (F : Nat → AV) (esz : Nat) (es : List AV) (ps : List (Nat × AE)) (k : List AV → Prop) : Prop := DG F esz es ps k
theorem QN (F : Nat → AV) (esz : Nat) (es : List AV) (k : List AV → Prop) : Fk F esz es [] k = k es := eqq rfl
def GS (x : AV) (F : Nat → AV) (esz i : Nat) (es : List AV) (ps : List (Nat × AE)) (k : List AV → Prop) : Prop := (x.ok = true ∧ x.cells.length = esz ∧ i < es.length) ∧ Fk F esz (es.set i x) ps k
theorem OI (F : Nat → AV) (esz i : Nat) (x : AE) (es : List AV) (ps : List (Nat × AE)) (k : List AV → Prop) : Fk F esz es ((i, x) :: ps) k = GS (x.ev F) F esz i es ps k := eqq rfl
theorem QP (cs : List AV) (F : Nat → AV) (esz i : Nat) (es : List AV) (ps : List (Nat × AE)) (k : List AV → Prop) : GS (.agg cs) F esz i es ps k = ((cs.length = esz ∧ i < es.length) ∧ Fk F esz (es.set i (.agg cs)) ps k) := by simp [GS, AV.ok, AV.one, AV.isAgg, AV.cells]
theorem QO (x : AV) (h : x.one = true) (F : Nat → AV) (esz i : Nat) (es : List AV) (ps : List (Nat × AE)) (k : List AV → Prop) : GS x F esz i es ps k = ((1 = esz ∧ i < es.length) ∧ Fk F esz (es.set i x) ps k) := by simp [GS, AV.ok, h, Gj h]
theorem W0 (F : Nat → AV) (m : Nat) (z : AV) (ps : List (Nat × AE)) : (IOp.slP m z ps).sem P F hp K = Bd (fun k => Fk F z.cells.length (List.replicate m z) ps fun es => k (.sl (es.map (AV.pur hp)))) (fun v => K v hp) ⟨⟩ := eqq rfl
theorem SE (F : Nat → AV) (op : BinOp) (x y : AE) : (IOp.Wp op x y).sem P F hp K = Bd (fun k => LM op (x.ev F) (y.ev F) k) (fun v => K v hp) ⟨⟩ := eqq rfl
theorem W2 (F : Nat → AV) (m : Nat) (z : AV) (ps : List (Nat × AE)) : (IOp.slF m z ps).sem P F hp K = Bd (fun k => Fk F z.cells.length (List.replicate m z) ps fun es => es.all AV.plain = true ∧ k (.sl es)) (fun v => K v hp) ⟨⟩ := eqq rfl
theorem Qd : List.all [] AV.plain = true := eqq rfl
theorem NM (x : AV) (r : List AV) : List.all (x :: r) AV.plain = (x.plain && r.all AV.plain) := eqq rfl
theorem Qe (q : IntKind) (n : Int) : (AV.int q n).plain = true := eqq rfl
theorem Qc (s : ByteArray) : (AV.str s).plain = true := eqq rfl
theorem NN (b : Bool) : (AV.bool b).plain = true := eqq rfl
theorem W1 (F : Nat → AV) (j : Nat) (ty : TypeId) (m : Nat) (z : AV) (ps : List (Nat × AE)) : (IOp.slO j ty m z ps).sem P F hp K = Bd2 (fun k => Fk F z.cells.length (List.replicate m z) ps fun es => ∀ v, k (.row j v m) ((j, ⟨v, false, ty, z.cells.length, es⟩) :: hp)) K ⟨⟩ := eqq rfl
def JS (hp : Hp) (j : Nat) (ty : TypeId) (esz bytes : Nat) (s x : AV) (K : AV → Hp → Prop) : Prop := Nb hp j ty esz bytes s ((EX hp x).map (·.map (AV.pur hp))) K
theorem NC (F : Nat → AV) (j : Nat) (ty : TypeId) (e b : Nat) (s x : AE) : (IOp.append j ty e b s x).sem P F hp K = Bd2 (fun k => JS hp j ty e b (s.ev F) (x.ev F) k) K ⟨⟩ := eqq rfl
theorem SG (F : Nat → AV) (j : Nat) (ty : TypeId) (e b : Nat) (s x : AE) : (IOp.R4 j ty e b s x).sem P F hp K = Bd2 (fun k => JS hp j ty e b (s.ev F) (x.ev F) k) (fun r hp' => K (r.pur (Ou r hp')) (Ou r hp')) ⟨⟩ := eqq rfl
theorem T7 (j v n : Nat) : Ou (.row j v n) hp = HP hp j := eqq rfl
def LN (bx : Option Box) (hp : Hp) (j v n : Nat) (ty : TypeId) (esz bytes : Nat) (es : List AV) (K : AV → Hp → Prop) : Prop :=
 match bx with
 | some b => (b.ver = v ∧ b.frz = false ∧ b.ty = ty ∧ b.esz = esz ∧ n ≤ b.es.length ∧ (∀ e ∈ es, e.cells.length = esz) ∧ (n + es.length) * bytes ≤ 140737488355328 ∧ n + es.length ≤ maxLen) ∧
   ∀ v', K (.row j v' (n + es.length)) ((j, ⟨v', false, ty, esz, b.es.take n ++ es⟩) :: hp)
 | none => False
theorem YL (i j v n : Nat) (ty : TypeId) (e b : Nat) (es : List AV) : JS hp i ty e b (.row j v n) (.sl es) K = LN (AA hp j) hp j v n ty e b (es.map (AV.pur hp)) K := by
 unfold JS Nb LN EX; simp only [Option.map_some]; cases AA hp j <;> rfl
theorem LI (i j v n : Nat) (ty : TypeId) (e b : Nat) : JS hp i ty e b (.row j v n) .Aq K = LN (AA hp j) hp j v n ty e b [] K := by
 unfold JS Nb LN EX; simp only [Option.map_some, List.map_nil]; cases AA hp j <;> rfl
theorem U0 (j : Nat) (ty : TypeId) (e b : Nat) (es : List AV) : JS hp j ty e b .Aq (.sl es) K = ((((∀ x ∈ es.map (AV.pur hp), x.cells.length = e) ∧ (es.map (AV.pur hp)).length * b ≤ 140737488355328 ∧ (es.map (AV.pur hp)).length ≤ maxLen)) ∧
  ∀ v, K (.row j v (es.map (AV.pur hp)).length) ((j, ⟨v, false, ty, e, es.map (AV.pur hp)⟩) :: hp)) := rfl
theorem Rc (b : Box) (j v n : Nat) (ty : TypeId) (esz bytes : Nat) (es : List AV) : LN (some b) hp j v n ty esz bytes es K = ((b.ver = v ∧ b.frz = false ∧ b.ty = ty ∧ b.esz = esz ∧ n ≤ b.es.length ∧ (∀ e ∈ es, e.cells.length = esz) ∧ (n + es.length) * bytes ≤ 140737488355328 ∧ n + es.length ≤ maxLen) ∧
   ∀ v', K (.row j v' (n + es.length)) ((j, ⟨v', false, ty, esz, b.es.take n ++ es⟩) :: hp)) := rfl
def Ad3 (x : AV) (j : Nat) (ty : TypeId) (bytes : Nat) (z : AV) (hp : Hp) (K : AV → Hp → Prop) : Prop :=
 match x with
 | .int _ n => (0 ≤ n ∧ n * bytes ≤ 140737488355328) ∧ ∀ v, K (.row j v n.toNat) ((j, ⟨v, false, ty, z.cells.length, List.replicate n.toNat z⟩) :: hp)
 | _ => False
theorem Aag (F : Nat → AV) (j : Nat) (ty : TypeId) (b : Nat) (z : AV) (x : AE) : (IOp.mkSlice j ty b z x).sem P F hp K = Bd2 (fun k => Ad3 (x.ev F) j ty b z hp k) K ⟨⟩ := eqq rfl
theorem AaO (q : IntKind) (n : Int) (j : Nat) (ty : TypeId) (b : Nat) (z : AV) : Ad3 (.int q n) j ty b z hp K = ((0 ≤ n ∧ n * b ≤ 140737488355328) ∧ ∀ v, K (.row j v n.toNat) ((j, ⟨v, false, ty, z.cells.length, List.replicate n.toNat z⟩) :: hp)) := eqq rfl
def AbI (hp : Hp) (x : AV) (k : AV → Prop) : Prop := AbJ (EX hp x) k
theorem W9 (F : Nat → AV) (x : AE) : (IOp.b2s x).sem P F hp K = Bd (fun k => AbI hp (x.ev F) k) (fun v => K v hp) ⟨⟩ := eqq rfl
def AbK (s n : AV) (j : Nat) (ty : TypeId) (bytes : Nat) (z : AV) (hp : Hp) (K : AV → Hp → Prop) : Prop := YS s n bytes fun m => ∀ v, K (.row j v m) ((j, ⟨v, false, ty, z.cells.length, List.replicate m z⟩) :: hp)
theorem SF (F : Nat → AV) (j : Nat) (ty : TypeId) (b : Nat) (z : AV) (s x : AE) : (IOp.U1 j ty b z s x).sem P F hp K = Bd2 (fun k => AbK (s.ev F) (x.ev F) j ty b z hp k) K ⟨⟩ := eqq rfl
theorem Rb (q : IntKind) (n : Int) (j : Nat) (ty : TypeId) (b : Nat) (z : AV) : AbK .Aq (.int q n) j ty b z hp K = ((0 < n ∧ n * b ≤ 140737488355328 ∧ n ≤ 1099511627776) ∧ ∀ v, K (.row j v n.toNat) ((j, ⟨v, false, ty, z.cells.length, List.replicate n.toNat z⟩) :: hp)) := eqq rfl
def AcZ (x : AV) (j : Nat) (ty : TypeId) (hp : Hp) (K : AV → Hp → Prop) : Prop := AcJ x fun s => ∀ v, K (.row j v s.size) ((j, ⟨v, false, ty, 1, J7 s⟩) :: hp)
theorem W3 (F : Nat → AV) (j : Nat) (ty : TypeId) (x : AE) : (IOp.s2b j ty x).sem P F hp K = Bd2 (fun k => AcZ (x.ev F) j ty hp k) K ⟨⟩ := eqq rfl
theorem Xa (s : ByteArray) (j : Nat) (ty : TypeId) : AcZ (.str s) j ty hp K = ∀ v, K (.row j v s.size) ((j, ⟨v, false, ty, 1, J7 s⟩) :: hp) := eqq rfl
theorem W7 (F : Nat → AV) (x : AE) : (IOp.cap x).sem P F hp K = Bd (fun k => AbG (x.ev F) k) (fun v => K v hp) ⟨⟩ := eqq rfl
theorem UB : AbG .Aq k = k (.int .i64 0) := eqq rfl
theorem OU {x : AV} {es : List AV} (l : List UInt8) (h : EX hp x = some es) (he : es = l.map fun b => .int .u8 b.toNat) (hk : k (.str ⟨l.toArray⟩)) : AbI hp x k := by unfold AbI AbJ; rw [h]; exact ⟨l, he, hk⟩

/-! scrutinees decided -/
theorem Qf (t : Bool) (a b : AV) : U6 (.bool t) a b k = Pk t a b k := eqq rfl
theorem UQ (op : BinOp) (q : IntKind) (a b : Int) : LM op (.int q a) (.int q b) k = HX op q a b k := by simp [LM]
theorem YC (op : BinOp) (kd : EqK) (q : IntKind) (a b : Int) : Gb op kd (.int q a) (.int q b) k = HX op q a b k := by simp [Gb]
theorem Yv (op : BinOp) (kd : EqK) (a b : ByteArray) : Gb op kd (.str a) (.str b) k = U4 op a b k := eqq rfl
theorem UP (op : BinOp) (a b : Bool) : Gb op .bool (.bool a) (.bool b) k = DH op (a == b) k := by simp [Gb]
theorem YB (op : BinOp) : Gb op .ptr .DU .DU k = DH op true k := by simp [Gb]
theorem YA (op : BinOp) (cs : List AV) : Gb op .ptr (.obj cs) .DU k = DH op false k := by simp [Gb]
theorem Yz (op : BinOp) (cs : List AV) : Gb op .ptr .DU (.obj cs) k = DH op false k := by simp [Gb]
theorem Yy (op : BinOp) (j v i o : Nat) : Gb op .ptr (.ptr j v i o) .DU k = DH op false k := by simp [Gb]
theorem Yx (op : BinOp) : Gb op .slice .Aq .Aq k = DH op true k := by simp [Gb]
theorem Yw (op : BinOp) (es : List AV) : Gb op .slice (.sl es) .Aq k = (es ≠ [] ∧ DH op false k) := by simp [Gb]
theorem UO (op : BinOp) (ks : List Nat) (xs ys : List AV) : Gb op (.flat ks) (.agg xs) (.agg ys) k = R7 op (Ej ks xs ys) k := by simp [Gb, AbF]
theorem OB (op : BinOp) (b : Bool) : R7 op (some b) k = DH op b k := eqq rfl
theorem Uh : Ej [] [] [] = some true := eqq rfl
theorem Ui (q : IntKind) (a b : Int) (ks : List Nat) (xs ys : List AV) : Ej (1 :: ks) (.int q a :: xs) (.int q b :: ys) = (Ej ks xs ys).map (decide (a = b) && ·) := by simp [Ej]
theorem QG (a b : Bool) (ks : List Nat) (xs ys : List AV) : Ej (0 :: ks) (.bool a :: xs) (.bool b :: ys) = (Ej ks xs ys).map (decide (a = b) && ·) := eqq rfl
theorem Uf (a b : ByteArray) (ks : List Nat) (xs ys : List AV) : Ej (2 :: ks) (.str a :: xs) (.str b :: ys) = (Ej ks xs ys).map (decide (a = b) && ·) := eqq rfl
theorem X7 (q : IntKind) (a b : Int) : HX .add q a b k = (inR q (a + b) ∧ k (.int q (a + b))) := eqq rfl
theorem XR (q : IntKind) (a b : Int) : HX .sub q a b k = (inR q (a - b) ∧ k (.int q (a - b))) := eqq rfl
theorem XV (q : IntKind) (a b : Int) : HX .mul q a b k = (inR q (a * b) ∧ k (.int q (a * b))) := eqq rfl
theorem XT (q : IntKind) (a b : Int) : HX .quo q a b k = ((b ≠ 0 ∧ inR q (a.tdiv b)) ∧ k (.int q (a.tdiv b))) := eqq rfl
theorem XS (q : IntKind) (a b : Int) : HX .rem q a b k = ((b ≠ 0 ∧ inR q (a.tmod b)) ∧ k (.int q (a.tmod b))) := eqq rfl
theorem X0 (q : IntKind) (a b : Int) : HX .eql q a b k = k (.bool (decide (a = b))) := eqq rfl
theorem XU (q : IntKind) (a b : Int) : HX .neq q a b k = k (.bool (!decide (a = b))) := eqq rfl
theorem XW (q : IntKind) (a b : Int) : HX .lss q a b k = k (.bool (decide (a < b))) := eqq rfl
theorem XX (q : IntKind) (a b : Int) : HX .leq q a b k = k (.bool (decide (a ≤ b))) := eqq rfl
theorem XY (q : IntKind) (a b : Int) : HX .gtr q a b k = k (.bool (decide (b < a))) := eqq rfl
theorem XZ (q : IntKind) (a b : Int) : HX .geq q a b k = k (.bool (decide (b ≤ a))) := eqq rfl
theorem WX (a b : ByteArray) : U4 .add a b k = (a.size + b.size ≤ maxLen ∧ k (.str (a ++ b))) := eqq rfl
theorem WW (a b : ByteArray) : U4 .eql a b k = k (.bool (decide (a = b))) := eqq rfl
theorem WU (a b : ByteArray) : U4 .neq a b k = k (.bool (!decide (a = b))) := eqq rfl
theorem WV (a b : ByteArray) : U4 .lss a b k = k (.bool (Op.bytesLess a.toList b.toList)) := eqq rfl
theorem UH (b : Bool) : DH .eql b k = k (.bool b) := eqq rfl
theorem UG (b : Bool) : DH .neq b k = k (.bool (!b)) := eqq rfl
theorem Aaa (b : Bool) : aUn .not (.bool b) k = k (.bool (!b)) := eqq rfl
theorem Aab (q : IntKind) (n : Int) : aUn .neg (.int q n) k = (inR q (-n) ∧ k (.int q (-n))) := eqq rfl
theorem Ts (g : Bool) (n : Nat) (cs : List AV) : Fj hp g n (.obj cs) k = Fp g cs 0 n k := eqq rfl
def Wy (bx : Option Box) (g : Bool) (n v i off : Nat) (k : AV → Prop) : Prop :=
 match bx with
 | some b => (b.ver = v ∧ i < b.es.length) ∧ Fp g (b.es.getD i .top).cells off n k
 | none => False
theorem Tr (g : Bool) (n j v i off : Nat) : Fj hp g n (.ptr j v i off) k = Wy (AA hp j) g n v i off k := by cases h : AA hp j <;> simp [Fj, Wy, h]
theorem N3 (b : Box) (g : Bool) (n v i off : Nat) : Wy (some b) g n v i off k = ((b.ver = v ∧ i < b.es.length) ∧ Fp g (b.es.getD i .top).cells off n k) := eqq rfl
theorem Qi (cs : List AV) (off n : Nat) : Fp true cs off n k = (off + n ≤ cs.length ∧ k (.agg ((cs.drop off).take n))) := eqq rfl
theorem NO (cs : List AV) (off n : Nat) : Fp false cs off n k = (off < cs.length ∧ k (cs.getD off .top)) := eqq rfl
def R5 (bx : Option Box) (hp : Hp) (n j v i off : Nat) (x : AV) (K : Hp → Prop) : Prop :=
 match bx with
 | some b => (b.ver = v ∧ b.frz = false ∧ i < b.es.length ∧ x.ok = true ∧ x.cells.length = n ∧ off + n ≤ (b.es.getD i .top).cells.length) ∧
     K ((j, { b with es := b.es.set i ((b.es.getD i .top).Fl off x.cells) }) :: hp)
 | none => False
theorem PJ (n j v i off : Nat) (x : AV) (K : Hp → Prop) : KO hp n (.ptr j v i off) x K = R5 (AA hp j) hp n j v i off x K := by cases h : AA hp j <;> simp [KO, R5, h]
theorem Mo (b : Box) (n j v i off : Nat) (x : AV) (K : Hp → Prop) : R5 (some b) hp n j v i off x K = ((b.ver = v ∧ b.frz = false ∧ i < b.es.length ∧ x.ok = true ∧ x.cells.length = n ∧ off + n ≤ (b.es.getD i .top).cells.length) ∧
     K ((j, { b with es := b.es.set i ((b.es.getD i .top).Fl off x.cells) }) :: hp)) := rfl
theorem QK (off : Nat) (cs : List AV) : Is off (.obj cs) k = k (.obj (cs.drop off)) := eqq rfl
theorem QJ (off j v i o : Nat) : Is off (.ptr j v i o) k = k (.ptr j v i (o + off)) := eqq rfl
theorem Ym (g : Bool) (off n : Nat) (cs : List AV) : AbE g off n (.agg cs) k = Fp g cs off n k := eqq rfl
theorem TJ (e : Nat) (es : List AV) (q : IntKind) (i : Int) : CU hp e (.sl es) (.int q i) k = ((0 ≤ i ∧ i < es.length ∧ (es.getD i.toNat .top).cells.length = e) ∧ k (.obj (es.getD i.toNat .top).cells)) := eqq rfl
def R6 (bx : Option Box) (e j v n : Nat) (i : Int) (k : AV → Prop) : Prop :=
 match bx with
 | some b => (b.ver = v ∧ b.esz = e ∧ 0 ≤ i ∧ i < n) ∧ k (.ptr j v i.toNat 0)
 | none => False
theorem Qu (e j v n : Nat) (q : IntKind) (i : Int) : CU hp e (.row j v n) (.int q i) k = R6 (AA hp j) e j v n i k := by cases h : AA hp j <;> simp [CU, R6, h]
theorem MJ (b : Box) (e j v n : Nat) (i : Int) : R6 (some b) e j v n i k = ((b.ver = v ∧ b.esz = e ∧ 0 ≤ i ∧ i < n) ∧ k (.ptr j v i.toNat 0)) := eqq rfl
theorem Sl (s : ByteArray) (q : IntKind) (i : Int) : U5 (.str s) (.int q i) k = ((0 ≤ i ∧ i < s.size) ∧ k (.int .u8 (A1 s i.toNat).toNat)) := eqq rfl
theorem XN (s : ByteArray) : Ga true (.str s) k = k (.int .i64 s.size) := by simp [Ga]
theorem AaV (es : List AV) : Ga false (.sl es) k = k (.int .i64 es.length) := by simp [Ga]
theorem XO (j v n : Nat) : Ga false (.row j v n) k = k (.int .i64 n) := by simp [Ga]
theorem Tu : Ga false .Aq k = k (.int .i64 0) := by simp [Ga]
theorem Uw (d q : IntKind) (n : Int) : Va d (.int q n) k = (inR d n ∧ k (.int d n)) := eqq rfl
theorem MQ (i : Nat) (xs : List AV) : GR i (.tup xs) k = (i < xs.length ∧ k (xs.getD i .top)) := eqq rfl
theorem NY (cs : List AV) : F9 (.obj cs) k = k (.obj cs) := eqq rfl
theorem NX (j v i o : Nat) : F9 (.ptr j v i o) k = k (.ptr j v i o) := eqq rfl
theorem Qm (f : FuncId) (cs : List AV) : F9 (.fn f cs) k = k (.fn f cs) := eqq rfl
theorem Xc (F : Nat → AV) (k : List AV → Prop) : BT hp F [] k = k [] := eqq rfl
theorem AcR (F : Nat → AV) (i : Nat) (rs : List FL) (k : List AV → Prop) : BT hp F (.t i :: rs) k = BT hp F rs fun xs => k (F i :: xs) := eqq rfl
theorem AcS (F : Nat → AV) (g : Bool) (n i : Nat) (rs : List FL) (k : List AV → Prop) : BT hp F (.c g n i :: rs) k = Fj hp g n (F i) fun x => BT hp F rs fun xs => k (x :: xs) := eqq rfl
theorem QM (i : Nat) : entry i [] = [] := eqq rfl
theorem OH (i : Nat) (x : AV) (xs : List AV) : entry i (x :: xs) = (i, x) :: entry (i + 1) xs := eqq rfl

/-! reading own rows for good -/
theorem Xi (q : IntKind) (n : Int) : (AV.int q n).pur hp = .int q n := eqq rfl
theorem SP (b : Bool) : (AV.bool b).pur hp = .bool b := eqq rfl
theorem Xe (s : ByteArray) : (AV.str s).pur hp = .str s := eqq rfl
theorem Aao (es : List AV) : (AV.sl es).pur hp = .sl es := eqq rfl
theorem Xh (cs : List AV) : (AV.obj cs).pur hp = .obj cs := eqq rfl
theorem SN : AV.Aq.pur hp = .Aq := eqq rfl
theorem SO : AV.DU.pur hp = .DU := eqq rfl
theorem Aaq (f : FuncId) (cs : List AV) : (AV.fn f cs).pur hp = .fn f cs := eqq rfl
theorem Xk (cs : List AV) : (AV.agg cs).pur hp = .agg (cs.map (AV.BB hp)) := eqq rfl
theorem Xd (cs : List AV) : (AV.tup cs).pur hp = .tup (cs.map (AV.BB hp)) := eqq rfl
theorem Xf (j v n : Nat) : (AV.row j v n).pur hp = (AV.row j v n).BB hp := eqq rfl
theorem Xg (j v i o : Nat) : (AV.ptr j v i o).pur hp = (AV.ptr j v i o).BB hp := eqq rfl
theorem S6 (q : IntKind) (n : Int) : (AV.int q n).BB hp = .int q n := eqq rfl
theorem Qb (b : Bool) : (AV.bool b).BB hp = .bool b := eqq rfl
theorem S0 (s : ByteArray) : (AV.str s).BB hp = .str s := eqq rfl
theorem Xn (es : List AV) : (AV.sl es).BB hp = .sl es := eqq rfl
theorem S5 (cs : List AV) : (AV.obj cs).BB hp = .obj cs := eqq rfl
theorem P9 : AV.Aq.BB hp = .Aq := eqq rfl
theorem Qa : AV.DU.BB hp = .DU := eqq rfl
theorem Xo (f : FuncId) (cs : List AV) : (AV.fn f cs).BB hp = .fn f cs := eqq rfl
theorem S7 (cs : List AV) : (AV.agg cs).BB hp = .agg cs := eqq rfl
def SQ (bx : Option Box) (j v n : Nat) : AV :=
 match bx with
 | some b => if b.ver = v ∧ b.frz = true ∧ n ≤ b.es.length then .sl (b.es.take n) else .row j v n
 | none => .row j v n
theorem S3 (j v n : Nat) : (AV.row j v n).BB hp = SQ (AA hp j) j v n := eqq rfl
theorem P0 (b : Box) (j v n : Nat) : SQ (some b) j v n = if b.ver = v ∧ b.frz = true ∧ n ≤ b.es.length then .sl (b.es.take n) else .row j v n := eqq rfl
theorem P3 (j v n : Nat) : SQ none j v n = .row j v n := eqq rfl
def Aar (bx : Option Box) (j v i o : Nat) : AV :=
 match bx with
 | some b => if b.ver = v ∧ b.frz = true ∧ i < b.es.length then .obj ((b.es.getD i .top).cells.drop o) else .ptr j v i o
 | none => .ptr j v i o
theorem S4 (j v i o : Nat) : (AV.ptr j v i o).BB hp = Aar (AA hp j) j v i o := eqq rfl
theorem NH (b : Box) (j v i o : Nat) : Aar (some b) j v i o = if b.ver = v ∧ b.frz = true ∧ i < b.es.length then .obj ((b.es.getD i .top).cells.drop o) else .ptr j v i o := eqq rfl
theorem NI (j v i o : Nat) : Aar none j v i o = .ptr j v i o := eqq rfl
theorem NJ (x : AV) : AV.BB [] x = x := by cases x <;> rfl
theorem DP (l : List AV) : l.map (AV.BB []) = l := by
 have : AV.BB [] = id := funext NJ
 rw [this, List.map_id]
theorem Ng (x : AV) : AV.pur [] x = x := by cases x <;> first | rfl | exact congrArg AV.agg (DP _) | exact congrArg AV.tup (DP _)
theorem MC (l : List AV) : l.map (AV.pur []) = l := by
 have : AV.pur [] = id := funext Ng
 rw [this, List.map_id]
theorem SX (x : AV) : AV.BW [] x = x := by cases x <;> first | rfl | exact Ng _ | exact congrArg (AV.fn _) (DP _) | exact congrArg AV.agg (DP _) | exact congrArg AV.tup (DP _)
theorem Xm (f : FuncId) (cs : List AV) : (AV.fn f cs).BW hp = .fn f (cs.map (AV.BB hp)) := eqq rfl
theorem SY (q : IntKind) (n : Int) : (AV.int q n).BW hp = .int q n := eqq rfl
theorem P8 (b : Bool) : (AV.bool b).BW hp = .bool b := eqq rfl
theorem SR (s : ByteArray) : (AV.str s).BW hp = .str s := eqq rfl
theorem Xl (es : List AV) : (AV.sl es).BW hp = .sl es := eqq rfl
theorem SW (cs : List AV) : (AV.obj cs).BW hp = .obj cs := eqq rfl
theorem P4 : AV.Aq.BW hp = .Aq := eqq rfl
theorem P7 : AV.DU.BW hp = .DU := eqq rfl
theorem SZ (cs : List AV) : (AV.agg cs).BW hp = .agg (cs.map (AV.BB hp)) := eqq rfl
theorem SS (j v n : Nat) : (AV.row j v n).BW hp = (AV.row j v n).BB hp := eqq rfl
theorem SV (j v i o : Nat) : (AV.ptr j v i o).BW hp = (AV.ptr j v i o).BB hp := eqq rfl
theorem Q0 (cs : List AV) : (AV.agg cs).cells = cs := eqq rfl
theorem Xy (q : IntKind) (n : Int) : AV.one (.int q n) = true := eqq rfl
theorem ok_int (q : IntKind) (n : Int) : AV.ok (.int q n) = true := eqq rfl
theorem QZ (q : IntKind) (n : Int) : AV.cells (.int q n) = [.int q n] := eqq rfl
theorem Sq (q : IntKind) (n : Int) (x : AV) : AV.Fl (.int q n) 0 [x] = x := eqq rfl
theorem Tj (b : Bool) : AV.one (.bool b) = true := eqq rfl
theorem XD (b : Bool) : AV.ok (.bool b) = true := eqq rfl
theorem OR (b : Bool) : AV.cells (.bool b) = [.bool b] := eqq rfl
theorem PO (b : Bool) (x : AV) : AV.Fl (.bool b) 0 [x] = x := eqq rfl
theorem Xu (s : ByteArray) : AV.one (.str s) = true := eqq rfl
theorem AaE (s : ByteArray) : AV.ok (.str s) = true := eqq rfl
theorem QU (s : ByteArray) : AV.cells (.str s) = [.str s] := eqq rfl
theorem Sm (s : ByteArray) (x : AV) : AV.Fl (.str s) 0 [x] = x := eqq rfl
theorem AaC (es : List AV) : AV.one (.sl es) = true := eqq rfl
theorem AcV (es : List AV) : AV.ok (.sl es) = true := eqq rfl
theorem Uz (es : List AV) : AV.cells (.sl es) = [.sl es] := eqq rfl
theorem WY (es : List AV) (x : AV) : AV.Fl (.sl es) 0 [x] = x := eqq rfl
theorem Xx (cs : List AV) : AV.one (.obj cs) = true := eqq rfl
theorem AaH (cs : List AV) : AV.ok (.obj cs) = true := eqq rfl
theorem QY (cs : List AV) : AV.cells (.obj cs) = [.obj cs] := eqq rfl
theorem Sp (cs : List AV) (x : AV) : AV.Fl (.obj cs) 0 [x] = x := eqq rfl
theorem Tg  : AV.one (.Aq) = true := eqq rfl
theorem XA  : AV.ok (.Aq) = true := eqq rfl
theorem OO  : AV.cells (.Aq) = [.Aq] := eqq rfl
theorem PL  (x : AV) : AV.Fl (.Aq) 0 [x] = x := eqq rfl
theorem Th  : AV.one (.DU) = true := eqq rfl
theorem XB  : AV.ok (.DU) = true := eqq rfl
theorem OP  : AV.cells (.DU) = [.DU] := eqq rfl
theorem PM  (x : AV) : AV.Fl (.DU) 0 [x] = x := eqq rfl
theorem Ti  : AV.one (.Ie) = true := eqq rfl
theorem XC  : AV.ok (.Ie) = true := eqq rfl
theorem OQ  : AV.cells (.Ie) = [.Ie] := eqq rfl
theorem PN  (x : AV) : AV.Fl (.Ie) 0 [x] = x := eqq rfl
theorem AaD (f : FuncId) (cs : List AV) : AV.one (.fn f cs) = true := eqq rfl
theorem AcW (f : FuncId) (cs : List AV) : AV.ok (.fn f cs) = true := eqq rfl
theorem UA (f : FuncId) (cs : List AV) : AV.cells (.fn f cs) = [.fn f cs] := eqq rfl
theorem WZ (f : FuncId) (cs : List AV) (x : AV) : AV.Fl (.fn f cs) 0 [x] = x := eqq rfl
theorem Xv (j v n : Nat) : AV.one (.row j v n) = true := eqq rfl
theorem AaF (j v n : Nat) : AV.ok (.row j v n) = true := eqq rfl
theorem QW (j v n : Nat) : AV.cells (.row j v n) = [.row j v n] := eqq rfl
theorem Sn (j v n : Nat) (x : AV) : AV.Fl (.row j v n) 0 [x] = x := eqq rfl
theorem Xw (j v i o : Nat) : AV.one (.ptr j v i o) = true := eqq rfl
theorem AaG (j v i o : Nat) : AV.ok (.ptr j v i o) = true := eqq rfl
theorem QX (j v i o : Nat) : AV.cells (.ptr j v i o) = [.ptr j v i o] := eqq rfl
theorem So (j v i o : Nat) (x : AV) : AV.Fl (.ptr j v i o) 0 [x] = x := eqq rfl
theorem AaI (cs : List AV) : AV.ok (.agg cs) = true := eqq rfl
theorem Sr (cs : List AV) (o : Nat) (xs : List AV) : AV.Fl (.agg cs) o xs = .agg (lay cs o xs) := eqq rfl
theorem AaX (cs : List AV) (o : Nat) (xs : List AV) : lay cs o xs = cs.take o ++ xs ++ cs.drop (o + xs.length) := eqq rfl
theorem Um (x : AV) : I6 hp [x] = x.pur hp := eqq rfl
theorem Ul (x y : AV) : I6 hp [x, y] = .tup [x.pur hp, y.pur hp] := eqq rfl
theorem OD (x y z : AV) : I6 hp [x, y, z] = .tup [x.pur hp, y.pur hp, z.pur hp] := eqq rfl
theorem QI : I6 hp [] = .tup [] := eqq rfl
theorem Ya (n : Int) : inR .i64 n = (-9223372036854775808 ≤ n ∧ n ≤ 9223372036854775807) := eqq rfl
theorem Aa5 (n : Int) : inR .u8 n = (0 ≤ n ∧ n ≤ 255) := eqq rfl
end

theorem zA.{u} {p : Prop} (α : Sort u) [Nonempty α] : (α → p) ↔ p := forall_const α
theorem zI.{u} (α : Sort u) : (α → True) = True := implies_true α
theorem zN.{u} {α : Sort u} (a b : α) : (a ≠ b) = ¬(a = b) := ne_eq a b
theorem zE.{u} {α : Sort u} {p : α → Prop} {a' : α} : (∀ a, a = a' → p a) ↔ p a' := forall_eq
theorem SD : type_of% (And.intro (And.intro (And.intro (And.intro (And.intro (And.intro @US @OV) (And.intro @UW (And.intro @UY @YD))) (And.intro (And.intro @NS @NT) (And.intro @NR (And.intro @brt @brf)))) (And.intro (And.intro (And.intro @bnt @bnf) (And.intro @pkt (And.intro @pkf @UX))) (And.intro (And.intro @Q6 (And.intro @Li @Lg)) (And.intro @Lj (And.intro @Lh @UU))))) (And.intro (And.intro (And.intro (And.intro @Q5 @Le) (And.intro @Ld (And.intro @Lf @YE))) (And.intro (And.intro @Mz (And.intro @MA @My)) (And.intro @Ix (And.intro @Lk @UT)))) (And.intro (And.intro (And.intro @PX @NB) (And.intro @Jj (And.intro @MB @Xt))) (And.intro (And.intro @Xs (And.intro @Tf @Qj)) (And.intro @NU (And.intro @AdX @AdZ)))))) (And.intro (And.intro (And.intro (And.intro (And.intro @AdY @Yo) (And.intro @Yn (And.intro @Ye @Yd))) (And.intro (And.intro @TP (And.intro @W4 @Su)) (And.intro @W8 (And.intro @SC @Aae)))) (And.intro (And.intro (And.intro @Sz @SA) (And.intro @PZ (And.intro @PS @Sw))) (And.intro (And.intro @PQ (And.intro @PV @W6)) (And.intro @PU (And.intro @NA @Ss))))) (And.intro (And.intro (And.intro (And.intro @W5 @Sx) (And.intro @Mv (And.intro @Ny @PT))) (And.intro (And.intro @Sv (And.intro @Sy @PY)) (And.intro @PW (And.intro @Aaf @PR)))) (And.intro (And.intro (And.intro @W0 @SE) (And.intro @W2 (And.intro @W1 @NC))) (And.intro (And.intro @SG (And.intro @Aag @W9)) (And.intro @SF (And.intro @W3 @W7))))))) := (And.intro (And.intro (And.intro (And.intro (And.intro (And.intro @US @OV) (And.intro @UW (And.intro @UY @YD))) (And.intro (And.intro @NS @NT) (And.intro @NR (And.intro @brt @brf)))) (And.intro (And.intro (And.intro @bnt @bnf) (And.intro @pkt (And.intro @pkf @UX))) (And.intro (And.intro @Q6 (And.intro @Li @Lg)) (And.intro @Lj (And.intro @Lh @UU))))) (And.intro (And.intro (And.intro (And.intro @Q5 @Le) (And.intro @Ld (And.intro @Lf @YE))) (And.intro (And.intro @Mz (And.intro @MA @My)) (And.intro @Ix (And.intro @Lk @UT)))) (And.intro (And.intro (And.intro @PX @NB) (And.intro @Jj (And.intro @MB @Xt))) (And.intro (And.intro @Xs (And.intro @Tf @Qj)) (And.intro @NU (And.intro @AdX @AdZ)))))) (And.intro (And.intro (And.intro (And.intro (And.intro @AdY @Yo) (And.intro @Yn (And.intro @Ye @Yd))) (And.intro (And.intro @TP (And.intro @W4 @Su)) (And.intro @W8 (And.intro @SC @Aae)))) (And.intro (And.intro (And.intro @Sz @SA) (And.intro @PZ (And.intro @PS @Sw))) (And.intro (And.intro @PQ (And.intro @PV @W6)) (And.intro @PU (And.intro @NA @Ss))))) (And.intro (And.intro (And.intro (And.intro @W5 @Sx) (And.intro @Mv (And.intro @Ny @PT))) (And.intro (And.intro @Sv (And.intro @Sy @PY)) (And.intro @PW (And.intro @Aaf @PR)))) (And.intro (And.intro (And.intro @W0 @SE) (And.intro @W2 (And.intro @W1 @NC))) (And.intro (And.intro @SG (And.intro @Aag @W9)) (And.intro @SF (And.intro @W3 @W7)))))))
theorem SU0 : type_of% (And.intro (And.intro (And.intro (And.intro (And.intro (And.intro (And.intro @Aei (And.intro @AbT @AbS)) (And.intro (And.intro @Vp @Ac5) (And.intro @YY @YX))) (And.intro (And.intro (And.intro @YZ @Rn) (And.intro @Abr @Abt)) (And.intro (And.intro @Aau @O7) (And.intro @Ow @QE)))) (And.intro (And.intro (And.intro (And.intro @Ok @ML) (And.intro @Ov @Gh)) (And.intro (And.intro @Yf @Oo) (And.intro @Oq @Ub))) (And.intro (And.intro (And.intro @QF @TL) (And.intro @L4 @TK)) (And.intro (And.intro @Qv @Oh) (And.intro @Oi @Qw))))) (And.intro (And.intro (And.intro (And.intro @KG (And.intro @MX @MV)) (And.intro (And.intro @LJ @O4) (And.intro @WT @UN))) (And.intro (And.intro (And.intro @UJ @UM) (And.intro @UL @UK)) (And.intro (And.intro @Vf @Ve) (And.intro @Rj @Vc)))) (And.intro (And.intro (And.intro (And.intro @YQ @Vd) (And.intro @Rh @Ri)) (And.intro (And.intro @YR @Rl) (And.intro @Rk @Pc))) (And.intro (And.intro (And.intro @MZ @M1) (And.intro @M0 @YO)) (And.intro (And.intro @Re @O8) (And.intro @U8 @U7)))))) (And.intro (And.intro (And.intro (And.intro (And.intro @K2 (And.intro @Mq @Mr)) (And.intro (And.intro @Ms @Nu) (And.intro @Nv @K3))) (And.intro (And.intro (And.intro @Mt @QN) (And.intro @OI @QP)) (And.intro (And.intro @QO @Qd) (And.intro @NM @Qe)))) (And.intro (And.intro (And.intro (And.intro @Qc @NN) (And.intro @T7 @YL)) (And.intro (And.intro @LI @U0) (And.intro @Rc @AaO))) (And.intro (And.intro (And.intro @Rb @Xa) (And.intro @UB @Qf)) (And.intro (And.intro @UQ @YC) (And.intro @Yv @UP))))) (And.intro (And.intro (And.intro (And.intro @YB (And.intro @YA @Yz)) (And.intro (And.intro @Yy @Yx) (And.intro @Yw @UO))) (And.intro (And.intro (And.intro @OB @Uh) (And.intro @Ui @QG)) (And.intro (And.intro @Uf @X7) (And.intro @XR @XV)))) (And.intro (And.intro (And.intro (And.intro @XT @XS) (And.intro @X0 @XU)) (And.intro (And.intro @XW @XX) (And.intro @XY @XZ))) (And.intro (And.intro (And.intro @WX @WW) (And.intro @WU @WV)) (And.intro (And.intro @UH @UG) (And.intro @Aaa @Aab))))))) (And.intro (And.intro (And.intro (And.intro (And.intro (And.intro @Ts (And.intro @Tr @N3)) (And.intro (And.intro @Qi @NO) (And.intro @PJ @Mo))) (And.intro (And.intro (And.intro @QK @QJ) (And.intro @Ym @TJ)) (And.intro (And.intro @Qu @MJ) (And.intro @Sl @XN)))) (And.intro (And.intro (And.intro (And.intro @AaV @XO) (And.intro @Tu @Uw)) (And.intro (And.intro @MQ @NY) (And.intro @NX @Qm))) (And.intro (And.intro (And.intro @Xc @AcR) (And.intro @AcS @QM)) (And.intro (And.intro @OH @Xi) (And.intro @SP @Xe))))) (And.intro (And.intro (And.intro (And.intro @Aao (And.intro @Xh @SN)) (And.intro (And.intro @SO @Aaq) (And.intro @Xk @Xd))) (And.intro (And.intro (And.intro @Xf @Xg) (And.intro @S6 @Qb)) (And.intro (And.intro @S0 @Xn) (And.intro @S5 @P9)))) (And.intro (And.intro (And.intro (And.intro @Qa @Xo) (And.intro @S7 @S3)) (And.intro (And.intro @P0 @P3) (And.intro @S4 @NH))) (And.intro (And.intro (And.intro @NI @NJ) (And.intro @DP @Ng)) (And.intro (And.intro @MC @SX) (And.intro @Xm @SY)))))) (And.intro (And.intro (And.intro (And.intro (And.intro @P8 (And.intro @SR @Xl)) (And.intro (And.intro @SW @P4) (And.intro @P7 @SZ))) (And.intro (And.intro (And.intro @SS @SV) (And.intro @Q0 @Xy)) (And.intro (And.intro @ok_int @QZ) (And.intro @Sq @Tj)))) (And.intro (And.intro (And.intro (And.intro @XD @OR) (And.intro @PO @Xu)) (And.intro (And.intro @AaE @QU) (And.intro @Sm @AaC))) (And.intro (And.intro (And.intro @AcV @Uz) (And.intro @WY @Xx)) (And.intro (And.intro @AaH @QY) (And.intro @Sp @Tg))))) (And.intro (And.intro (And.intro (And.intro (And.intro @XA @OO) (And.intro @PL @Th)) (And.intro (And.intro @XB @OP) (And.intro @PM @Ti))) (And.intro (And.intro (And.intro @XC @OQ) (And.intro @PN @AaD)) (And.intro (And.intro @AcW @UA) (And.intro @WZ @Xv)))) (And.intro (And.intro (And.intro (And.intro @AaF @QW) (And.intro @Sn @Xw)) (And.intro (And.intro @AaG @QX) (And.intro @So @AaI))) (And.intro (And.intro (And.intro @Sr @AaX) (And.intro @Um @Ul)) (And.intro (And.intro @OD @QI) (And.intro @Ya @Aa5)))))))) := (And.intro (And.intro (And.intro (And.intro (And.intro (And.intro (And.intro @Aei (And.intro @AbT @AbS)) (And.intro (And.intro @Vp @Ac5) (And.intro @YY @YX))) (And.intro (And.intro (And.intro @YZ @Rn) (And.intro @Abr @Abt)) (And.intro (And.intro @Aau @O7) (And.intro @Ow @QE)))) (And.intro (And.intro (And.intro (And.intro @Ok @ML) (And.intro @Ov @Gh)) (And.intro (And.intro @Yf @Oo) (And.intro @Oq @Ub))) (And.intro (And.intro (And.intro @QF @TL) (And.intro @L4 @TK)) (And.intro (And.intro @Qv @Oh) (And.intro @Oi @Qw))))) (And.intro (And.intro (And.intro (And.intro @KG (And.intro @MX @MV)) (And.intro (And.intro @LJ @O4) (And.intro @WT @UN))) (And.intro (And.intro (And.intro @UJ @UM) (And.intro @UL @UK)) (And.intro (And.intro @Vf @Ve) (And.intro @Rj @Vc)))) (And.intro (And.intro (And.intro (And.intro @YQ @Vd) (And.intro @Rh @Ri)) (And.intro (And.intro @YR @Rl) (And.intro @Rk @Pc))) (And.intro (And.intro (And.intro @MZ @M1) (And.intro @M0 @YO)) (And.intro (And.intro @Re @O8) (And.intro @U8 @U7)))))) (And.intro (And.intro (And.intro (And.intro (And.intro @K2 (And.intro @Mq @Mr)) (And.intro (And.intro @Ms @Nu) (And.intro @Nv @K3))) (And.intro (And.intro (And.intro @Mt @QN) (And.intro @OI @QP)) (And.intro (And.intro @QO @Qd) (And.intro @NM @Qe)))) (And.intro (And.intro (And.intro (And.intro @Qc @NN) (And.intro @T7 @YL)) (And.intro (And.intro @LI @U0) (And.intro @Rc @AaO))) (And.intro (And.intro (And.intro @Rb @Xa) (And.intro @UB @Qf)) (And.intro (And.intro @UQ @YC) (And.intro @Yv @UP))))) (And.intro (And.intro (And.intro (And.intro @YB (And.intro @YA @Yz)) (And.intro (And.intro @Yy @Yx) (And.intro @Yw @UO))) (And.intro (And.intro (And.intro @OB @Uh) (And.intro @Ui @QG)) (And.intro (And.intro @Uf @X7) (And.intro @XR @XV)))) (And.intro (And.intro (And.intro (And.intro @XT @XS) (And.intro @X0 @XU)) (And.intro (And.intro @XW @XX) (And.intro @XY @XZ))) (And.intro (And.intro (And.intro @WX @WW) (And.intro @WU @WV)) (And.intro (And.intro @UH @UG) (And.intro @Aaa @Aab))))))) (And.intro (And.intro (And.intro (And.intro (And.intro (And.intro @Ts (And.intro @Tr @N3)) (And.intro (And.intro @Qi @NO) (And.intro @PJ @Mo))) (And.intro (And.intro (And.intro @QK @QJ) (And.intro @Ym @TJ)) (And.intro (And.intro @Qu @MJ) (And.intro @Sl @XN)))) (And.intro (And.intro (And.intro (And.intro @AaV @XO) (And.intro @Tu @Uw)) (And.intro (And.intro @MQ @NY) (And.intro @NX @Qm))) (And.intro (And.intro (And.intro @Xc @AcR) (And.intro @AcS @QM)) (And.intro (And.intro @OH @Xi) (And.intro @SP @Xe))))) (And.intro (And.intro (And.intro (And.intro @Aao (And.intro @Xh @SN)) (And.intro (And.intro @SO @Aaq) (And.intro @Xk @Xd))) (And.intro (And.intro (And.intro @Xf @Xg) (And.intro @S6 @Qb)) (And.intro (And.intro @S0 @Xn) (And.intro @S5 @P9)))) (And.intro (And.intro (And.intro (And.intro @Qa @Xo) (And.intro @S7 @S3)) (And.intro (And.intro @P0 @P3) (And.intro @S4 @NH))) (And.intro (And.intro (And.intro @NI @NJ) (And.intro @DP @Ng)) (And.intro (And.intro @MC @SX) (And.intro @Xm @SY)))))) (And.intro (And.intro (And.intro (And.intro (And.intro @P8 (And.intro @SR @Xl)) (And.intro (And.intro @SW @P4) (And.intro @P7 @SZ))) (And.intro (And.intro (And.intro @SS @SV) (And.intro @Q0 @Xy)) (And.intro (And.intro @ok_int @QZ) (And.intro @Sq @Tj)))) (And.intro (And.intro (And.intro (And.intro @XD @OR) (And.intro @PO @Xu)) (And.intro (And.intro @AaE @QU) (And.intro @Sm @AaC))) (And.intro (And.intro (And.intro @AcV @Uz) (And.intro @WY @Xx)) (And.intro (And.intro @AaH @QY) (And.intro @Sp @Tg))))) (And.intro (And.intro (And.intro (And.intro (And.intro @XA @OO) (And.intro @PL @Th)) (And.intro (And.intro @XB @OP) (And.intro @PM @Ti))) (And.intro (And.intro (And.intro @XC @OQ) (And.intro @PN @AaD)) (And.intro (And.intro @AcW @UA) (And.intro @WZ @Xv)))) (And.intro (And.intro (And.intro (And.intro @AaF @QW) (And.intro @Sn @Xw)) (And.intro (And.intro @AaG @QX) (And.intro @So @AaI))) (And.intro (And.intro (And.intro @Sr @AaX) (And.intro @Um @Ul)) (And.intro (And.intro @OD @QI) (And.intro @Ya @Aa5))))))))
theorem SB : type_of% (And.intro (And.intro (And.intro (And.intro (And.intro (And.intro @List.map_cons.{0,0} @List.map_nil.{0,0}) (And.intro @List.drop_succ_cons.{0} @List.drop_zero.{0})) (And.intro (And.intro @List.take_succ_cons.{0} @List.take_zero.{0}) (And.intro @List.take_nil.{0} @List.drop_nil.{0}))) (And.intro (And.intro (And.intro @List.getD_cons_zero.{0} @List.getD_cons_succ.{0}) (And.intro @List.length_cons.{0} @List.length_nil.{0})) (And.intro (And.intro @List.cons_append.{0} @List.nil_append.{0}) (And.intro @List.append_nil.{0} (And.intro @List.replicate_succ.{0} @List.replicate_zero.{0}))))) (And.intro (And.intro (And.intro (And.intro @List.set_cons_zero.{0} @List.set_cons_succ.{0}) (And.intro @Option.map_some.{0,0} @Option.map_none.{0,0})) (And.intro (And.intro @Nat.add_zero @Nat.zero_add) (And.intro @decide_eq_true_eq (And.intro @decide_eq_false_iff_not @Bool.not_eq_true')))) (And.intro (And.intro (And.intro @Bool.not_eq_false' @Bool.not_true) (And.intro @Bool.not_false @true_and)) (And.intro (And.intro @and_true @not_false_eq_true) (And.intro @not_true_eq_false (And.intro @Int.toNat_natCast @Nat.lt_add_one)))))) (And.intro (And.intro (And.intro (And.intro (And.intro @Bool.decide_eq_true @Bool.true_eq_false) (And.intro @Bool.false_eq_true @false_implies)) (And.intro (And.intro @true_implies @List.mem_cons.{0}) (And.intro @List.not_mem_nil.{0} @or_false))) (And.intro (And.intro (And.intro @Int.ofNat_lt @Int.ofNat_le) (And.intro @Int.natCast_inj @Int.natCast_zero)) (And.intro (And.intro @Int.natCast_one @Int.cast_ofNat_Int) (And.intro @Int.natCast_nonneg (And.intro @Nat.zero_le @Nat.le_refl))))) (And.intro (And.intro (And.intro (And.intro @List.contains_nil.{0} @List.contains_cons.{0}) (And.intro @Bool.or_false @Bool.or_true)) (And.intro (And.intro @Bool.false_or @Bool.true_or) (And.intro @decide_true (And.intro @decide_false @Bool.false_and)))) (And.intro (And.intro (And.intro @Bool.true_and @Bool.and_true) (And.intro @Bool.and_false @zA.{0})) (And.intro (And.intro @zA.{1} @zI.{0}) (And.intro @zI.{1} (And.intro @zN.{1} @zE.{1}))))))) := (And.intro (And.intro (And.intro (And.intro (And.intro (And.intro @List.map_cons.{0,0} @List.map_nil.{0,0}) (And.intro @List.drop_succ_cons.{0} @List.drop_zero.{0})) (And.intro (And.intro @List.take_succ_cons.{0} @List.take_zero.{0}) (And.intro @List.take_nil.{0} @List.drop_nil.{0}))) (And.intro (And.intro (And.intro @List.getD_cons_zero.{0} @List.getD_cons_succ.{0}) (And.intro @List.length_cons.{0} @List.length_nil.{0})) (And.intro (And.intro @List.cons_append.{0} @List.nil_append.{0}) (And.intro @List.append_nil.{0} (And.intro @List.replicate_succ.{0} @List.replicate_zero.{0}))))) (And.intro (And.intro (And.intro (And.intro @List.set_cons_zero.{0} @List.set_cons_succ.{0}) (And.intro @Option.map_some.{0,0} @Option.map_none.{0,0})) (And.intro (And.intro @Nat.add_zero @Nat.zero_add) (And.intro @decide_eq_true_eq (And.intro @decide_eq_false_iff_not @Bool.not_eq_true')))) (And.intro (And.intro (And.intro @Bool.not_eq_false' @Bool.not_true) (And.intro @Bool.not_false @true_and)) (And.intro (And.intro @and_true @not_false_eq_true) (And.intro @not_true_eq_false (And.intro @Int.toNat_natCast @Nat.lt_add_one)))))) (And.intro (And.intro (And.intro (And.intro (And.intro @Bool.decide_eq_true @Bool.true_eq_false) (And.intro @Bool.false_eq_true @false_implies)) (And.intro (And.intro @true_implies @List.mem_cons.{0}) (And.intro @List.not_mem_nil.{0} @or_false))) (And.intro (And.intro (And.intro @Int.ofNat_lt @Int.ofNat_le) (And.intro @Int.natCast_inj @Int.natCast_zero)) (And.intro (And.intro @Int.natCast_one @Int.cast_ofNat_Int) (And.intro @Int.natCast_nonneg (And.intro @Nat.zero_le @Nat.le_refl))))) (And.intro (And.intro (And.intro (And.intro @List.contains_nil.{0} @List.contains_cons.{0}) (And.intro @Bool.or_false @Bool.or_true)) (And.intro (And.intro @Bool.false_or @Bool.true_or) (And.intro @decide_true (And.intro @decide_false @Bool.false_and)))) (And.intro (And.intro (And.intro @Bool.true_and @Bool.and_true) (And.intro @Bool.and_false @zA.{0})) (And.intro (And.intro @zA.{1} @zI.{0}) (And.intro @zI.{1} (And.intro @zN.{1} @zE.{1})))))))

theorem SU : type_of% (And.intro SU0 SB) := And.intro SU0 SB
end Go.Proofs.YteeiaaogmjbcjaaGreat.Av
