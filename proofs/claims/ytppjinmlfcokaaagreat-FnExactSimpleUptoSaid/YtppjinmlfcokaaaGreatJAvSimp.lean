/-
 THE RULES BY WHICH AN ABSTRACT TEXT IS CARRIED OUT: for simp. Conditions: none.
-/
import Derived.Test.YtppjinmlfcokaaaGreatJAvDraw
set_option linter.unusedVariables false
namespace Go.Proofs.YtppjinmlfcokaaaGreat.Av
open Go.RowKit

theorem eqq {α : Sort _} {a b : α} (h : a = b) : a = b := h
structure DA {α : Type} (a : α) : Type where
 mk ::
def Bd {α : Type} (m : (α → Prop) → Prop) (k : α → Prop) (h : DA k) : Prop := m k
def Bd2 (m : (AV → Hp → Prop) → Prop) (k : AV → Hp → Prop) (h : DA k) : Prop := m k
theorem AfN {α : Type} (v : α) (K : α → Prop) (h : DA K) : Bd (fun k => k v) K h = K v := eqq rfl
theorem AdJ {α : Type} (A B : (α → Prop) → Prop) (K : α → Prop) (h : DA K) : Bd (fun k => A k ∧ B k) K h = (Bd A K h ∧ Bd B K h) := eqq rfl
theorem AdI {α : Type} (c : Prop) (B : (α → Prop) → Prop) (K : α → Prop) (h : DA K) : Bd (fun k => c → B k) K h = (c → Bd B K h) := eqq rfl
theorem Xr {α : Type} (c : Prop) (K : α → Prop) (h : DA K) : Bd (fun _ => c) K h = c := eqq rfl
theorem AeJ (v : AV) (hp : Hp) (K : AV → Hp → Prop) (h : DA K) : Bd2 (fun k => k v hp) K h = K v hp := eqq rfl
theorem AaE (A B : (AV → Hp → Prop) → Prop) (K : AV → Hp → Prop) (h : DA K) : Bd2 (fun k => A k ∧ B k) K h = (Bd2 A K h ∧ Bd2 B K h) := eqq rfl
theorem AaD (c : Prop) (B : (AV → Hp → Prop) → Prop) (K : AV → Hp → Prop) (h : DA K) : Bd2 (fun k => c → B k) K h = (c → Bd2 B K h) := eqq rfl
theorem AaF {β : Type} (B : β → (AV → Hp → Prop) → Prop) (K : AV → Hp → Prop) (h : DA K) : Bd2 (fun k => ∀ v, B v k) K h = ∀ v, Bd2 (B v) K h := eqq rfl
theorem S7 (c : Prop) (K : AV → Hp → Prop) (h : DA K) : Bd2 (fun _ => c) K h = c := eqq rfl

section
variable (P : Program) (Q : Exit → St → Prop) (fr : List (Nat × AV)) (hp : Hp) (K : AV → Hp → Prop) (k : AV → Prop)

theorem WY (s : St) : awp P .skip Q s = Q .normal s := eqq rfl
theorem QC (l : List B6) (s : St) : awp P (.region l) Q s = BQ P (Q .normal) l s := eqq rfl
theorem W1 (l : List B6) (s : St) : awp P (.draw l) Q s = BQ P (Q .normal) l s := eqq rfl
theorem W3 (a b : BU) (s : St) : awp P (.both a b) Q s = (awp P a Q s ∧ awp P b Q s) := eqq rfl
def Aeu (P : Program) (b : BU) (Q : Exit → St → Prop) : Exit → St → Prop := fun e s' => match e with | .normal => awp P b Q s' | e => Q e s'
theorem Aao (a b : BU) (s : St) : awp P (.seq a b) Q s = awp P a (Aeu P b Q) s := eqq rfl
theorem PK (b : BU) (s : St) : Aeu P b Q .normal s = awp P b Q s := eqq rfl
theorem PL (b : BU) (i : Nat) (s : St) : Aeu P b Q (.exit i) s = Q (.exit i) s := eqq rfl
theorem PJ (b : BU) (s : St) : Aeu P b Q .ret s = Q .ret s := eqq rfl
def Br (b : Bool) (A B : Prop) (h : DA A) (h' : DA B) : Prop := (b = true → A) ∧ (b = false → B)
theorem brt (A B : Prop) (h : DA A) (h' : DA B) : Br true A B h h' = A := propext ⟨fun x => x.1 (eqq rfl), fun x => ⟨fun _ => x, fun e => by cases e⟩⟩
theorem brf (A B : Prop) (h : DA A) (h' : DA B) : Br false A B h h' = B := propext ⟨fun x => x.2 (eqq rfl), fun x => ⟨fun e => (by cases e), fun _ => x⟩⟩
theorem Adp (b : Bool) (A B : Prop) (h : DA A) (h' : DA B) : Br b A B h h' = ((b = true → A) ∧ (b = false → B)) := eqq rfl
def Bn (b : Bool) (A B : Prop) (h : DA A) (h' : DA B) : Prop := (b = false → A) ∧ (b = true → B)
theorem bnt (A B : Prop) (h : DA A) (h' : DA B) : Bn true A B h h' = B := propext ⟨fun x => x.2 (eqq rfl), fun x => ⟨fun e => (by cases e), fun _ => x⟩⟩
theorem bnf (A B : Prop) (h : DA A) (h' : DA B) : Bn false A B h h' = A := propext ⟨fun x => x.1 (eqq rfl), fun x => ⟨fun _ => x, fun e => by cases e⟩⟩
theorem Adq (b : Bool) (A B : Prop) (h : DA A) (h' : DA B) : Bn b A B h h' = ((b = false → A) ∧ (b = true → B)) := eqq rfl
def Pk (t : Bool) (a b : AV) (k : AV → Prop) : Prop := (t = true → k a) ∧ (t = false → k b)
theorem pkt (a b : AV) (k : AV → Prop) : Pk true a b k = k a := propext ⟨fun x => x.1 (eqq rfl), fun x => ⟨fun _ => x, fun e => by cases e⟩⟩
theorem pkf (a b : AV) (k : AV → Prop) : Pk false a b k = k b := propext ⟨fun x => x.2 (eqq rfl), fun x => ⟨fun e => (by cases e), fun _ => x⟩⟩
theorem Acq (t : Bool) (a b : AV) (k : AV → Prop) : Pk t a b k = ((t = true → k a) ∧ (t = false → k b)) := eqq rfl
def AeH (x : AV) (A B : Prop) (h : DA A) (h' : DA B) : Prop :=
 match x with
 | .bool t => (t = true → A) ∧ (t = false → B)
 | _ => False
theorem W2 (c : Au) (a b : BU) (s : St) : awp P (.cond c a b) Q s = AeH (c.ev (Bv s.fr)) (awp P a Q s) (awp P b Q s) ⟨⟩ ⟨⟩ := eqq rfl
theorem QK (t : Bool) (A B : Prop) (h : DA A) (h' : DA B) : AeH (.bool t) A B h h' = Br t A B h h' := eqq rfl
def Mn (id : Nat) (Q : Exit → St → Prop) : Exit → St → Prop := fun e s' => match e with | .exit id' => if id' = id then Q .normal s' else Q (.exit id') s' | e => Q e s'
theorem SQ (id : Nat) (a : BU) (s : St) : awp P (.block id a) Q s = awp P a (Mn id Q) s := eqq rfl
theorem MH (id : Nat) (s : St) : Mn id Q .normal s = Q .normal s := eqq rfl
theorem MF (id : Nat) (s : St) : Mn id Q .ret s = Q .ret s := eqq rfl
theorem MI (id : Nat) (s : St) : Mn id Q (.exit id) s = Q .normal s := by simp [Mn]
theorem MG {i id : Nat} (h : (i == id) = false) (s : St) : Mn id Q (.exit i) s = Q (.exit i) s := by simp [Mn, beq_eq_false_iff_ne.1 h]
theorem W0 (id : Nat) (s : St) : awp P (.exit id) Q s = Q (.exit id) s := eqq rfl
def T8 (Q : Exit → St → Prop) : Exit → St → Prop := fun e s' => match e with | .goto _ => False | e => Q e s'
theorem SP (a : BU) (s : St) : awp P (.scope a) Q s = awp P a (T8 Q) s := eqq rfl
theorem MD (s : St) : T8 Q .normal s = Q .normal s := eqq rfl
theorem MC (s : St) : T8 Q .ret s = Q .ret s := eqq rfl
theorem ME (i : Nat) (s : St) : T8 Q (.exit i) s = Q (.exit i) s := eqq rfl
theorem Aap : awp P .ret Q ⟨fr, hp⟩ = Bd (fun k => k (JN hp)) (fun hp => Q .ret ⟨fr, hp⟩) ⟨⟩ := eqq rfl
theorem Ql : JN [] = [] := eqq rfl
theorem Si (hp : Hp) : JN hp = B3 (D9 hp) (B3 (D9 hp) hp) := eqq rfl
theorem Qc : D9 [] = [] := eqq rfl
theorem Oq (j : Nat) (b : Box) (r : Hp) : D9 ((j, b) :: r) = if (D9 r).contains j then D9 r else j :: D9 r := eqq rfl
theorem Jt (hp : Hp) : B3 [] hp = hp := eqq rfl
theorem ET (j : Nat) (r : List Nat) (hp : Hp) : B3 (j :: r) hp = B3 r (Gt hp j) := eqq rfl
def Ac7 (bx : Option Box) (hp : Hp) (j : Nat) : Hp :=
 match bx with
 | some b => (j, { b with frz := true, es := b.es.map (AV.pur hp) }) :: hp
 | none => hp
theorem Z5 (hp : Hp) (j : Nat) : Gt hp j = Ac7 (An hp j) hp j := eqq rfl
theorem Qe (ver : Nat) (z : Bool) (ty : TypeId) (esz : Nat) (es : List AV) (hp : Hp) (j : Nat) : Ac7 (some ⟨ver, z, ty, esz, es⟩) hp j = (j, ⟨ver, true, ty, esz, es.map (AV.pur hp)⟩) :: hp := eqq rfl
theorem Qf (hp : Hp) (j : Nat) : Ac7 none hp j = hp := eqq rfl
/-! loops -/
def Xo {X : Type} (I : X → St) (pre : X → Prop) (m : X → Nat) (x : X) (Q : Exit → St → Prop) : Exit → St → Prop := fun e s' => match e with | .normal => Af s' (fun t => ∃ x', (pre x' ∧ m x' < m x) ∧ t = I x') | e => Q e s'
theorem Og {X : Type} (I : X → St) (pre : X → Prop) (m : X → Nat) (x : X) (s : St) : Xo I pre m x Q .normal s = Af s (fun t => ∃ x', (pre x' ∧ m x' < m x) ∧ t = I x') := eqq rfl
theorem Oh {X : Type} (I : X → St) (pre : X → Prop) (m : X → Nat) (x : X) (i : Nat) (s : St) : Xo I pre m x Q (.exit i) s = Q (.exit i) s := eqq rfl
theorem Of {X : Type} (I : X → St) (pre : X → Prop) (m : X → Nat) (x : X) (s : St) : Xo I pre m x Q .ret s = Q .ret s := eqq rfl
theorem Am {P : Program} {Q : Exit → St → Prop} {a : BU} {s : St} {X : Type} (I : X → St) (pre : X → Prop) (m : X → Nat) (x0 : X) (h0 : pre x0) (h1 : OR s.fr (I x0).fr) (h2 : Ax s.hp (I x0).hp) (hr : ∀ x, pre x → awp P a (Xo I pre m x Q) (I x)) : awp P (.loop a) Q s :=
 ⟨X, I, pre, m, Af.le ⟨x0, h0, rfl⟩ h1 h2, hr⟩
theorem DL {P : Program} {Q : Exit → St → Prop} {a : BU} {s : St} {X : Type} (I : X → St) (pre : X → Prop) (m : X → Nat) (h0 : Af s (fun t => ∃ x, pre x ∧ t = I x)) (hr : ∀ x, pre x → awp P a (Xo I pre m x Q) (I x)) : awp P (.loop a) Q s :=
 ⟨X, I, pre, m, h0, hr⟩
theorem Ady {X : Type} {I : X → St} {pre : X → Prop} {m : X → Nat} {x : X} {s : St} (x' : X) (h0 : pre x') (hm : m x' < m x) (h1 : OR s.fr (I x').fr) (h2 : Ax s.hp (I x').hp) : Af s (fun t => ∃ x', (pre x' ∧ m x' < m x) ∧ t = I x') :=
 Af.le ⟨x', ⟨h0, hm⟩, rfl⟩ h1 h2
theorem Eh {P : Program} {Q : Exit → St → Prop} {a : BU} {s : St} (h : Af s (fun t => awp P a Q t)) : awp P (.ghost a) Q s := h
theorem Af.here {s : St} {T : St → Prop} (h : T s) : Af s T := ⟨fun _ _ a w hr => ⟨s, h, hr⟩⟩
theorem Wd (s : List (Nat × AV)) : OR s [] = True := eqq rfl
theorem Sj (s : List (Nat × AV)) (i : Nat) (x : AV) (r : List (Nat × AV)) : OR s ((i, x) :: r) = (Bv s i = x ∧ OR s r) := eqq rfl
theorem Nf (s : Hp) : Ax s [] = True := eqq rfl
theorem FG (s : Hp) (i : Nat) (x : Box) (r : Hp) : Ax s ((i, x) :: r) = (An s i = some x ∧ Ax s r) := eqq rfl
/-! a function that is handed own rows -/
def OL (rs : List Gb) (Post : AV → Hp → Prop) (t : St) : Prop := Ce t.hp (Bv t.fr) rs fun xs => ∃ hp', Ax t.hp hp' ∧ Post (Kt t.hp xs) hp'
theorem JW (rs : List Gb) (Post : AV → Hp → Prop) (s : St) : AdH rs Post .normal s = Af s (OL rs Post) := eqq rfl
theorem MJ (rs : List Gb) (Post : AV → Hp → Prop) (s : St) : AdH rs Post .ret s = Af s (OL rs Post) := eqq rfl
theorem Af.post {rs : List Gb} {Post : AV → Hp → Prop} {s : St} (hp' : Hp) (h : Ce s.hp (Bv s.fr) rs fun xs => Ax s.hp hp' ∧ Post (Kt s.hp xs) hp') : Af s (OL rs Post) := by
 refine Af.here ?_
 have : ∀ {l : List Gb} {K K' : List AV → Prop}, (∀ ys, K ys → K' ys) → Ce s.hp (Bv s.fr) l K → Ce s.hp (Bv s.fr) l K' := by
  intro l
  induction l with
  | nil => intro K K' hk h; exact hk _ h
  | cons r l ih =>
   intro K K' hk h
   unfold Ce at h ⊢
   cases r with
   | t i => exact ih (fun ys hy => hk _ hy) h
   | c g n i =>
    simp only [AfJ, F8] at h ⊢
    split at h
    ·unfold Gi at h ⊢; cases g <;> exact ⟨h.1, ih (fun ys hy => hk _ hy) h.2⟩
    ·split at h
     ·refine ⟨h.1, ?_⟩; have h := h.2; unfold Gi at h ⊢; cases g <;> exact ⟨h.1, ih (fun ys hy => hk _ hy) h.2⟩
     ·exact h
    ·exact h
 exact this (fun ys hy => ⟨hp', hy⟩) h
theorem WZ (s : St) : awp P .OO Q s = Q .ret s := eqq rfl
theorem V7 (hp : Hp) : JL [] hp = [] := eqq rfl
def Z1 (bx : Option Box) (j : Nat) (r : Hp) : Hp :=
 match bx with
 | some b => (j, b) :: r
 | none => r
theorem NO (j : Nat) (r : List Nat) (hp : Hp) : JL (j :: r) hp = Z1 (An hp j) j (JL r hp) := by
 unfold JL Z1; rw [List.filterMap_cons]; cases An hp j <;> rfl
theorem L7 (b : Box) (j : Nat) (r : Hp) : Z1 (some b) j r = (j, b) :: r := eqq rfl
theorem Qb (j : Nat) (r : Hp) : Z1 none j r = r := eqq rfl
theorem Sg (hs : List Nat) : B1 hs [] = [] := eqq rfl
theorem L8 (hs : List Nat) (j : Nat) (b : Box) (r : Hp) : B1 hs ((j, b) :: r) = if hs.contains j then B1 hs r else (j, b) :: B1 hs r := by
 unfold B1; rw [List.filter_cons]; cases hs.contains j <;> rfl
def Lx (P : Program) (f : FuncId) (args : List AV) (hp : Hp) (k : AV → Hp → Prop) : Prop := QO P f args hp k
theorem BB {P : Program} {f : FuncId} {args : List AV} {hp hp0 : Hp} {k : AV → Hp → Prop} {Post : AV → Hp → Prop} (hs : List Nat) (h : AU P f args hp0 Post) {kp : DA k} (he : JL hs hp = hp0) (hk : ∀ r hp', Post r hp' → k r (hp' ++ B1 hs hp)) : Bd2 (fun k => Lx P f args hp k) k kp := ⟨hs, Post, .inl ⟨by rw [he]; exact h, hk⟩⟩
theorem YE {P : Program} {f : FuncId} {args args' : List AV} {hp : Hp} {k : AV → Hp → Prop} {Post : AV → Hp → Prop} (ks : List Nat) (h : AU P f args' [] Post) {kp : DA k} (he : args.map (AV.Cf (B3 ks hp)) = args') (hk : ∀ r hp', Post r hp' → (r.free = true ∧ GN hp') ∧ k r (hp' ++ hp)) : Bd2 (fun k => Lx P f args hp k) k kp := ⟨ks, Post, .inr ⟨by rw [he]; exact h, hk⟩⟩
theorem RG (F : Nat → AV) (f : FuncId) (as : List Au) : (IOp.QB f as).sem P F hp K = Bd2 (fun k => Lx P f (as.map fun x => (x.ev F).Cf hp) hp k) K ⟨⟩ := eqq rfl
def Xg (P : Program) (x : AV) (args : List AV) (hp : Hp) (k : AV → Hp → Prop) : Prop := Ny P x args hp k
theorem Ps (F : Nat → AV) (f : Au) (as : List Au) : (IOp.Md f as).sem P F hp K = Bd2 (fun k => Xg P ((f.ev F).Cf hp) (as.map fun x => (x.ev F).Cf hp) hp k) K ⟨⟩ := eqq rfl
theorem OG (f : FuncId) (caps args : List AV) : Xg P (.fn f caps) args hp K = Lx P f (args ++ caps) hp K := eqq rfl
theorem KA (rs : List Gb) (res : AV) (s : St) : Ret rs res .normal s = Ce s.hp (Bv s.fr) rs fun xs => Kt s.hp xs = res := eqq rfl
theorem Oi (rs : List Gb) (res : AV) (s : St) : Ret rs res .ret s = Ce s.hp (Bv s.fr) rs fun xs => Kt s.hp xs = res := eqq rfl

theorem Zn (R : St → Prop) (s : St) : BQ P R [] s = R s := eqq rfl
theorem Zm (R : St → Prop) (d : Nat) (op : IOp) (l : List B6) : BQ P R (⟨some d, none, op⟩ :: l) ⟨fr, hp⟩ = op.sem P (Bv fr) hp fun v hp => BQ P R l ⟨(d, v) :: fr, hp⟩ := eqq rfl
theorem Vo (R : St → Prop) (op : IOp) (l : List B6) : BQ P R (⟨none, none, op⟩ :: l) ⟨fr, hp⟩ = op.sem P (Bv fr) hp fun v hp => BQ P R l ⟨fr, hp⟩ := eqq rfl
def QI (x : AV) (want : Bool) (A B : Prop) (h : DA A) (h' : DA B) : Prop :=
 match x with
 | .bool b => (b = want → A) ∧ (b = (!want) → B)
 | .tup _ => B
 | _ => False
theorem R4 (R : St → Prop) (d t : Nat) (want : Bool) (op : IOp) (l : List B6) : BQ P R (⟨some d, some (t, want), op⟩ :: l) ⟨fr, hp⟩ = QI (Bv fr t) want (op.sem P (Bv fr) hp fun v hp => BQ P R l ⟨(d, v) :: fr, hp⟩) (BQ P R l ⟨(d, .tup []) :: fr, hp⟩) ⟨⟩ ⟨⟩ := eqq rfl
theorem PM (R : St → Prop) (t : Nat) (want : Bool) (op : IOp) (l : List B6) : BQ P R (⟨none, some (t, want), op⟩ :: l) ⟨fr, hp⟩ = QI (Bv fr t) want (op.sem P (Bv fr) hp fun v hp => BQ P R l ⟨fr, hp⟩) (BQ P R l ⟨fr, hp⟩) ⟨⟩ ⟨⟩ := eqq rfl
theorem OD (b : Bool) (A B : Prop) (h : DA A) (h' : DA B) : QI (.bool b) true A B h h' = Br b A B h h' := eqq rfl
theorem Nx (b : Bool) (A B : Prop) (h : DA A) (h' : DA B) : QI (.bool b) false A B h h' = Bn b A B h h' := eqq rfl
theorem QH (xs : List AV) (want : Bool) (A B : Prop) (h : DA A) (h' : DA B) : QI (.tup xs) want A B h h' = B := eqq rfl

theorem AfF (F : Nat → AV) (i : Nat) : Au.ev F (.t i) = F i := eqq rfl
theorem AfH (F : Nat → AV) (x : AV) : Au.ev F (.c x) = x := eqq rfl
theorem AfG (F : Nat → AV) (l : List Nat) : Au.ev F (.s l) = .str (bs l) := eqq rfl
theorem YM : AV.str ⟨⟨[]⟩⟩ = AV.str (bs []) := eqq rfl
theorem Aaa (i : Nat) (x : AV) : Bv ((i, x) :: fr) i = x := by simp [Bv]
theorem Z9 {i j : Nat} (x : AV) (h : (i == j) = false) : Bv ((i, x) :: fr) j = Bv fr j := by simp [Bv, (beq_eq_false_iff_ne.1 h)]
theorem Z3 (i : Nat) (x : Box) : An ((i, x) :: hp) i = some x := by simp [An]
theorem Z2 {i j : Nat} (x : Box) (h : (i == j) = false) : An ((i, x) :: hp) j = An hp j := by simp [An, (beq_eq_false_iff_ne.1 h)]
theorem V8 (i : Nat) : An [] i = none := eqq rfl

theorem YX (F : Nat → AV) (x : Au) : (IOp.mov x).sem P F hp K = Bd (fun k => k (x.ev F)) (fun v => K v hp) ⟨⟩ := eqq rfl
theorem UF (F : Nat → AV) (c a b : Au) : (IOp.pick c a b).sem P F hp K = Bd (fun k => Xb (c.ev F) (a.ev F) (b.ev F) k) (fun v => K v hp) ⟨⟩ := eqq rfl
theorem Y1 (F : Nat → AV) (op : BinOp) (kd : EqK) (x y : Au) : (IOp.bin op kd x y).sem P F hp K = Bd (fun k => Hk op kd (x.ev F) (y.ev F) k) (fun v => K v hp) ⟨⟩ := eqq rfl
theorem UM (F : Nat → AV) (op : BinOp) (x y : Au) : (IOp.Afj op x y).sem P F hp K = Bd (fun k => G9 op (x.ev F) (y.ev F) k) (fun v => K v hp) ⟨⟩ := eqq rfl
theorem WT (q : IntKind) (a b : Int) : G9 .add (.int q a) (.int q b) k = k (.int q (q.wrap (a + b))) := by simp [G9]
theorem WO (q : IntKind) (a b : Int) : G9 .sub (.int q a) (.int q b) k = k (.int q (q.wrap (a - b))) := by simp [G9]
theorem WS (q : IntKind) (a b : Int) : G9 .mul (.int q a) (.int q b) k = k (.int q (q.wrap (a * b))) := by simp [G9]
theorem WR (q r : IntKind) (a b : Int) : G9 .shl (.int q a) (.int r b) k = (0 ≤ b ∧ k (.int q (q.wrap (a * 2 ^ (min b.toNat q.bits))))) := by simp [G9]
theorem WQ (q r : IntKind) (a b : Int) : G9 .shr (.int q a) (.int r b) k = ((0 ≤ b ∧ inR q (a.fdiv (2 ^ (min b.toNat q.bits)))) ∧ k (.int q (a.fdiv (2 ^ (min b.toNat q.bits))))) := by simp [G9]
theorem Ab9 (F : Nat → AV) (op : UnOp) (x : Au) : (IOp.un op x).sem P F hp K = Bd (fun k => aUn op (x.ev F) k) (fun v => K v hp) ⟨⟩ := eqq rfl
def JT (x : AV) (hp : Hp) (k : AV → Prop) : Prop := x.ok = true ∧ k (.obj (x.pur hp).cells)
theorem UK (F : Nat → AV) (x : Au) : (IOp.Aep x).sem P F hp K = Bd (fun k => JT (x.ev F) hp k) (fun v => K v hp) ⟨⟩ := eqq rfl
theorem Xk (cs : List AV) : JT (.agg cs) hp k = k (.obj (cs.map (AV.B7 hp))) := by simp [JT, AV.ok, AV.one, AV.isAgg, AV.pur, AV.cells]
theorem Xj (q : IntKind) (n : Int) : JT (.int q n) hp k = k (.obj [.int q n]) := by simp [JT, AV.ok, AV.one, AV.isAgg, AV.pur, AV.B7, AV.cells]
theorem S4 (b : Bool) : JT (.bool b) hp k = k (.obj [.bool b]) := by simp [JT, AV.ok, AV.one, AV.isAgg, AV.pur, AV.B7, AV.cells]
theorem Xh (s : ByteArray) : JT (.str s) hp k = k (.obj [.str s]) := by simp [JT, AV.ok, AV.one, AV.isAgg, AV.pur, AV.B7, AV.cells]
theorem Aay (es : List AV) : JT (.sl es) hp k = k (.obj [.sl es]) := by simp [JT, AV.ok, AV.one, AV.isAgg, AV.pur, AV.B7, AV.cells]
theorem Xi (cs : List AV) : JT (.obj cs) hp k = k (.obj [.obj cs]) := by simp [JT, AV.ok, AV.one, AV.isAgg, AV.pur, AV.B7, AV.cells]
theorem SZ : JT .Aj hp k = k (.obj [.Aj]) := by simp [JT, AV.ok, AV.one, AV.isAgg, AV.pur, AV.B7, AV.cells]
theorem S3 : JT .Dy hp k = k (.obj [.Dy]) := by simp [JT, AV.ok, AV.one, AV.isAgg, AV.pur, AV.B7, AV.cells]
theorem Aaz (f : FuncId) (cs : List AV) : JT (.fn f cs) hp k = k (.obj [.fn f cs]) := by simp [JT, AV.ok, AV.one, AV.isAgg, AV.pur, AV.B7, AV.cells]
def Xl (x : AV) (n j : Nat) (ty : TypeId) (hp : Hp) (K : AV → Hp → Prop) : Prop := (x.ok = true ∧ x.cells.length = n) ∧ ∀ v, K (.ptr j v 0 0) ((j, ⟨v, false, ty, n, [x]⟩) :: hp)
theorem UL (F : Nat → AV) (j : Nat) (ty : TypeId) (n : Nat) (x : Au) : (IOp.Me j ty n x).sem P F hp K = Bd2 (fun k => Xl (x.ev F) n j ty hp k) K ⟨⟩ := eqq rfl
theorem S6 (cs : List AV) (n j : Nat) (ty : TypeId) : Xl (.agg cs) n j ty hp K = (cs.length = n ∧ ∀ v, K (.ptr j v 0 0) ((j, ⟨v, false, ty, n, [.agg cs]⟩) :: hp)) := by simp [Xl, AV.ok, AV.one, AV.isAgg, AV.cells]
theorem S5 (x : AV) (h : x.one = true) (n j : Nat) (ty : TypeId) : Xl x n j ty hp K = (1 = n ∧ ∀ v, K (.ptr j v 0 0) ((j, ⟨v, false, ty, n, [x]⟩) :: hp)) := by simp [Xl, AV.ok, h, Hq h]
theorem RI (F : Nat → AV) (z : List AV) (ps : List (Nat × Nat × Au)) : (IOp.build z ps).sem P F hp K = Bd (fun k => HU F z ps fun cs => k (.agg cs)) (fun v => K v hp) ⟨⟩ := eqq rfl
theorem QP (F : Nat → AV) (z : List AV) (k : List AV → Prop) : HU F z [] k = k z := eqq rfl
def Nz (x : AV) (F : Nat → AV) (z : List AV) (off n : Nat) (ps : List (Nat × Nat × Au)) (k : List AV → Prop) : Prop := (x.ok = true ∧ x.cells.length = n ∧ off + n ≤ z.length) ∧ HU F (lay z off x.cells) ps k
theorem OI (F : Nat → AV) (z : List AV) (off n : Nat) (x : Au) (ps : List (Nat × Nat × Au)) (k : List AV → Prop) : HU F z ((off, n, x) :: ps) k = Nz (x.ev F) F z off n ps k := eqq rfl
theorem OK (cs : List AV) (F : Nat → AV) (z : List AV) (off n : Nat) (ps : List (Nat × Nat × Au)) (k : List AV → Prop) : Nz (.agg cs) F z off n ps k = ((cs.length = n ∧ off + n ≤ z.length) ∧ HU F (z.take off ++ (cs ++ z.drop (off + cs.length))) ps k) := by simp [Nz, AV.ok, AV.one, AV.isAgg, AV.cells, lay]
theorem OJ (x : AV) (h : x.one = true) (F : Nat → AV) (z : List AV) (off n : Nat) (ps : List (Nat × Nat × Au)) (k : List AV → Prop) : Nz x F z off n ps k = ((1 = n ∧ off + n ≤ z.length) ∧ HU F (z.take off ++ (x :: z.drop (off + 1))) ps k) := by simp [Nz, AV.ok, h, Hq h, lay]
theorem RB (F : Nat → AV) (g : Bool) (n : Nat) (a : Au) : (IOp.VN g n a).sem P F hp K = Bd (fun k => F8 [] g n (a.ev F) k) (fun v => K v hp) ⟨⟩ := eqq rfl
theorem UH (F : Nat → AV) (g : Bool) (n : Nat) (a : Au) : (IOp.load g n a).sem P F hp K = Bd (fun k => F8 hp g n (a.ev F) k) (fun v => K v hp) ⟨⟩ := eqq rfl
theorem Rz (F : Nat → AV) (n : Nat) (a x : Au) : (IOp.store n a x).sem P F hp K = Bd (fun k => Mh hp n (a.ev F) (x.ev F) k) (fun hp => K (.tup []) hp) ⟨⟩ := eqq rfl
theorem RE (F : Nat → AV) (off : Nat) (x : Au) : (IOp.Gh off x).sem P F hp K = Bd (fun k => JS off (x.ev F) k) (fun v => K v hp) ⟨⟩ := eqq rfl
theorem YZ (F : Nat → AV) (g : Bool) (off n : Nat) (x : Au) : (IOp.fld g off n x).sem P F hp K = Bd (fun k => AdA g off n (x.ev F) k) (fun v => K v hp) ⟨⟩ := eqq rfl
theorem RD (F : Nat → AV) (e : Nat) (x i : Au) : (IOp.Iv e x i).sem P F hp K = Bd (fun k => F9 hp e (x.ev F) (i.ev F) k) (fun v => K v hp) ⟨⟩ := eqq rfl
theorem Pr (F : Nat → AV) (e : Nat) (x i : Au) : (IOp.Qa e x i).sem P F hp K = Bd (fun k => F9 [] e (x.ev F) (i.ev F) k) (fun v => K v hp) ⟨⟩ := eqq rfl
theorem UE (F : Nat → AV) (x i : Au) : (IOp.AeQ x i).sem P F hp K = Bd (fun k => Xa (x.ev F) (i.ev F) k) (fun v => K v hp) ⟨⟩ := eqq rfl
theorem YY (F : Nat → AV) (g : Bool) (x : Au) : (IOp.len g x).sem P F hp K = Bd (fun k => Nw g (x.ev F) k) (fun v => K v hp) ⟨⟩ := eqq rfl
theorem UI (F : Nat → AV) (d : IntKind) (x : Au) : (IOp.conv d x).sem P F hp K = Bd (fun k => Xf d (x.ev F) k) (fun v => K v hp) ⟨⟩ := eqq rfl
theorem Ob (F : Nat → AV) (i : Nat) (x : Au) : (IOp.extract i x).sem P F hp K = Bd (fun k => HT i (x.ev F) k) (fun v => K v hp) ⟨⟩ := eqq rfl
theorem Pp (F : Nat → AV) (x : Au) : (IOp.Fz x).sem P F hp K = Bd (fun k => Hi (x.ev F) k) (fun v => K v hp) ⟨⟩ := eqq rfl
def Afm (neg : Bool) (x : AV) (hp : Hp) (K : AV → Hp → Prop) : Prop :=
 match x with
 | .sl es => (es = [] → K (.bool (!neg)) hp) ∧ K (.bool neg) hp
 | .Aj => K (.bool (!neg)) hp
 | _ => False
theorem RC (F : Nat → AV) (neg : Bool) (x : Au) : (IOp.MU neg x).sem P F hp K = Bd2 (fun k => Afm neg (x.ev F) hp k) K ⟨⟩ := eqq rfl
theorem Aaw (neg : Bool) (es : List AV) : Afm neg (.sl es) hp K = ((es = [] → K (.bool (!neg)) hp) ∧ K (.bool neg) hp) := eqq rfl
theorem SW (neg : Bool) : Afm neg .Aj hp K = K (.bool (!neg)) hp := eqq rfl
theorem UG (F : Nat → AV) (f : FuncId) (cs : List Au) : (IOp.Afa f cs).sem P F hp K = Bd (fun k => k (.fn f (cs.map fun x => x.ev F))) (fun v => K v hp) ⟨⟩ := eqq rfl
def QN (P : Program) (f : FuncId) (args : List AV) (hp : Hp) (k : AV → Prop) : Prop := OH P f args hp k
theorem Ab {P : Program} {f : FuncId} {args : List AV} {hp : Hp} {k : AV → Prop} (r : AV) (h : Ak P f args r) {kp : DA k} (hk : k r) : Bd (fun k => QN P f args hp k) k kp := ⟨r, .inl h, hk⟩
theorem Cd {P : Program} {f : FuncId} {args args' : List AV} {hp : Hp} {k : AV → Prop} {r : AV} (ks : List Nat) (h : Ak P f args' r) (hs : r.Ha = true) {kp : DA k} (he : args.map (AV.Cf (B3 ks hp)) = args') (hk : k r) : Bd (fun k => QN P f args hp k) k kp := ⟨r, .inr ⟨ks, by rw [he]; exact h, hs⟩, hk⟩
theorem UJ (F : Nat → AV) (f : FuncId) (as : List Au) : (IOp.call f as).sem P F hp K = Bd (fun k => QN P f (as.map fun x => (x.ev F).Cf hp) hp k) (fun v => K v hp) ⟨⟩ := eqq rfl
theorem RH (F : Nat → AV) (f : FuncId) (as : List Au) : (IOp.WK f as).sem P F hp K = ((∀ hp, (as.map fun x => (x.ev F).Cf hp) = as.map fun x => x.ev F) ∧ Bd (fun k => QN P f (as.map fun x => x.ev F) [] k) (fun v => K v hp) ⟨⟩) := eqq rfl
def Aax (P : Program) (x : AV) (args : List AV) (hp : Hp) (k : AV → Prop) : Prop := T7 P x args hp k
theorem RF (F : Nat → AV) (f : Au) (as : List Au) : (IOp.Adn f as).sem P F hp K = Bd (fun k => Aax P ((f.ev F).Cf hp) (as.map fun x => (x.ev F).Cf hp) hp k) (fun v => K v hp) ⟨⟩ := eqq rfl
theorem QL (f : FuncId) (caps args : List AV) : Aax P (.fn f caps) args hp k = QN P f (args ++ caps) hp k := eqq rfl
def Adz (mx : Bool) (xs : List AV) (k : AV → Prop) : Prop := aMm mx xs k
theorem Aca (F : Nat → AV) (mx : Bool) (xs : List Au) : (IOp.mm mx xs).sem P F hp K = Bd (fun k => Adz mx (xs.map fun x => x.ev F) k) (fun v => K v hp) ⟨⟩ := eqq rfl
theorem Xd (q : IntKind) (a b : Int) : Adz true [.int q a, .int q b] k = k (.int q (max a b)) := by simp [Adz, aMm]
theorem Xc (q : IntKind) (a b : Int) : Adz false [.int q a, .int q b] k = k (.int q (min a b)) := by simp [Adz, aMm]
def Dl (x : AV) (esz : Nat) (lo hi : Option AV) (k : AV → Prop) : Prop := F7 (fun i => if i = 0 then lo.getD .top else hi.getD .top) esz (lo.map fun _ => .t 0) (hi.map fun _ => .t 1) x k
theorem AbK (F : Nat → AV) (x : AV) (esz : Nat) (lo hi : Option Au) : F7 F esz lo hi x k = Dl x esz (lo.map fun x => x.ev F) (hi.map fun x => x.ev F) k := by
 unfold Dl F7
 have h1 : DO F lo = DO (fun i => if i = 0 then (lo.map fun x => x.ev F).getD .top else (hi.map fun x => x.ev F).getD .top) ((lo.map fun x => x.ev F).map fun _ => Au.t 0) := by cases lo <;> rfl
 have h2 : DO F hi = DO (fun i => if i = 0 then (lo.map fun x => x.ev F).getD .top else (hi.map fun x => x.ev F).getD .top) ((hi.map fun x => x.ev F).map fun _ => Au.t 1) := by cases hi <;> rfl
 have h3 : ∀ d, A5 F d lo = A5 (fun i => if i = 0 then (lo.map fun x => x.ev F).getD .top else (hi.map fun x => x.ev F).getD .top) d ((lo.map fun x => x.ev F).map fun _ => Au.t 0) := by intro d; cases lo <;> rfl
 have h4 : ∀ d, A5 F d hi = A5 (fun i => if i = 0 then (lo.map fun x => x.ev F).getD .top else (hi.map fun x => x.ev F).getD .top) d ((hi.map fun x => x.ev F).map fun _ => Au.t 1) := by intro d; cases hi <;> rfl
 have h5 : (lo = none) = (((lo.map fun x => x.ev F).map fun _ => Au.t 0) = none) := by cases lo <;> simp
 simp only [h1, h2, h3, h4, h5]
theorem RA (F : Nat → AV) (e : Nat) (x : Au) (lo hi : Option Au) : (IOp.slice e x lo hi).sem P F hp K = Bd (fun k => Dl (x.ev F) e (lo.map fun x => x.ev F) (hi.map fun x => x.ev F) k) (fun v => K v hp) ⟨⟩ := by simp only [IOp.sem]; exact AbK _ _ _ _ _ _
theorem Mv (s : ByteArray) (q r : IntKind) (a b : Int) : Dl (.str s) 0 (some (.int q a)) (some (.int r b)) k = ((0 ≤ a ∧ a ≤ b ∧ b ≤ s.size) ∧ k (.str (s.extract a.toNat b.toNat))) := by simp [Dl, F7, DO, A5, Au.ev, AV.isInt, AV.num]
theorem N7 (s : ByteArray) (q : IntKind) (a : Int) : Dl (.str s) 0 (some (.int q a)) none k = ((0 ≤ a ∧ a ≤ s.size) ∧ k (.str (s.extract a.toNat s.size))) := by simp [Dl, F7, DO, A5, Au.ev, AV.isInt, AV.num, and_assoc]
theorem N8 (s : ByteArray) (r : IntKind) (b : Int) : Dl (.str s) 0 none (some (.int r b)) k = ((0 ≤ b ∧ b ≤ s.size) ∧ k (.str (s.extract 0 b.toNat))) := by simp [Dl, F7, DO, A5, Au.ev, AV.isInt, AV.num]
theorem N9 (es : List AV) (e : Nat) (q r : IntKind) (a b : Int) : Dl (.sl es) e (some (.int q a)) (some (.int r b)) k = ((e ≠ 0 ∧ 0 ≤ a ∧ a ≤ b ∧ b ≤ es.length ∧ ∀ x ∈ es, x.cells.length = e) ∧ k (.sl ((es.drop a.toNat).take (b.toNat - a.toNat)))) := by simp [Dl, F7, DO, A5, Au.ev, AV.isInt, AV.num]
theorem Pm (es : List AV) (e : Nat) (q : IntKind) (a : Int) : Dl (.sl es) e (some (.int q a)) none k = ((e ≠ 0 ∧ 0 ≤ a ∧ a ≤ es.length ∧ ∀ x ∈ es, x.cells.length = e) ∧ k (.sl ((es.drop a.toNat).take (es.length - a.toNat)))) := by simp [Dl, F7, DO, A5, Au.ev, AV.isInt, AV.num]
theorem Pn (es : List AV) (e : Nat) (r : IntKind) (b : Int) : Dl (.sl es) e none (some (.int r b)) k = ((e ≠ 0 ∧ 0 ≤ b ∧ b ≤ es.length) ∧ k (.sl (es.take b.toNat))) := by simp [Dl, F7, DO, A5, Au.ev, AV.isInt, AV.num]
theorem Mw (e : Nat) (r : IntKind) (b : Int) : Dl .Aj e none (some (.int r b)) k = ((e ≠ 0 ∧ b = 0) ∧ k .Aj) := by simp [Dl, F7, DO, A5, Au.ev, AV.isInt, AV.num]
theorem Oa (j v n e : Nat) (r : IntKind) (b : Int) : Dl (.row j v n) e none (some (.int r b)) k = ((e ≠ 0 ∧ 0 ≤ b ∧ b ≤ n) ∧ k (.row j v b.toNat)) := by simp [Dl, F7, DO, A5, Au.ev, AV.isInt, AV.num]

/-! slices made, appends -/
def Hj (F : Nat → AV) (esz : Nat) (es : List AV) (ps : List (Nat × Au)) (k : List AV → Prop) : Prop := DY F esz es ps k
theorem Su (F : Nat → AV) (esz : Nat) (es : List AV) (k : List AV → Prop) : Hj F esz es [] k = k es := eqq rfl
def Mi (x : AV) (F : Nat → AV) (esz i : Nat) (es : List AV) (ps : List (Nat × Au)) (k : List AV → Prop) : Prop := (x.ok = true ∧ x.cells.length = esz ∧ i < es.length) ∧ Hj F esz (es.set i x) ps k
theorem Qv (F : Nat → AV) (esz i : Nat) (x : Au) (es : List AV) (ps : List (Nat × Au)) (k : List AV → Prop) : Hj F esz es ((i, x) :: ps) k = Mi (x.ev F) F esz i es ps k := eqq rfl
theorem Sw (cs : List AV) (F : Nat → AV) (esz i : Nat) (es : List AV) (ps : List (Nat × Au)) (k : List AV → Prop) : Mi (.agg cs) F esz i es ps k = ((cs.length = esz ∧ i < es.length) ∧ Hj F esz (es.set i (.agg cs)) ps k) := by simp [Mi, AV.ok, AV.one, AV.isAgg, AV.cells]
theorem Sv (x : AV) (h : x.one = true) (F : Nat → AV) (esz i : Nat) (es : List AV) (ps : List (Nat × Au)) (k : List AV → Prop) : Mi x F esz i es ps k = ((1 = esz ∧ i < es.length) ∧ Hj F esz (es.set i x) ps k) := by simp [Mi, AV.ok, h, Hq h]
theorem YT (F : Nat → AV) (m : Nat) (z : AV) (ps : List (Nat × Au)) : (IOp.slP m z ps).sem P F hp K = Bd (fun k => Hj F z.cells.length (List.replicate m z) ps fun es => k (.sl (es.map (AV.pur hp)))) (fun v => K v hp) ⟨⟩ := eqq rfl
theorem UN (F : Nat → AV) (op : BinOp) (x y : Au) : (IOp.Adv op x y).sem P F hp K = Bd (fun k => NA op (x.ev F) (y.ev F) k) (fun v => K v hp) ⟨⟩ := eqq rfl
theorem YV (F : Nat → AV) (m : Nat) (z : AV) (ps : List (Nat × Au)) : (IOp.slF m z ps).sem P F hp K = Bd (fun k => Hj F z.cells.length (List.replicate m z) ps fun es => es.all AV.plain = true ∧ k (.sl es)) (fun v => K v hp) ⟨⟩ := eqq rfl
theorem RX : List.all [] AV.plain = true := eqq rfl
theorem PE (x : AV) (r : List AV) : List.all (x :: r) AV.plain = (x.plain && r.all AV.plain) := eqq rfl
theorem RY (q : IntKind) (n : Int) : (AV.int q n).plain = true := eqq rfl
theorem RV (s : ByteArray) : (AV.str s).plain = true := eqq rfl
theorem PF (b : Bool) : (AV.bool b).plain = true := eqq rfl
theorem YU (F : Nat → AV) (j : Nat) (ty : TypeId) (m : Nat) (z : AV) (ps : List (Nat × Au)) : (IOp.slO j ty m z ps).sem P F hp K = Bd2 (fun k => Hj F z.cells.length (List.replicate m z) ps fun es => ∀ v, k (.row j v m) ((j, ⟨v, false, ty, z.cells.length, es⟩) :: hp)) K ⟨⟩ := eqq rfl
def QQ (hp : Hp) (j : Nat) (ty : TypeId) (esz bytes : Nat) (s x : AV) (K : AV → Hp → Prop) : Prop := Rf hp j ty esz bytes s ((Iy hp x).map (·.map (AV.pur hp))) K
theorem Pt (F : Nat → AV) (j : Nat) (ty : TypeId) (e b : Nat) (s x : Au) : (IOp.append j ty e b s x).sem P F hp K = Bd2 (fun k => QQ hp j ty e b (s.ev F) (x.ev F) k) K ⟨⟩ := eqq rfl
theorem UP (F : Nat → AV) (j : Nat) (ty : TypeId) (e b : Nat) (s x : Au) : (IOp.Yy j ty e b s x).sem P F hp K = Bd2 (fun k => QQ hp j ty e b (s.ev F) (x.ev F) k) (fun r hp' => K (r.pur (Qk r hp')) (Qk r hp')) ⟨⟩ := eqq rfl
theorem Wb (j v n : Nat) : Qk (.row j v n) hp = Gt hp j := eqq rfl
def Xm (bx : Option Box) (hp : Hp) (j v n : Nat) (ty : TypeId) (esz bytes : Nat) (es : List AV) (K : AV → Hp → Prop) : Prop :=
 match bx with
 | some b => (b.ver = v ∧ b.frz = false ∧ b.ty = ty ∧ b.esz = esz ∧ n ≤ b.es.length ∧ (∀ e ∈ es, e.cells.length = esz) ∧ (n + es.length) * bytes ≤ 140737488355328 ∧ n + es.length ≤ maxLen) ∧
   ∀ v', K (.row j v' (n + es.length)) ((j, ⟨v', false, ty, esz, b.es.take n ++ es⟩) :: hp)
 | none => False
theorem Aar (i j v n : Nat) (ty : TypeId) (e b : Nat) (es : List AV) : QQ hp i ty e b (.row j v n) (.sl es) K = Xm (An hp j) hp j v n ty e b (es.map (AV.pur hp)) K := by
 unfold QQ Rf Xm Iy; simp only [Option.map_some]; cases An hp j <;> rfl
theorem W4 (i j v n : Nat) (ty : TypeId) (e b : Nat) : QQ hp i ty e b (.row j v n) .Aj K = Xm (An hp j) hp j v n ty e b [] K := by
 unfold QQ Rf Xm Iy; simp only [Option.map_some, List.map_nil]; cases An hp j <;> rfl
theorem W5 (j : Nat) (ty : TypeId) (e b : Nat) (es : List AV) : QQ hp j ty e b .Aj (.sl es) K = ((((∀ x ∈ es.map (AV.pur hp), x.cells.length = e) ∧ (es.map (AV.pur hp)).length * b ≤ 140737488355328 ∧ (es.map (AV.pur hp)).length ≤ maxLen)) ∧
  ∀ v, K (.row j v (es.map (AV.pur hp)).length) ((j, ⟨v, false, ty, e, es.map (AV.pur hp)⟩) :: hp)) := rfl
theorem SV (b : Box) (j v n : Nat) (ty : TypeId) (esz bytes : Nat) (es : List AV) : Xm (some b) hp j v n ty esz bytes es K = ((b.ver = v ∧ b.frz = false ∧ b.ty = ty ∧ b.esz = esz ∧ n ≤ b.es.length ∧ (∀ e ∈ es, e.cells.length = esz) ∧ (n + es.length) * bytes ≤ 140737488355328 ∧ n + es.length ≤ maxLen) ∧
   ∀ v', K (.row j v' (n + es.length)) ((j, ⟨v', false, ty, esz, b.es.take n ++ es⟩) :: hp)) := rfl
def AfK (x : AV) (j : Nat) (ty : TypeId) (bytes : Nat) (z : AV) (hp : Hp) (K : AV → Hp → Prop) : Prop :=
 match x with
 | .int _ n => (0 ≤ n ∧ n * bytes ≤ 140737488355328) ∧ ∀ v, K (.row j v n.toNat) ((j, ⟨v, false, ty, z.cells.length, List.replicate n.toNat z⟩) :: hp)
 | _ => False
theorem Acb (F : Nat → AV) (j : Nat) (ty : TypeId) (b : Nat) (z : AV) (x : Au) : (IOp.mkSlice j ty b z x).sem P F hp K = Bd2 (fun k => AfK (x.ev F) j ty b z hp k) K ⟨⟩ := eqq rfl
theorem AcK (q : IntKind) (n : Int) (j : Nat) (ty : TypeId) (b : Nat) (z : AV) : AfK (.int q n) j ty b z hp K = ((0 ≤ n ∧ n * b ≤ 140737488355328) ∧ ∀ v, K (.row j v n.toNat) ((j, ⟨v, false, ty, z.cells.length, List.replicate n.toNat z⟩) :: hp)) := eqq rfl
def AdE (hp : Hp) (x : AV) (k : AV → Prop) : Prop := AdF (Iy hp x) k
theorem Y2 (F : Nat → AV) (x : Au) : (IOp.b2s x).sem P F hp K = Bd (fun k => AdE hp (x.ev F) k) (fun v => K v hp) ⟨⟩ := eqq rfl
def AdG (s n : AV) (j : Nat) (ty : TypeId) (bytes : Nat) (z : AV) (hp : Hp) (K : AV → Hp → Prop) : Prop := AaA s n bytes fun m => ∀ v, K (.row j v m) ((j, ⟨v, false, ty, z.cells.length, List.replicate m z⟩) :: hp)
theorem UO (F : Nat → AV) (j : Nat) (ty : TypeId) (b : Nat) (z : AV) (s x : Au) : (IOp.W6 j ty b z s x).sem P F hp K = Bd2 (fun k => AdG (s.ev F) (x.ev F) j ty b z hp k) K ⟨⟩ := eqq rfl
theorem SR (q : IntKind) (n : Int) (j : Nat) (ty : TypeId) (b : Nat) (z : AV) : AdG .Aj (.int q n) j ty b z hp K = ((0 < n ∧ n * b ≤ 140737488355328 ∧ n ≤ 1099511627776) ∧ ∀ v, K (.row j v n.toNat) ((j, ⟨v, false, ty, z.cells.length, List.replicate n.toNat z⟩) :: hp)) := eqq rfl
def AeG (x : AV) (j : Nat) (ty : TypeId) (hp : Hp) (K : AV → Hp → Prop) : Prop := Aer x fun s => ∀ v, K (.row j v s.size) ((j, ⟨v, false, ty, 1, Lv s⟩) :: hp)
theorem YW (F : Nat → AV) (j : Nat) (ty : TypeId) (x : Au) : (IOp.s2b j ty x).sem P F hp K = Bd2 (fun k => AeG (x.ev F) j ty hp k) K ⟨⟩ := eqq rfl
theorem Y3 (s : ByteArray) (j : Nat) (ty : TypeId) : AeG (.str s) j ty hp K = ∀ v, K (.row j v s.size) ((j, ⟨v, false, ty, 1, Lv s⟩) :: hp) := eqq rfl
theorem Y0 (F : Nat → AV) (x : Au) : (IOp.cap x).sem P F hp K = Bd (fun k => AdC (x.ev F) k) (fun v => K v hp) ⟨⟩ := eqq rfl
theorem WE : AdC .Aj k = k (.int .i64 0) := eqq rfl
theorem Afk {x : AV} {es : List AV} (l : List UInt8) (h : Iy hp x = some es) (he : es = l.map fun b => .int .u8 b.toNat) (hk : k (.str ⟨l.toArray⟩)) : AdE hp x k := by unfold AdE AdF; rw [h]; exact ⟨l, he, hk⟩

/-! scrutinees decided -/
theorem RZ (t : Bool) (a b : AV) : Xb (.bool t) a b k = Pk t a b k := eqq rfl
theorem WX (op : BinOp) (q : IntKind) (a b : Int) : NA op (.int q a) (.int q b) k = JA op q a b k := by simp [NA]
theorem Aan (op : BinOp) (kd : EqK) (q : IntKind) (a b : Int) : Hk op kd (.int q a) (.int q b) k = JA op q a b k := by simp [Hk]
theorem Aag (op : BinOp) (kd : EqK) (a b : ByteArray) : Hk op kd (.str a) (.str b) k = W9 op a b k := eqq rfl
theorem WW (op : BinOp) (a b : Bool) : Hk op .bool (.bool a) (.bool b) k = DZ op (a == b) k := by simp [Hk]
theorem Aam (op : BinOp) : Hk op .ptr .Dy .Dy k = DZ op true k := by simp [Hk]
theorem Aal (op : BinOp) (cs : List AV) : Hk op .ptr (.obj cs) .Dy k = DZ op false k := by simp [Hk]
theorem Aak (op : BinOp) (cs : List AV) : Hk op .ptr .Dy (.obj cs) k = DZ op false k := by simp [Hk]
theorem Aaj (op : BinOp) (j v i o : Nat) : Hk op .ptr (.ptr j v i o) .Dy k = DZ op false k := by simp [Hk]
theorem Aai (op : BinOp) : Hk op .slice .Aj .Aj k = DZ op true k := by simp [Hk]
theorem Aah (op : BinOp) (es : List AV) : Hk op .slice (.sl es) .Aj k = (es ≠ [] ∧ DZ op false k) := by simp [Hk]
theorem WV (op : BinOp) (ks : List Nat) (xs ys : List AV) : Hk op (.flat ks) (.agg xs) (.agg ys) k = T6 op (ED ks xs ys) k := by simp [Hk, AdB]
theorem Qo (op : BinOp) (b : Bool) : T6 op (some b) k = DZ op b k := eqq rfl
theorem Wi : ED [] [] [] = some true := eqq rfl
theorem Wj (q : IntKind) (a b : Int) (ks : List Nat) (xs ys : List AV) : ED (1 :: ks) (.int q a :: xs) (.int q b :: ys) = (ED ks xs ys).map (decide (a = b) && ·) := by simp [ED]
theorem Sk (a b : Bool) (ks : List Nat) (xs ys : List AV) : ED (0 :: ks) (.bool a :: xs) (.bool b :: ys) = (ED ks xs ys).map (decide (a = b) && ·) := eqq rfl
theorem Wh (a b : ByteArray) (ks : List Nat) (xs ys : List AV) : ED (2 :: ks) (.str a :: xs) (.str b :: ys) = (ED ks xs ys).map (decide (a = b) && ·) := eqq rfl
theorem ZX (q : IntKind) (a b : Int) : JA .add q a b k = (inR q (a + b) ∧ k (.int q (a + b))) := eqq rfl
theorem ZN (q : IntKind) (a b : Int) : JA .sub q a b k = (inR q (a - b) ∧ k (.int q (a - b))) := eqq rfl
theorem ZR (q : IntKind) (a b : Int) : JA .mul q a b k = (inR q (a * b) ∧ k (.int q (a * b))) := eqq rfl
theorem ZP (q : IntKind) (a b : Int) : JA .quo q a b k = ((b ≠ 0 ∧ inR q (a.tdiv b)) ∧ k (.int q (a.tdiv b))) := eqq rfl
theorem ZO (q : IntKind) (a b : Int) : JA .rem q a b k = ((b ≠ 0 ∧ inR q (a.tmod b)) ∧ k (.int q (a.tmod b))) := eqq rfl
theorem ZW (q : IntKind) (a b : Int) : JA .eql q a b k = k (.bool (decide (a = b))) := eqq rfl
theorem ZQ (q : IntKind) (a b : Int) : JA .neq q a b k = k (.bool (!decide (a = b))) := eqq rfl
theorem ZS (q : IntKind) (a b : Int) : JA .lss q a b k = k (.bool (decide (a < b))) := eqq rfl
theorem ZT (q : IntKind) (a b : Int) : JA .leq q a b k = k (.bool (decide (a ≤ b))) := eqq rfl
theorem ZU (q : IntKind) (a b : Int) : JA .gtr q a b k = k (.bool (decide (b < a))) := eqq rfl
theorem ZV (q : IntKind) (a b : Int) : JA .geq q a b k = k (.bool (decide (b ≤ a))) := eqq rfl
theorem YQ (a b : ByteArray) : W9 .add a b k = (a.size + b.size ≤ maxLen ∧ k (.str (a ++ b))) := eqq rfl
theorem YP (a b : ByteArray) : W9 .eql a b k = k (.bool (decide (a = b))) := eqq rfl
theorem YN (a b : ByteArray) : W9 .neq a b k = k (.bool (!decide (a = b))) := eqq rfl
theorem YO (a b : ByteArray) : W9 .lss a b k = k (.bool (Op.bytesLess a.toList b.toList)) := eqq rfl
theorem WN (b : Bool) : DZ .eql b k = k (.bool b) := eqq rfl
theorem WM (b : Bool) : DZ .neq b k = k (.bool (!b)) := eqq rfl
theorem AbR (b : Bool) : aUn .not (.bool b) k = k (.bool (!b)) := eqq rfl
theorem AbS (q : IntKind) (n : Int) : aUn .neg (.int q n) k = (inR q (-n) ∧ k (.int q (-n))) := eqq rfl
theorem VM (g : Bool) (n : Nat) (cs : List AV) : F8 hp g n (.obj cs) k = Gi g cs 0 n k := eqq rfl
def YC (bx : Option Box) (g : Bool) (n v i off : Nat) (k : AV → Prop) : Prop :=
 match bx with
 | some b => (b.ver = v ∧ i < b.es.length) ∧ Gi g (b.es.getD i .top).cells off n k
 | none => False
theorem VL (g : Bool) (n j v i off : Nat) : F8 hp g n (.ptr j v i off) k = YC (An hp j) g n v i off k := by cases h : An hp j <;> simp [F8, YC, h]
theorem PZ (b : Box) (g : Bool) (n v i off : Nat) : YC (some b) g n v i off k = ((b.ver = v ∧ i < b.es.length) ∧ Gi g (b.es.getD i .top).cells off n k) := eqq rfl
theorem R3 (cs : List AV) (off n : Nat) : Gi true cs off n k = (off + n ≤ cs.length ∧ k (.agg ((cs.drop off).take n))) := eqq rfl
theorem PG (cs : List AV) (off n : Nat) : Gi false cs off n k = (off < cs.length ∧ k (cs.getD off .top)) := eqq rfl
def T4 (bx : Option Box) (hp : Hp) (n j v i off : Nat) (x : AV) (K : Hp → Prop) : Prop :=
 match bx with
 | some b => (b.ver = v ∧ b.frz = false ∧ i < b.es.length ∧ x.ok = true ∧ x.cells.length = n ∧ off + n ≤ (b.es.getD i .top).cells.length) ∧
     K ((j, { b with es := b.es.set i ((b.es.getD i .top).Ht off x.cells) }) :: hp)
 | none => False
theorem Rq (n j v i off : Nat) (x : AV) (K : Hp → Prop) : Mh hp n (.ptr j v i off) x K = T4 (An hp j) hp n j v i off x K := by cases h : An hp j <;> simp [Mh, T4, h]
theorem N4 (b : Box) (n j v i off : Nat) (x : AV) (K : Hp → Prop) : T4 (some b) hp n j v i off x K = ((b.ver = v ∧ b.frz = false ∧ i < b.es.length ∧ x.ok = true ∧ x.cells.length = n ∧ off + n ≤ (b.es.getD i .top).cells.length) ∧
     K ((j, { b with es := b.es.set i ((b.es.getD i .top).Ht off x.cells) }) :: hp)) := rfl
theorem Sn (off : Nat) (cs : List AV) : JS off (.obj cs) k = k (.obj (cs.drop off)) := eqq rfl
theorem Sm (off j v i o : Nat) : JS off (.ptr j v i o) k = k (.ptr j v i (o + off)) := eqq rfl
theorem Z8 (g : Bool) (off n : Nat) (cs : List AV) : AdA g off n (.agg cs) k = Gi g cs off n k := eqq rfl
theorem V6 (e : Nat) (es : List AV) (q : IntKind) (i : Int) : F9 hp e (.sl es) (.int q i) k = ((0 ≤ i ∧ i < es.length ∧ (es.getD i.toNat .top).cells.length = e) ∧ k (.obj (es.getD i.toNat .top).cells)) := eqq rfl
def T5 (bx : Option Box) (e j v n : Nat) (i : Int) (k : AV → Prop) : Prop :=
 match bx with
 | some b => (b.ver = v ∧ b.esz = e ∧ 0 ≤ i ∧ i < n) ∧ k (.ptr j v i.toNat 0)
 | none => False
theorem Sf (e j v n : Nat) (q : IntKind) (i : Int) : F9 hp e (.row j v n) (.int q i) k = T5 (An hp j) e j v n i k := by cases h : An hp j <;> simp [F9, T5, h]
theorem Oo (b : Box) (e j v n : Nat) (i : Int) : T5 (some b) e j v n i k = ((b.ver = v ∧ b.esz = e ∧ 0 ≤ i ∧ i < n) ∧ k (.ptr j v i.toNat 0)) := eqq rfl
theorem Uv (s : ByteArray) (q : IntKind) (i : Int) : Xa (.str s) (.int q i) k = ((0 ≤ i ∧ i < s.size) ∧ k (.int .u8 (DX s i.toNat).toNat)) := eqq rfl
theorem ZI (s : ByteArray) : Nw true (.str s) k = k (.int .i64 s.size) := by simp [Nw]
theorem AcX (es : List AV) : Nw false (.sl es) k = k (.int .i64 es.length) := by simp [Nw]
theorem ZJ (j v n : Nat) : Nw false (.row j v n) k = k (.int .i64 n) := by simp [Nw]
theorem VP : Nw false .Aj k = k (.int .i64 0) := by simp [Nw]
theorem Wy (d q : IntKind) (n : Int) : Xf d (.int q n) k = (inR d n ∧ k (.int d n)) := eqq rfl
theorem Oy (i : Nat) (xs : List AV) : HT i (.tup xs) k = (i < xs.length ∧ k (xs.getD i .top)) := eqq rfl
theorem PT (cs : List AV) : Hi (.obj cs) k = k (.obj cs) := eqq rfl
theorem PS (j v i o : Nat) : Hi (.ptr j v i o) k = k (.ptr j v i o) := eqq rfl
theorem R6 (f : FuncId) (cs : List AV) : Hi (.fn f cs) k = k (.fn f cs) := eqq rfl
theorem Y5 (F : Nat → AV) (k : List AV → Prop) : Ce hp F [] k = k [] := eqq rfl
theorem Aew (F : Nat → AV) (i : Nat) (rs : List Gb) (k : List AV → Prop) : Ce hp F (.t i :: rs) k = Ce hp F rs fun xs => k (F i :: xs) := eqq rfl
theorem Aex (F : Nat → AV) (g : Bool) (n i : Nat) (rs : List Gb) (k : List AV → Prop) : Ce hp F (.c g n i :: rs) k = F8 hp g n (F i) fun x => Ce hp F rs fun xs => k (x :: xs) := eqq rfl
theorem Sr (i : Nat) : entry i [] = [] := eqq rfl
theorem Qu (i : Nat) (x : AV) (xs : List AV) : entry i (x :: xs) = (i, x) :: entry (i + 1) xs := eqq rfl

/-! reading own rows for good -/
theorem Zc (q : IntKind) (n : Int) : (AV.int q n).pur hp = .int q n := eqq rfl
theorem U0 (b : Bool) : (AV.bool b).pur hp = .bool b := eqq rfl
theorem Y8 (s : ByteArray) : (AV.str s).pur hp = .str s := eqq rfl
theorem Acj (es : List AV) : (AV.sl es).pur hp = .sl es := eqq rfl
theorem Zb (cs : List AV) : (AV.obj cs).pur hp = .obj cs := eqq rfl
theorem UY : AV.Aj.pur hp = .Aj := eqq rfl
theorem UZ : AV.Dy.pur hp = .Dy := eqq rfl
theorem Acl (f : FuncId) (cs : List AV) : (AV.fn f cs).pur hp = .fn f cs := eqq rfl
theorem Zd (cs : List AV) : (AV.agg cs).pur hp = .agg (cs.map (AV.B7 hp)) := eqq rfl
theorem Y7 (cs : List AV) : (AV.tup cs).pur hp = .tup (cs.map (AV.B7 hp)) := eqq rfl
theorem Y9 (j v n : Nat) : (AV.row j v n).pur hp = (AV.row j v n).B7 hp := eqq rfl
theorem Za (j v i o : Nat) : (AV.ptr j v i o).pur hp = (AV.ptr j v i o).B7 hp := eqq rfl
theorem Vd (q : IntKind) (n : Int) : (AV.int q n).B7 hp = .int q n := eqq rfl
theorem RU (b : Bool) : (AV.bool b).B7 hp = .bool b := eqq rfl
theorem U9 (s : ByteArray) : (AV.str s).B7 hp = .str s := eqq rfl
theorem Zh (es : List AV) : (AV.sl es).B7 hp = .sl es := eqq rfl
theorem Vc (cs : List AV) : (AV.obj cs).B7 hp = .obj cs := eqq rfl
theorem RS : AV.Aj.B7 hp = .Aj := eqq rfl
theorem RT : AV.Dy.B7 hp = .Dy := eqq rfl
theorem Zi (f : FuncId) (cs : List AV) : (AV.fn f cs).B7 hp = .fn f cs := eqq rfl
theorem Ve (cs : List AV) : (AV.agg cs).B7 hp = .agg cs := eqq rfl
def U1 (bx : Option Box) (j v n : Nat) : AV :=
 match bx with
 | some b => if b.ver = v ∧ b.frz = true ∧ n ≤ b.es.length then .sl (b.es.take n) else .row j v n
 | none => .row j v n
theorem Va (j v n : Nat) : (AV.row j v n).B7 hp = U1 (An hp j) j v n := eqq rfl
theorem RN (b : Box) (j v n : Nat) : U1 (some b) j v n = if b.ver = v ∧ b.frz = true ∧ n ≤ b.es.length then .sl (b.es.take n) else .row j v n := eqq rfl
theorem RO (j v n : Nat) : U1 none j v n = .row j v n := eqq rfl
def Acm (bx : Option Box) (j v i o : Nat) : AV :=
 match bx with
 | some b => if b.ver = v ∧ b.frz = true ∧ i < b.es.length then .obj ((b.es.getD i .top).cells.drop o) else .ptr j v i o
 | none => .ptr j v i o
theorem Vb (j v i o : Nat) : (AV.ptr j v i o).B7 hp = Acm (An hp j) j v i o := eqq rfl
theorem Pz (b : Box) (j v i o : Nat) : Acm (some b) j v i o = if b.ver = v ∧ b.frz = true ∧ i < b.es.length then .obj ((b.es.getD i .top).cells.drop o) else .ptr j v i o := eqq rfl
theorem PA (j v i o : Nat) : Acm none j v i o = .ptr j v i o := eqq rfl
theorem PB (x : AV) : AV.B7 [] x = x := by cases x <;> rfl
theorem D8 (l : List AV) : l.map (AV.B7 []) = l := by
 have : AV.B7 [] = id := funext PB
 rw [this, List.map_id]
theorem OZ (x : AV) : AV.pur [] x = x := by cases x <;> first | rfl | exact congrArg AV.agg (D8 _) | exact congrArg AV.tup (D8 _)
theorem Ok (l : List AV) : l.map (AV.pur []) = l := by
 have : AV.pur [] = id := funext OZ
 rw [this, List.map_id]
theorem U6 (x : AV) : AV.Cf [] x = x := by cases x <;> first | rfl | exact OZ _ | exact congrArg (AV.fn _) (D8 _) | exact congrArg AV.agg (D8 _) | exact congrArg AV.tup (D8 _)
theorem Zf (f : FuncId) (cs : List AV) : (AV.fn f cs).Cf hp = .fn f (cs.map (AV.B7 hp)) := eqq rfl
theorem U7 (q : IntKind) (n : Int) : (AV.int q n).Cf hp = .int q n := eqq rfl
theorem RR (b : Bool) : (AV.bool b).Cf hp = .bool b := eqq rfl
theorem U2 (s : ByteArray) : (AV.str s).Cf hp = .str s := eqq rfl
theorem Ze (es : List AV) : (AV.sl es).Cf hp = .sl es := eqq rfl
theorem U5 (cs : List AV) : (AV.obj cs).Cf hp = .obj cs := eqq rfl
theorem RP : AV.Aj.Cf hp = .Aj := eqq rfl
theorem RQ : AV.Dy.Cf hp = .Dy := eqq rfl
theorem U8 (cs : List AV) : (AV.agg cs).Cf hp = .agg (cs.map (AV.B7 hp)) := eqq rfl
theorem U3 (j v n : Nat) : (AV.row j v n).Cf hp = (AV.row j v n).B7 hp := eqq rfl
theorem U4 (j v i o : Nat) : (AV.ptr j v i o).Cf hp = (AV.ptr j v i o).B7 hp := eqq rfl
theorem SK (cs : List AV) : (AV.agg cs).cells = cs := eqq rfl
theorem Zt (q : IntKind) (n : Int) : AV.one (.int q n) = true := eqq rfl
theorem ok_int (q : IntKind) (n : Int) : AV.ok (.int q n) = true := eqq rfl
theorem SJ (q : IntKind) (n : Int) : AV.cells (.int q n) = [.int q n] := eqq rfl
theorem UC (q : IntKind) (n : Int) (x : AV) : AV.Ht (.int q n) 0 [x] = x := eqq rfl
theorem Vu (b : Bool) : AV.one (.bool b) = true := eqq rfl
theorem Zy (b : Bool) : AV.ok (.bool b) = true := eqq rfl
theorem QA (b : Bool) : AV.cells (.bool b) = [.bool b] := eqq rfl
theorem Ry (b : Bool) (x : AV) : AV.Ht (.bool b) 0 [x] = x := eqq rfl
theorem Zp (s : ByteArray) : AV.one (.str s) = true := eqq rfl
theorem Acy (s : ByteArray) : AV.ok (.str s) = true := eqq rfl
theorem SF (s : ByteArray) : AV.cells (.str s) = [.str s] := eqq rfl
theorem Uy (s : ByteArray) (x : AV) : AV.Ht (.str s) 0 [x] = x := eqq rfl
theorem Acw (es : List AV) : AV.one (.sl es) = true := eqq rfl
theorem AeB (es : List AV) : AV.ok (.sl es) = true := eqq rfl
theorem WC (es : List AV) : AV.cells (.sl es) = [.sl es] := eqq rfl
theorem YR (es : List AV) (x : AV) : AV.Ht (.sl es) 0 [x] = x := eqq rfl
theorem Zs (cs : List AV) : AV.one (.obj cs) = true := eqq rfl
theorem AcB (cs : List AV) : AV.ok (.obj cs) = true := eqq rfl
theorem SI (cs : List AV) : AV.cells (.obj cs) = [.obj cs] := eqq rfl
theorem UB (cs : List AV) (x : AV) : AV.Ht (.obj cs) 0 [x] = x := eqq rfl
theorem Vr  : AV.one (.Aj) = true := eqq rfl
theorem Zv  : AV.ok (.Aj) = true := eqq rfl
theorem Qx  : AV.cells (.Aj) = [.Aj] := eqq rfl
theorem Rv  (x : AV) : AV.Ht (.Aj) 0 [x] = x := eqq rfl
theorem Vs  : AV.one (.Dy) = true := eqq rfl
theorem Zw  : AV.ok (.Dy) = true := eqq rfl
theorem Qy  : AV.cells (.Dy) = [.Dy] := eqq rfl
theorem Rw  (x : AV) : AV.Ht (.Dy) 0 [x] = x := eqq rfl
theorem Vt  : AV.one (.IA) = true := eqq rfl
theorem Zx  : AV.ok (.IA) = true := eqq rfl
theorem Qz  : AV.cells (.IA) = [.IA] := eqq rfl
theorem Rx  (x : AV) : AV.Ht (.IA) 0 [x] = x := eqq rfl
theorem Acx (f : FuncId) (cs : List AV) : AV.one (.fn f cs) = true := eqq rfl
theorem AeC (f : FuncId) (cs : List AV) : AV.ok (.fn f cs) = true := eqq rfl
theorem WD (f : FuncId) (cs : List AV) : AV.cells (.fn f cs) = [.fn f cs] := eqq rfl
theorem YS (f : FuncId) (cs : List AV) (x : AV) : AV.Ht (.fn f cs) 0 [x] = x := eqq rfl
theorem Zq (j v n : Nat) : AV.one (.row j v n) = true := eqq rfl
theorem Acz (j v n : Nat) : AV.ok (.row j v n) = true := eqq rfl
theorem SG (j v n : Nat) : AV.cells (.row j v n) = [.row j v n] := eqq rfl
theorem Uz (j v n : Nat) (x : AV) : AV.Ht (.row j v n) 0 [x] = x := eqq rfl
theorem Zr (j v i o : Nat) : AV.one (.ptr j v i o) = true := eqq rfl
theorem AcA (j v i o : Nat) : AV.ok (.ptr j v i o) = true := eqq rfl
theorem SH (j v i o : Nat) : AV.cells (.ptr j v i o) = [.ptr j v i o] := eqq rfl
theorem UA (j v i o : Nat) (x : AV) : AV.Ht (.ptr j v i o) 0 [x] = x := eqq rfl
theorem AcC (cs : List AV) : AV.ok (.agg cs) = true := eqq rfl
theorem UD (cs : List AV) (o : Nat) (xs : List AV) : AV.Ht (.agg cs) o xs = .agg (lay cs o xs) := eqq rfl
theorem AcZ (cs : List AV) (o : Nat) (xs : List AV) : lay cs o xs = cs.take o ++ xs ++ cs.drop (o + xs.length) := eqq rfl
theorem Wm (x : AV) : Kt hp [x] = x.pur hp := eqq rfl
theorem Wl (x y : AV) : Kt hp [x, y] = .tup [x.pur hp, y.pur hp] := eqq rfl
theorem Qq (x y z : AV) : Kt hp [x, y, z] = .tup [x.pur hp, y.pur hp, z.pur hp] := eqq rfl
theorem Sl : Kt hp [] = .tup [] := eqq rfl
theorem ZY (n : Int) : inR .i64 n = (-9223372036854775808 ≤ n ∧ n ≤ 9223372036854775807) := eqq rfl
theorem Ac5 (n : Int) : inR .u8 n = (0 ≤ n ∧ n ≤ 255) := eqq rfl
end

theorem zA.{u} {p : Prop} (α : Sort u) [Nonempty α] : (α → p) ↔ p := forall_const α
theorem zI.{u} (α : Sort u) : (α → True) = True := implies_true α
theorem zN.{u} {α : Sort u} (a b : α) : (a ≠ b) = ¬(a = b) := ne_eq a b
theorem zE.{u} {α : Sort u} {p : α → Prop} {a' : α} : (∀ a, a = a' → p a) ↔ p a' := forall_eq
theorem SD : type_of% (And.intro (And.intro (And.intro (And.intro (And.intro (And.intro @WY @QC) (And.intro @W1 (And.intro @W3 @Aao))) (And.intro (And.intro @PK @PL) (And.intro @PJ (And.intro @brt @brf)))) (And.intro (And.intro (And.intro @bnt @bnf) (And.intro @pkt (And.intro @pkf @W2))) (And.intro (And.intro @SQ (And.intro @MH @MF)) (And.intro @MI (And.intro @MG @W0))))) (And.intro (And.intro (And.intro (And.intro @SP @MD) (And.intro @MC (And.intro @ME @Aap))) (And.intro (And.intro @Og (And.intro @Oh @Of)) (And.intro @JW (And.intro @MJ @WZ)))) (And.intro (And.intro (And.intro @RG @Ps) (And.intro @KA (And.intro @Oi @Zn))) (And.intro (And.intro @Zm (And.intro @Vo @R4)) (And.intro @PM (And.intro @AfF @AfH)))))) (And.intro (And.intro (And.intro (And.intro (And.intro @AfG @Aaa) (And.intro @Z9 (And.intro @Z3 @Z2))) (And.intro (And.intro @V8 (And.intro @YX @UF)) (And.intro @Y1 (And.intro @UM @Ab9)))) (And.intro (And.intro (And.intro @UK @UL) (And.intro @RI (And.intro @RB @UH))) (And.intro (And.intro @Rz (And.intro @RE @YZ)) (And.intro @RD (And.intro @Pr @UE))))) (And.intro (And.intro (And.intro (And.intro @YY @UI) (And.intro @Ob (And.intro @Pp @RC))) (And.intro (And.intro @UG (And.intro @UJ @RH)) (And.intro @RF (And.intro @Aca @RA)))) (And.intro (And.intro (And.intro @YT @UN) (And.intro @YV (And.intro @YU @Pt))) (And.intro (And.intro @UP (And.intro @Acb @Y2)) (And.intro @UO (And.intro @YW @Y0))))))) := (And.intro (And.intro (And.intro (And.intro (And.intro (And.intro @WY @QC) (And.intro @W1 (And.intro @W3 @Aao))) (And.intro (And.intro @PK @PL) (And.intro @PJ (And.intro @brt @brf)))) (And.intro (And.intro (And.intro @bnt @bnf) (And.intro @pkt (And.intro @pkf @W2))) (And.intro (And.intro @SQ (And.intro @MH @MF)) (And.intro @MI (And.intro @MG @W0))))) (And.intro (And.intro (And.intro (And.intro @SP @MD) (And.intro @MC (And.intro @ME @Aap))) (And.intro (And.intro @Og (And.intro @Oh @Of)) (And.intro @JW (And.intro @MJ @WZ)))) (And.intro (And.intro (And.intro @RG @Ps) (And.intro @KA (And.intro @Oi @Zn))) (And.intro (And.intro @Zm (And.intro @Vo @R4)) (And.intro @PM (And.intro @AfF @AfH)))))) (And.intro (And.intro (And.intro (And.intro (And.intro @AfG @Aaa) (And.intro @Z9 (And.intro @Z3 @Z2))) (And.intro (And.intro @V8 (And.intro @YX @UF)) (And.intro @Y1 (And.intro @UM @Ab9)))) (And.intro (And.intro (And.intro @UK @UL) (And.intro @RI (And.intro @RB @UH))) (And.intro (And.intro @Rz (And.intro @RE @YZ)) (And.intro @RD (And.intro @Pr @UE))))) (And.intro (And.intro (And.intro (And.intro @YY @UI) (And.intro @Ob (And.intro @Pp @RC))) (And.intro (And.intro @UG (And.intro @UJ @RH)) (And.intro @RF (And.intro @Aca @RA)))) (And.intro (And.intro (And.intro @YT @UN) (And.intro @YV (And.intro @YU @Pt))) (And.intro (And.intro @UP (And.intro @Acb @Y2)) (And.intro @UO (And.intro @YW @Y0)))))))
theorem SU0 : type_of% (And.intro (And.intro (And.intro (And.intro (And.intro (And.intro (And.intro @AfN (And.intro @AdJ @AdI)) (And.intro (And.intro @Xr @AeJ) (And.intro @AaE @AaD))) (And.intro (And.intro (And.intro @AaF @S7) (And.intro @Adp @Adq)) (And.intro (And.intro @Acq @QK) (And.intro @Ql @Si)))) (And.intro (And.intro (And.intro (And.intro @Qc @Oq) (And.intro @Jt @ET)) (And.intro (And.intro @Z5 @Qe) (And.intro @Qf @Wd))) (And.intro (And.intro (And.intro @Sj @Nf) (And.intro @FG @V7)) (And.intro (And.intro @NO @L7) (And.intro @Qb @Sg))))) (And.intro (And.intro (And.intro (And.intro @L8 (And.intro @OG @OD)) (And.intro (And.intro @Nx @QH) (And.intro @YM @WT))) (And.intro (And.intro (And.intro @WO @WS) (And.intro @WR @WQ)) (And.intro (And.intro @Xk @Xj) (And.intro @S4 @Xh)))) (And.intro (And.intro (And.intro (And.intro @Aay @Xi) (And.intro @SZ @S3)) (And.intro (And.intro @Aaz @S6) (And.intro @S5 @QP))) (And.intro (And.intro (And.intro @OI @OK) (And.intro @OJ @Aaw)) (And.intro (And.intro @SW @QL) (And.intro @Xd @Xc)))))) (And.intro (And.intro (And.intro (And.intro (And.intro @Mv (And.intro @N7 @N8)) (And.intro (And.intro @N9 @Pm) (And.intro @Pn @Mw))) (And.intro (And.intro (And.intro @Oa @Su) (And.intro @Qv @Sw)) (And.intro (And.intro @Sv @RX) (And.intro @PE @RY)))) (And.intro (And.intro (And.intro (And.intro @RV @PF) (And.intro @Wb @Aar)) (And.intro (And.intro @W4 @W5) (And.intro @SV @AcK))) (And.intro (And.intro (And.intro @SR @Y3) (And.intro @WE @RZ)) (And.intro (And.intro @WX @Aan) (And.intro @Aag @WW))))) (And.intro (And.intro (And.intro (And.intro @Aam (And.intro @Aal @Aak)) (And.intro (And.intro @Aaj @Aai) (And.intro @Aah @WV))) (And.intro (And.intro (And.intro @Qo @Wi) (And.intro @Wj @Sk)) (And.intro (And.intro @Wh @ZX) (And.intro @ZN @ZR)))) (And.intro (And.intro (And.intro (And.intro @ZP @ZO) (And.intro @ZW @ZQ)) (And.intro (And.intro @ZS @ZT) (And.intro @ZU @ZV))) (And.intro (And.intro (And.intro @YQ @YP) (And.intro @YN @YO)) (And.intro (And.intro @WN @WM) (And.intro @AbR @AbS))))))) (And.intro (And.intro (And.intro (And.intro (And.intro (And.intro @VM (And.intro @VL @PZ)) (And.intro (And.intro @R3 @PG) (And.intro @Rq @N4))) (And.intro (And.intro (And.intro @Sn @Sm) (And.intro @Z8 @V6)) (And.intro (And.intro @Sf @Oo) (And.intro @Uv @ZI)))) (And.intro (And.intro (And.intro (And.intro @AcX @ZJ) (And.intro @VP @Wy)) (And.intro (And.intro @Oy @PT) (And.intro @PS @R6))) (And.intro (And.intro (And.intro @Y5 @Aew) (And.intro @Aex @Sr)) (And.intro (And.intro @Qu @Zc) (And.intro @U0 @Y8))))) (And.intro (And.intro (And.intro (And.intro @Acj (And.intro @Zb @UY)) (And.intro (And.intro @UZ @Acl) (And.intro @Zd @Y7))) (And.intro (And.intro (And.intro @Y9 @Za) (And.intro @Vd @RU)) (And.intro (And.intro @U9 @Zh) (And.intro @Vc @RS)))) (And.intro (And.intro (And.intro (And.intro @RT @Zi) (And.intro @Ve @Va)) (And.intro (And.intro @RN @RO) (And.intro @Vb @Pz))) (And.intro (And.intro (And.intro @PA @PB) (And.intro @D8 @OZ)) (And.intro (And.intro @Ok @U6) (And.intro @Zf @U7)))))) (And.intro (And.intro (And.intro (And.intro (And.intro @RR (And.intro @U2 @Ze)) (And.intro (And.intro @U5 @RP) (And.intro @RQ @U8))) (And.intro (And.intro (And.intro @U3 @U4) (And.intro @SK @Zt)) (And.intro (And.intro @ok_int @SJ) (And.intro @UC @Vu)))) (And.intro (And.intro (And.intro (And.intro @Zy @QA) (And.intro @Ry @Zp)) (And.intro (And.intro @Acy @SF) (And.intro @Uy @Acw))) (And.intro (And.intro (And.intro @AeB @WC) (And.intro @YR @Zs)) (And.intro (And.intro @AcB @SI) (And.intro @UB @Vr))))) (And.intro (And.intro (And.intro (And.intro (And.intro @Zv @Qx) (And.intro @Rv @Vs)) (And.intro (And.intro @Zw @Qy) (And.intro @Rw @Vt))) (And.intro (And.intro (And.intro @Zx @Qz) (And.intro @Rx @Acx)) (And.intro (And.intro @AeC @WD) (And.intro @YS @Zq)))) (And.intro (And.intro (And.intro (And.intro @Acz @SG) (And.intro @Uz @Zr)) (And.intro (And.intro @AcA @SH) (And.intro @UA @AcC))) (And.intro (And.intro (And.intro @UD @AcZ) (And.intro @Wm @Wl)) (And.intro (And.intro @Qq @Sl) (And.intro @ZY @Ac5)))))))) := (And.intro (And.intro (And.intro (And.intro (And.intro (And.intro (And.intro @AfN (And.intro @AdJ @AdI)) (And.intro (And.intro @Xr @AeJ) (And.intro @AaE @AaD))) (And.intro (And.intro (And.intro @AaF @S7) (And.intro @Adp @Adq)) (And.intro (And.intro @Acq @QK) (And.intro @Ql @Si)))) (And.intro (And.intro (And.intro (And.intro @Qc @Oq) (And.intro @Jt @ET)) (And.intro (And.intro @Z5 @Qe) (And.intro @Qf @Wd))) (And.intro (And.intro (And.intro @Sj @Nf) (And.intro @FG @V7)) (And.intro (And.intro @NO @L7) (And.intro @Qb @Sg))))) (And.intro (And.intro (And.intro (And.intro @L8 (And.intro @OG @OD)) (And.intro (And.intro @Nx @QH) (And.intro @YM @WT))) (And.intro (And.intro (And.intro @WO @WS) (And.intro @WR @WQ)) (And.intro (And.intro @Xk @Xj) (And.intro @S4 @Xh)))) (And.intro (And.intro (And.intro (And.intro @Aay @Xi) (And.intro @SZ @S3)) (And.intro (And.intro @Aaz @S6) (And.intro @S5 @QP))) (And.intro (And.intro (And.intro @OI @OK) (And.intro @OJ @Aaw)) (And.intro (And.intro @SW @QL) (And.intro @Xd @Xc)))))) (And.intro (And.intro (And.intro (And.intro (And.intro @Mv (And.intro @N7 @N8)) (And.intro (And.intro @N9 @Pm) (And.intro @Pn @Mw))) (And.intro (And.intro (And.intro @Oa @Su) (And.intro @Qv @Sw)) (And.intro (And.intro @Sv @RX) (And.intro @PE @RY)))) (And.intro (And.intro (And.intro (And.intro @RV @PF) (And.intro @Wb @Aar)) (And.intro (And.intro @W4 @W5) (And.intro @SV @AcK))) (And.intro (And.intro (And.intro @SR @Y3) (And.intro @WE @RZ)) (And.intro (And.intro @WX @Aan) (And.intro @Aag @WW))))) (And.intro (And.intro (And.intro (And.intro @Aam (And.intro @Aal @Aak)) (And.intro (And.intro @Aaj @Aai) (And.intro @Aah @WV))) (And.intro (And.intro (And.intro @Qo @Wi) (And.intro @Wj @Sk)) (And.intro (And.intro @Wh @ZX) (And.intro @ZN @ZR)))) (And.intro (And.intro (And.intro (And.intro @ZP @ZO) (And.intro @ZW @ZQ)) (And.intro (And.intro @ZS @ZT) (And.intro @ZU @ZV))) (And.intro (And.intro (And.intro @YQ @YP) (And.intro @YN @YO)) (And.intro (And.intro @WN @WM) (And.intro @AbR @AbS))))))) (And.intro (And.intro (And.intro (And.intro (And.intro (And.intro @VM (And.intro @VL @PZ)) (And.intro (And.intro @R3 @PG) (And.intro @Rq @N4))) (And.intro (And.intro (And.intro @Sn @Sm) (And.intro @Z8 @V6)) (And.intro (And.intro @Sf @Oo) (And.intro @Uv @ZI)))) (And.intro (And.intro (And.intro (And.intro @AcX @ZJ) (And.intro @VP @Wy)) (And.intro (And.intro @Oy @PT) (And.intro @PS @R6))) (And.intro (And.intro (And.intro @Y5 @Aew) (And.intro @Aex @Sr)) (And.intro (And.intro @Qu @Zc) (And.intro @U0 @Y8))))) (And.intro (And.intro (And.intro (And.intro @Acj (And.intro @Zb @UY)) (And.intro (And.intro @UZ @Acl) (And.intro @Zd @Y7))) (And.intro (And.intro (And.intro @Y9 @Za) (And.intro @Vd @RU)) (And.intro (And.intro @U9 @Zh) (And.intro @Vc @RS)))) (And.intro (And.intro (And.intro (And.intro @RT @Zi) (And.intro @Ve @Va)) (And.intro (And.intro @RN @RO) (And.intro @Vb @Pz))) (And.intro (And.intro (And.intro @PA @PB) (And.intro @D8 @OZ)) (And.intro (And.intro @Ok @U6) (And.intro @Zf @U7)))))) (And.intro (And.intro (And.intro (And.intro (And.intro @RR (And.intro @U2 @Ze)) (And.intro (And.intro @U5 @RP) (And.intro @RQ @U8))) (And.intro (And.intro (And.intro @U3 @U4) (And.intro @SK @Zt)) (And.intro (And.intro @ok_int @SJ) (And.intro @UC @Vu)))) (And.intro (And.intro (And.intro (And.intro @Zy @QA) (And.intro @Ry @Zp)) (And.intro (And.intro @Acy @SF) (And.intro @Uy @Acw))) (And.intro (And.intro (And.intro @AeB @WC) (And.intro @YR @Zs)) (And.intro (And.intro @AcB @SI) (And.intro @UB @Vr))))) (And.intro (And.intro (And.intro (And.intro (And.intro @Zv @Qx) (And.intro @Rv @Vs)) (And.intro (And.intro @Zw @Qy) (And.intro @Rw @Vt))) (And.intro (And.intro (And.intro @Zx @Qz) (And.intro @Rx @Acx)) (And.intro (And.intro @AeC @WD) (And.intro @YS @Zq)))) (And.intro (And.intro (And.intro (And.intro @Acz @SG) (And.intro @Uz @Zr)) (And.intro (And.intro @AcA @SH) (And.intro @UA @AcC))) (And.intro (And.intro (And.intro @UD @AcZ) (And.intro @Wm @Wl)) (And.intro (And.intro @Qq @Sl) (And.intro @ZY @Ac5))))))))
theorem SB : type_of% (And.intro (And.intro (And.intro (And.intro (And.intro (And.intro @List.map_cons.{0,0} @List.map_nil.{0,0}) (And.intro @List.drop_succ_cons.{0} @List.drop_zero.{0})) (And.intro (And.intro @List.take_succ_cons.{0} @List.take_zero.{0}) (And.intro @List.take_nil.{0} @List.drop_nil.{0}))) (And.intro (And.intro (And.intro @List.getD_cons_zero.{0} @List.getD_cons_succ.{0}) (And.intro @List.length_cons.{0} @List.length_nil.{0})) (And.intro (And.intro @List.cons_append.{0} @List.nil_append.{0}) (And.intro @List.append_nil.{0} (And.intro @List.replicate_succ.{0} @List.replicate_zero.{0}))))) (And.intro (And.intro (And.intro (And.intro @List.set_cons_zero.{0} @List.set_cons_succ.{0}) (And.intro @Option.map_some.{0,0} @Option.map_none.{0,0})) (And.intro (And.intro @Nat.add_zero @Nat.zero_add) (And.intro @decide_eq_true_eq (And.intro @decide_eq_false_iff_not @Bool.not_eq_true')))) (And.intro (And.intro (And.intro @Bool.not_eq_false' @Bool.not_true) (And.intro @Bool.not_false @true_and)) (And.intro (And.intro @and_true @not_false_eq_true) (And.intro @not_true_eq_false (And.intro @Int.toNat_natCast @Nat.lt_add_one)))))) (And.intro (And.intro (And.intro (And.intro (And.intro @Bool.decide_eq_true @Bool.true_eq_false) (And.intro @Bool.false_eq_true @false_implies)) (And.intro (And.intro @true_implies @List.mem_cons.{0}) (And.intro @List.not_mem_nil.{0} @or_false))) (And.intro (And.intro (And.intro @Int.ofNat_lt @Int.ofNat_le) (And.intro @Int.natCast_inj @Int.natCast_zero)) (And.intro (And.intro @Int.natCast_one @Int.cast_ofNat_Int) (And.intro @Int.natCast_nonneg (And.intro @Nat.zero_le @Nat.le_refl))))) (And.intro (And.intro (And.intro (And.intro @List.contains_nil.{0} @List.contains_cons.{0}) (And.intro @Bool.or_false @Bool.or_true)) (And.intro (And.intro @Bool.false_or @Bool.true_or) (And.intro @decide_true (And.intro @decide_false @Bool.false_and)))) (And.intro (And.intro (And.intro @Bool.true_and @Bool.and_true) (And.intro @Bool.and_false @zA.{0})) (And.intro (And.intro @zA.{1} @zI.{0}) (And.intro @zI.{1} (And.intro @zN.{1} @zE.{1}))))))) := (And.intro (And.intro (And.intro (And.intro (And.intro (And.intro @List.map_cons.{0,0} @List.map_nil.{0,0}) (And.intro @List.drop_succ_cons.{0} @List.drop_zero.{0})) (And.intro (And.intro @List.take_succ_cons.{0} @List.take_zero.{0}) (And.intro @List.take_nil.{0} @List.drop_nil.{0}))) (And.intro (And.intro (And.intro @List.getD_cons_zero.{0} @List.getD_cons_succ.{0}) (And.intro @List.length_cons.{0} @List.length_nil.{0})) (And.intro (And.intro @List.cons_append.{0} @List.nil_append.{0}) (And.intro @List.append_nil.{0} (And.intro @List.replicate_succ.{0} @List.replicate_zero.{0}))))) (And.intro (And.intro (And.intro (And.intro @List.set_cons_zero.{0} @List.set_cons_succ.{0}) (And.intro @Option.map_some.{0,0} @Option.map_none.{0,0})) (And.intro (And.intro @Nat.add_zero @Nat.zero_add) (And.intro @decide_eq_true_eq (And.intro @decide_eq_false_iff_not @Bool.not_eq_true')))) (And.intro (And.intro (And.intro @Bool.not_eq_false' @Bool.not_true) (And.intro @Bool.not_false @true_and)) (And.intro (And.intro @and_true @not_false_eq_true) (And.intro @not_true_eq_false (And.intro @Int.toNat_natCast @Nat.lt_add_one)))))) (And.intro (And.intro (And.intro (And.intro (And.intro @Bool.decide_eq_true @Bool.true_eq_false) (And.intro @Bool.false_eq_true @false_implies)) (And.intro (And.intro @true_implies @List.mem_cons.{0}) (And.intro @List.not_mem_nil.{0} @or_false))) (And.intro (And.intro (And.intro @Int.ofNat_lt @Int.ofNat_le) (And.intro @Int.natCast_inj @Int.natCast_zero)) (And.intro (And.intro @Int.natCast_one @Int.cast_ofNat_Int) (And.intro @Int.natCast_nonneg (And.intro @Nat.zero_le @Nat.le_refl))))) (And.intro (And.intro (And.intro (And.intro @List.contains_nil.{0} @List.contains_cons.{0}) (And.intro @Bool.or_false @Bool.or_true)) (And.intro (And.intro @Bool.false_or @Bool.true_or) (And.intro @decide_true (And.intro @decide_false @Bool.false_and)))) (And.intro (And.intro (And.intro @Bool.true_and @Bool.and_true) (And.intro @Bool.and_false @zA.{0})) (And.intro (And.intro @zA.{1} @zI.{0}) (And.intro @zI.{1} (And.intro @zN.{1} @zE.{1})))))))

theorem SU : type_of% (And.intro SU0 SB) := And.intro SU0 SB
end Go.Proofs.YtppjinmlfcokaaaGreat.Av
