/-
 THE RULES BY WHICH AN ABSTRACT TEXT IS CARRIED OUT: for simp. Conditions: none.
-/
import Derived.Test.YtppjinmlfcokaaaGreatVAvDraw
set_option linter.unusedVariables false
namespace Go.Proofs.YtppjinmlfcokaaaGreat.Av
open Go.RowKit

theorem eqq {α : Sort _} {a b : α} (h : a = b) : a = b := h
structure DH {α : Type} (a : α) : Type where
 mk ::
def Bd {α : Type} (m : (α → Prop) → Prop) (k : α → Prop) (h : DH k) : Prop := m k
def Bd2 (m : (AV → Hp → Prop) → Prop) (k : AV → Hp → Prop) (h : DH k) : Prop := m k
theorem Ags {α : Type} (v : α) (K : α → Prop) (h : DH K) : Bd (fun k => k v) K h = K v := eqq rfl
theorem Aeg {α : Type} (A B : (α → Prop) → Prop) (K : α → Prop) (h : DH K) : Bd (fun k => A k ∧ B k) K h = (Bd A K h ∧ Bd B K h) := eqq rfl
theorem Aef {α : Type} (c : Prop) (B : (α → Prop) → Prop) (K : α → Prop) (h : DH K) : Bd (fun k => c → B k) K h = (c → Bd B K h) := eqq rfl
theorem Xx {α : Type} (c : Prop) (K : α → Prop) (h : DH K) : Bd (fun _ => c) K h = c := eqq rfl
theorem Afl (v : AV) (hp : Hp) (K : AV → Hp → Prop) (h : DH K) : Bd2 (fun k => k v hp) K h = K v hp := eqq rfl
theorem Aa3 (A B : (AV → Hp → Prop) → Prop) (K : AV → Hp → Prop) (h : DH K) : Bd2 (fun k => A k ∧ B k) K h = (Bd2 A K h ∧ Bd2 B K h) := eqq rfl
theorem Aa2 (c : Prop) (B : (AV → Hp → Prop) → Prop) (K : AV → Hp → Prop) (h : DH K) : Bd2 (fun k => c → B k) K h = (c → Bd2 B K h) := eqq rfl
theorem Aa4 {β : Type} (B : β → (AV → Hp → Prop) → Prop) (K : AV → Hp → Prop) (h : DH K) : Bd2 (fun k => ∀ v, B v k) K h = ∀ v, Bd2 (B v) K h := eqq rfl
theorem S9 (c : Prop) (K : AV → Hp → Prop) (h : DH K) : Bd2 (fun _ => c) K h = c := eqq rfl

section
variable (P : Program) (Q : Exit → St → Prop) (fr : List (Nat × AV)) (hp : Hp) (K : AV → Hp → Prop) (k : AV → Prop)

theorem W4 (s : St) : awp P .skip Q s = Q .normal s := eqq rfl
theorem QC (l : List B4) (s : St) : awp P (.region l) Q s = BK P (Q .normal) l s := eqq rfl
theorem W7 (l : List B4) (s : St) : awp P (.draw l) Q s = BK P (Q .normal) l s := eqq rfl
theorem W9 (a b : BO) (s : St) : awp P (.both a b) Q s = (awp P a Q s ∧ awp P b Q s) := eqq rfl
def Ae6 (P : Program) (b : BO) (Q : Exit → St → Prop) : Exit → St → Prop := fun e s' => match e with | .normal => awp P b Q s' | e => Q e s'
theorem AaM (a b : BO) (s : St) : awp P (.seq a b) Q s = awp P a (Ae6 P b Q) s := eqq rfl
theorem PI (b : BO) (s : St) : Ae6 P b Q .normal s = awp P b Q s := eqq rfl
theorem PJ (b : BO) (i : Nat) (s : St) : Ae6 P b Q (.exit i) s = Q (.exit i) s := eqq rfl
theorem PH (b : BO) (s : St) : Ae6 P b Q .ret s = Q .ret s := eqq rfl
def Br (b : Bool) (A B : Prop) (h : DH A) (h' : DH B) : Prop := (b = true → A) ∧ (b = false → B)
theorem brt (A B : Prop) (h : DH A) (h' : DH B) : Br true A B h h' = A := propext ⟨fun x => x.1 (eqq rfl), fun x => ⟨fun _ => x, fun e => by cases e⟩⟩
theorem brf (A B : Prop) (h : DH A) (h' : DH B) : Br false A B h h' = B := propext ⟨fun x => x.2 (eqq rfl), fun x => ⟨fun e => (by cases e), fun _ => x⟩⟩
theorem AdV (b : Bool) (A B : Prop) (h : DH A) (h' : DH B) : Br b A B h h' = ((b = true → A) ∧ (b = false → B)) := eqq rfl
def Bn (b : Bool) (A B : Prop) (h : DH A) (h' : DH B) : Prop := (b = false → A) ∧ (b = true → B)
theorem bnt (A B : Prop) (h : DH A) (h' : DH B) : Bn true A B h h' = B := propext ⟨fun x => x.2 (eqq rfl), fun x => ⟨fun e => (by cases e), fun _ => x⟩⟩
theorem bnf (A B : Prop) (h : DH A) (h' : DH B) : Bn false A B h h' = A := propext ⟨fun x => x.1 (eqq rfl), fun x => ⟨fun _ => x, fun e => by cases e⟩⟩
theorem AdX (b : Bool) (A B : Prop) (h : DH A) (h' : DH B) : Bn b A B h h' = ((b = false → A) ∧ (b = true → B)) := eqq rfl
def Pk (t : Bool) (a b : AV) (k : AV → Prop) : Prop := (t = true → k a) ∧ (t = false → k b)
theorem pkt (a b : AV) (k : AV → Prop) : Pk true a b k = k a := propext ⟨fun x => x.1 (eqq rfl), fun x => ⟨fun _ => x, fun e => by cases e⟩⟩
theorem pkf (a b : AV) (k : AV → Prop) : Pk false a b k = k b := propext ⟨fun x => x.2 (eqq rfl), fun x => ⟨fun e => (by cases e), fun _ => x⟩⟩
theorem AcR (t : Bool) (a b : AV) (k : AV → Prop) : Pk t a b k = ((t = true → k a) ∧ (t = false → k b)) := eqq rfl
def Afj (x : AV) (A B : Prop) (h : DH A) (h' : DH B) : Prop :=
 match x with
 | .bool t => (t = true → A) ∧ (t = false → B)
 | _ => False
theorem W8 (c : Ar) (a b : BO) (s : St) : awp P (.cond c a b) Q s = Afj (c.ev (Bp s.fr)) (awp P a Q s) (awp P b Q s) ⟨⟩ ⟨⟩ := eqq rfl
theorem QL (t : Bool) (A B : Prop) (h : DH A) (h' : DH B) : Afj (.bool t) A B h h' = Br t A B h h' := eqq rfl
def L3 (id : Nat) (Q : Exit → St → Prop) : Exit → St → Prop := fun e s' => match e with | .exit id' => if id' = id then Q .normal s' else Q (.exit id') s' | e => Q e s'
theorem SR (id : Nat) (a : BO) (s : St) : awp P (.block id a) Q s = awp P a (L3 id Q) s := eqq rfl
theorem Ms (id : Nat) (s : St) : L3 id Q .normal s = Q .normal s := eqq rfl
theorem Mq (id : Nat) (s : St) : L3 id Q .ret s = Q .ret s := eqq rfl
theorem Mt (id : Nat) (s : St) : L3 id Q (.exit id) s = Q .normal s := by simp [L3]
theorem Mr {i id : Nat} (h : (i == id) = false) (s : St) : L3 id Q (.exit i) s = Q (.exit i) s := by simp [L3, beq_eq_false_iff_ne.1 h]
theorem W6 (id : Nat) (s : St) : awp P (.exit id) Q s = Q (.exit id) s := eqq rfl
def T8 (Q : Exit → St → Prop) : Exit → St → Prop := fun e s' => match e with | .goto _ => False | e => Q e s'
theorem SQ (a : BO) (s : St) : awp P (.scope a) Q s = awp P a (T8 Q) s := eqq rfl
theorem Mo (s : St) : T8 Q .normal s = Q .normal s := eqq rfl
theorem Mn (s : St) : T8 Q .ret s = Q .ret s := eqq rfl
theorem Mp (i : Nat) (s : St) : T8 Q (.exit i) s = Q (.exit i) s := eqq rfl
theorem AaN : awp P .ret Q ⟨fr, hp⟩ = Bd (fun k => k (Jr hp)) (fun hp => Q .ret ⟨fr, hp⟩) ⟨⟩ := eqq rfl
theorem Ql : Jr [] = [] := eqq rfl
theorem Si (hp : Hp) : Jr hp = BZ (Ei hp) (BZ (Ei hp) hp) := eqq rfl
theorem Qc : Ei [] = [] := eqq rfl
theorem Oa (j : Nat) (b : Box) (r : Hp) : Ei ((j, b) :: r) = if (Ei r).contains j then Ei r else j :: Ei r := eqq rfl
theorem I7 (hp : Hp) : BZ [] hp = hp := eqq rfl
theorem EX (j : Nat) (r : List Nat) (hp : Hp) : BZ (j :: r) hp = BZ r (Gs hp j) := eqq rfl
def AdC (bx : Option Box) (hp : Hp) (j : Nat) : Hp :=
 match bx with
 | some b => (j, { b with frz := true, es := b.es.map (AV.pur hp) }) :: hp
 | none => hp
theorem Aar (hp : Hp) (j : Nat) : Gs hp j = AdC (Ao hp j) hp j := eqq rfl
theorem Qf (ver : Nat) (z : Bool) (ty : TypeId) (esz : Nat) (es : List AV) (hp : Hp) (j : Nat) : AdC (some ⟨ver, z, ty, esz, es⟩) hp j = (j, ⟨ver, true, ty, esz, es.map (AV.pur hp)⟩) :: hp := eqq rfl
theorem Qg (hp : Hp) (j : Nat) : AdC none hp j = hp := eqq rfl
/-! loops -/
def Xu {X : Type} (I : X → St) (pre : X → Prop) (m : X → Nat) (x : X) (Q : Exit → St → Prop) : Exit → St → Prop := fun e s' => match e with | .normal => Af s' (fun t => ∃ x', (pre x' ∧ m x' < m x) ∧ t = I x') | e => Q e s'
theorem N2 {X : Type} (I : X → St) (pre : X → Prop) (m : X → Nat) (x : X) (s : St) : Xu I pre m x Q .normal s = Af s (fun t => ∃ x', (pre x' ∧ m x' < m x) ∧ t = I x') := eqq rfl
theorem N3 {X : Type} (I : X → St) (pre : X → Prop) (m : X → Nat) (x : X) (i : Nat) (s : St) : Xu I pre m x Q (.exit i) s = Q (.exit i) s := eqq rfl
theorem N1 {X : Type} (I : X → St) (pre : X → Prop) (m : X → Nat) (x : X) (s : St) : Xu I pre m x Q .ret s = Q .ret s := eqq rfl
theorem Am {P : Program} {Q : Exit → St → Prop} {a : BO} {s : St} {X : Type} (I : X → St) (pre : X → Prop) (m : X → Nat) (x0 : X) (h0 : pre x0) (h1 : OA s.fr (I x0).fr) (h2 : AR s.hp (I x0).hp) (hr : ∀ x, pre x → awp P a (Xu I pre m x Q) (I x)) : awp P (.loop a) Q s :=
 ⟨X, I, pre, m, Af.le ⟨x0, h0, rfl⟩ h1 h2, hr⟩
theorem DU {P : Program} {Q : Exit → St → Prop} {a : BO} {s : St} {X : Type} (I : X → St) (pre : X → Prop) (m : X → Nat) (h0 : Af s (fun t => ∃ x, pre x ∧ t = I x)) (hr : ∀ x, pre x → awp P a (Xu I pre m x Q) (I x)) : awp P (.loop a) Q s :=
 ⟨X, I, pre, m, h0, hr⟩
theorem Ad5 {X : Type} {I : X → St} {pre : X → Prop} {m : X → Nat} {x : X} {s : St} (x' : X) (h0 : pre x') (hm : m x' < m x) (h1 : OA s.fr (I x').fr) (h2 : AR s.hp (I x').hp) : Af s (fun t => ∃ x', (pre x' ∧ m x' < m x) ∧ t = I x') :=
 Af.le ⟨x', ⟨h0, hm⟩, rfl⟩ h1 h2
theorem EK {P : Program} {Q : Exit → St → Prop} {a : BO} {s : St} (h : Af s (fun t => awp P a Q t)) : awp P (.ghost a) Q s := h
theorem Af.here {s : St} {T : St → Prop} (h : T s) : Af s T := ⟨fun _ _ a w hr => ⟨s, h, hr⟩⟩
theorem Wh (s : List (Nat × AV)) : OA s [] = True := eqq rfl
theorem Sj (s : List (Nat × AV)) (i : Nat) (x : AV) (r : List (Nat × AV)) : OA s ((i, x) :: r) = (Bp s i = x ∧ OA s r) := eqq rfl
theorem Wb (s : Hp) : AR s [] = True := eqq rfl
theorem I6 (s : Hp) (i : Nat) (x : Box) (r : Hp) : AR s ((i, x) :: r) = (Ao s i = some x ∧ AR s r) := eqq rfl
/-! a function that is handed own rows -/
def Ow (rs : List Gc) (Post : AV → Hp → Prop) (t : St) : Prop := Ca t.hp (Bp t.fr) rs fun xs => ∃ hp', AR t.hp hp' ∧ Post (J9 t.hp xs) hp'
theorem Jx (rs : List Gc) (Post : AV → Hp → Prop) (s : St) : Aee rs Post .normal s = Af s (Ow rs Post) := eqq rfl
theorem Mv (rs : List Gc) (Post : AV → Hp → Prop) (s : St) : Aee rs Post .ret s = Af s (Ow rs Post) := eqq rfl
theorem Af.post {rs : List Gc} {Post : AV → Hp → Prop} {s : St} (hp' : Hp) (h : Ca s.hp (Bp s.fr) rs fun xs => AR s.hp hp' ∧ Post (J9 s.hp xs) hp') : Af s (Ow rs Post) := by
 refine Af.here ?_
 have : ∀ {l : List Gc} {K K' : List AV → Prop}, (∀ ys, K ys → K' ys) → Ca s.hp (Bp s.fr) l K → Ca s.hp (Bp s.fr) l K' := by
  intro l
  induction l with
  | nil => intro K K' hk h; exact hk _ h
  | cons r l ih =>
   intro K K' hk h
   unfold Ca at h ⊢
   cases r with
   | t i => exact ih (fun ys hy => hk _ hy) h
   | c g n i =>
    simp only [Ago, F9] at h ⊢
    split at h
    ·unfold Gj at h ⊢; cases g <;> exact ⟨h.1, ih (fun ys hy => hk _ hy) h.2⟩
    ·split at h
     ·refine ⟨h.1, ?_⟩; have h := h.2; unfold Gj at h ⊢; cases g <;> exact ⟨h.1, ih (fun ys hy => hk _ hy) h.2⟩
     ·exact h
    ·exact h
 exact this (fun ys hy => ⟨hp', hy⟩) h
theorem W5 (s : St) : awp P .Oz Q s = Q .ret s := eqq rfl
theorem Wa (hp : Hp) : Jo [] hp = [] := eqq rfl
def Aao (bx : Option Box) (j : Nat) (r : Hp) : Hp :=
 match bx with
 | some b => (j, b) :: r
 | none => r
theorem Nv (j : Nat) (r : List Nat) (hp : Hp) : Jo (j :: r) hp = Aao (Ao hp j) j (Jo r hp) := by
 unfold Jo Aao; rw [List.filterMap_cons]; cases Ao hp j <;> rfl
theorem LP (b : Box) (j : Nat) (r : Hp) : Aao (some b) j r = (j, b) :: r := eqq rfl
theorem Qb (j : Nat) (r : Hp) : Aao none j r = r := eqq rfl
theorem Sg (hs : List Nat) : Ci hs [] = [] := eqq rfl
theorem LQ (hs : List Nat) (j : Nat) (b : Box) (r : Hp) : Ci hs ((j, b) :: r) = if hs.contains j then Ci hs r else (j, b) :: Ci hs r := by
 unfold Ci; rw [List.filter_cons]; cases hs.contains j <;> rfl
def Lc (P : Program) (f : FuncId) (args : List AV) (hp : Hp) (k : AV → Hp → Prop) : Prop := QP P f args hp k
theorem Bx {P : Program} {f : FuncId} {args : List AV} {hp hp0 : Hp} {k : AV → Hp → Prop} {Post : AV → Hp → Prop} (hs : List Nat) (h : Bu P f args hp0 Post) {kp : DH k} (he : Jo hs hp = hp0) (hk : ∀ r hp', Post r hp' → k r (hp' ++ Ci hs hp)) : Bd2 (fun k => Lc P f args hp k) k kp := ⟨hs, Post, .inl ⟨by rw [he]; exact h, hk⟩⟩
theorem YS {P : Program} {f : FuncId} {args args' : List AV} {hp : Hp} {k : AV → Hp → Prop} {Post : AV → Hp → Prop} (ks : List Nat) (h : Bu P f args' [] Post) {kp : DH k} (he : args.map (AV.Cb (BZ ks hp)) = args') (hk : ∀ r hp', Post r hp' → (r.free = true ∧ GR hp') ∧ k r (hp' ++ hp)) : Bd2 (fun k => Lc P f args hp k) k kp := ⟨ks, Post, .inr ⟨by rw [he]; exact h, hk⟩⟩
theorem RA (F : Nat → AV) (f : FuncId) (as : List Ar) : (IOp.QB f as).sem P F hp K = Bd2 (fun k => Lc P f (as.map fun x => (x.ev F).Cb hp) hp k) K ⟨⟩ := eqq rfl
def Xm (P : Program) (x : AV) (args : List AV) (hp : Hp) (k : AV → Hp → Prop) : Prop := Nc P x args hp k
theorem Ph (F : Nat → AV) (f : Ar) (as : List Ar) : (IOp.LW f as).sem P F hp K = Bd2 (fun k => Xm P ((f.ev F).Cb hp) (as.map fun x => (x.ev F).Cb hp) hp k) K ⟨⟩ := eqq rfl
theorem On (f : FuncId) (caps args : List AV) : Xm P (.fn f caps) args hp K = Lc P f (args ++ caps) hp K := eqq rfl
theorem Kh (rs : List Gc) (res : AV) (s : St) : Ret rs res .normal s = Ca s.hp (Bp s.fr) rs fun xs => J9 s.hp xs = res := eqq rfl
theorem N4 (rs : List Gc) (res : AV) (s : St) : Ret rs res .ret s = Ca s.hp (Bp s.fr) rs fun xs => J9 s.hp xs = res := eqq rfl

theorem ZL (R : St → Prop) (s : St) : BK P R [] s = R s := eqq rfl
theorem ZK (R : St → Prop) (d : Nat) (op : IOp) (l : List B4) : BK P R (⟨some d, none, op⟩ :: l) ⟨fr, hp⟩ = op.sem P (Bp fr) hp fun v hp => BK P R l ⟨(d, v) :: fr, hp⟩ := eqq rfl
theorem Vu (R : St → Prop) (op : IOp) (l : List B4) : BK P R (⟨none, none, op⟩ :: l) ⟨fr, hp⟩ = op.sem P (Bp fr) hp fun v hp => BK P R l ⟨fr, hp⟩ := eqq rfl
def QJ (x : AV) (want : Bool) (A B : Prop) (h : DH A) (h' : DH B) : Prop :=
 match x with
 | .bool b => (b = want → A) ∧ (b = (!want) → B)
 | .tup _ => B
 | _ => False
theorem R0 (R : St → Prop) (d t : Nat) (want : Bool) (op : IOp) (l : List B4) : BK P R (⟨some d, some (t, want), op⟩ :: l) ⟨fr, hp⟩ = QJ (Bp fr t) want (op.sem P (Bp fr) hp fun v hp => BK P R l ⟨(d, v) :: fr, hp⟩) (BK P R l ⟨(d, .tup []) :: fr, hp⟩) ⟨⟩ ⟨⟩ := eqq rfl
theorem PK (R : St → Prop) (t : Nat) (want : Bool) (op : IOp) (l : List B4) : BK P R (⟨none, some (t, want), op⟩ :: l) ⟨fr, hp⟩ = QJ (Bp fr t) want (op.sem P (Bp fr) hp fun v hp => BK P R l ⟨fr, hp⟩) (BK P R l ⟨fr, hp⟩) ⟨⟩ ⟨⟩ := eqq rfl
theorem Ol (b : Bool) (A B : Prop) (h : DH A) (h' : DH B) : QJ (.bool b) true A B h h' = Br b A B h h' := eqq rfl
theorem Nb (b : Bool) (A B : Prop) (h : DH A) (h' : DH B) : QJ (.bool b) false A B h h' = Bn b A B h h' := eqq rfl
theorem QI (xs : List AV) (want : Bool) (A B : Prop) (h : DH A) (h' : DH B) : QJ (.tup xs) want A B h h' = B := eqq rfl

theorem Agi (F : Nat → AV) (i : Nat) : Ar.ev F (.t i) = F i := eqq rfl
theorem Agk (F : Nat → AV) (x : AV) : Ar.ev F (.c x) = x := eqq rfl
theorem Agj (F : Nat → AV) (l : List Nat) : Ar.ev F (.s l) = .str (bs l) := eqq rfl
theorem Y0 : AV.str ⟨⟨[]⟩⟩ = AV.str (bs []) := eqq rfl
theorem Aaw (i : Nat) (x : AV) : Bp ((i, x) :: fr) i = x := by simp [Bp]
theorem Aav {i j : Nat} (x : AV) (h : (i == j) = false) : Bp ((i, x) :: fr) j = Bp fr j := by simp [Bp, (beq_eq_false_iff_ne.1 h)]
theorem Aaq (i : Nat) (x : Box) : Ao ((i, x) :: hp) i = some x := by simp [Ao]
theorem Aap {i j : Nat} (x : Box) (h : (i == j) = false) : Ao ((i, x) :: hp) j = Ao hp j := by simp [Ao, (beq_eq_false_iff_ne.1 h)]
theorem Wc (i : Nat) : Ao [] i = none := eqq rfl

theorem Zc (F : Nat → AV) (x : Ar) : (IOp.mov x).sem P F hp K = Bd (fun k => k (x.ev F)) (fun v => K v hp) ⟨⟩ := eqq rfl
theorem UI (F : Nat → AV) (c a b : Ar) : (IOp.pick c a b).sem P F hp K = Bd (fun k => Xh (c.ev F) (a.ev F) (b.ev F) k) (fun v => K v hp) ⟨⟩ := eqq rfl
theorem Zg (F : Nat → AV) (op : BinOp) (kd : EqK) (x y : Ar) : (IOp.bin op kd x y).sem P F hp K = Bd (fun k => Hs op kd (x.ev F) (y.ev F) k) (fun v => K v hp) ⟨⟩ := eqq rfl
theorem UP (F : Nat → AV) (op : BinOp) (x y : Ar) : (IOp.AfV op x y).sem P F hp K = Bd (fun k => He op (x.ev F) (y.ev F) k) (fun v => K v hp) ⟨⟩ := eqq rfl
theorem WY (q : IntKind) (a b : Int) : He .add (.int q a) (.int q b) k = k (.int q (q.wrap (a + b))) := by simp [He]
theorem WU (q : IntKind) (a b : Int) : He .sub (.int q a) (.int q b) k = k (.int q (q.wrap (a - b))) := by simp [He]
theorem WX (q : IntKind) (a b : Int) : He .mul (.int q a) (.int q b) k = k (.int q (q.wrap (a * b))) := by simp [He]
theorem WW (q r : IntKind) (a b : Int) : He .shl (.int q a) (.int r b) k = (0 ≤ b ∧ k (.int q (q.wrap (a * 2 ^ (min b.toNat q.bits))))) := by simp [He]
theorem WV (q r : IntKind) (a b : Int) : He .shr (.int q a) (.int r b) k = ((0 ≤ b ∧ inR q (a.fdiv (2 ^ (min b.toNat q.bits)))) ∧ k (.int q (a.fdiv (2 ^ (min b.toNat q.bits))))) := by simp [He]
theorem Acy (F : Nat → AV) (op : UnOp) (x : Ar) : (IOp.un op x).sem P F hp K = Bd (fun k => aUn op (x.ev F) k) (fun v => K v hp) ⟨⟩ := eqq rfl
def Ju (x : AV) (hp : Hp) (k : AV → Prop) : Prop := x.ok = true ∧ k (.obj (x.pur hp).cells)
theorem UN (F : Nat → AV) (x : Ar) : (IOp.AdW x).sem P F hp K = Bd (fun k => Ju (x.ev F) hp k) (fun v => K v hp) ⟨⟩ := eqq rfl
theorem Xq (cs : List AV) : Ju (.agg cs) hp k = k (.obj (cs.map (AV.B5 hp))) := by simp [Ju, AV.ok, AV.one, AV.isAgg, AV.pur, AV.cells]
theorem Xp (q : IntKind) (n : Int) : Ju (.int q n) hp k = k (.obj [.int q n]) := by simp [Ju, AV.ok, AV.one, AV.isAgg, AV.pur, AV.B5, AV.cells]
theorem S6 (b : Bool) : Ju (.bool b) hp k = k (.obj [.bool b]) := by simp [Ju, AV.ok, AV.one, AV.isAgg, AV.pur, AV.B5, AV.cells]
theorem Xn (s : ByteArray) : Ju (.str s) hp k = k (.obj [.str s]) := by simp [Ju, AV.ok, AV.one, AV.isAgg, AV.pur, AV.B5, AV.cells]
theorem AaX (es : List AV) : Ju (.sl es) hp k = k (.obj [.sl es]) := by simp [Ju, AV.ok, AV.one, AV.isAgg, AV.pur, AV.B5, AV.cells]
theorem Xo (cs : List AV) : Ju (.obj cs) hp k = k (.obj [.obj cs]) := by simp [Ju, AV.ok, AV.one, AV.isAgg, AV.pur, AV.B5, AV.cells]
theorem S4 : Ju .An hp k = k (.obj [.An]) := by simp [Ju, AV.ok, AV.one, AV.isAgg, AV.pur, AV.B5, AV.cells]
theorem S5 : Ju .DE hp k = k (.obj [.DE]) := by simp [Ju, AV.ok, AV.one, AV.isAgg, AV.pur, AV.B5, AV.cells]
theorem AaY (f : FuncId) (cs : List AV) : Ju (.fn f cs) hp k = k (.obj [.fn f cs]) := by simp [Ju, AV.ok, AV.one, AV.isAgg, AV.pur, AV.B5, AV.cells]
def Xr (x : AV) (n j : Nat) (ty : TypeId) (hp : Hp) (K : AV → Hp → Prop) : Prop := (x.ok = true ∧ x.cells.length = n) ∧ ∀ v, K (.ptr j v 0 0) ((j, ⟨v, false, ty, n, [x]⟩) :: hp)
theorem UO (F : Nat → AV) (j : Nat) (ty : TypeId) (n : Nat) (x : Ar) : (IOp.HT j ty n x).sem P F hp K = Bd2 (fun k => Xr (x.ev F) n j ty hp k) K ⟨⟩ := eqq rfl
theorem S8 (cs : List AV) (n j : Nat) (ty : TypeId) : Xr (.agg cs) n j ty hp K = (cs.length = n ∧ ∀ v, K (.ptr j v 0 0) ((j, ⟨v, false, ty, n, [.agg cs]⟩) :: hp)) := by simp [Xr, AV.ok, AV.one, AV.isAgg, AV.cells]
theorem S7 (x : AV) (h : x.one = true) (n j : Nat) (ty : TypeId) : Xr x n j ty hp K = (1 = n ∧ ∀ v, K (.ptr j v 0 0) ((j, ⟨v, false, ty, n, [x]⟩) :: hp)) := by simp [Xr, AV.ok, h, Hw h]
theorem RC (F : Nat → AV) (z : List AV) (ps : List (Nat × Nat × Ar)) : (IOp.build z ps).sem P F hp K = Bd (fun k => HV F z ps fun cs => k (.agg cs)) (fun v => K v hp) ⟨⟩ := eqq rfl
theorem QQ (F : Nat → AV) (z : List AV) (k : List AV → Prop) : HV F z [] k = k z := eqq rfl
def Nd (x : AV) (F : Nat → AV) (z : List AV) (off n : Nat) (ps : List (Nat × Nat × Ar)) (k : List AV → Prop) : Prop := (x.ok = true ∧ x.cells.length = n ∧ off + n ≤ z.length) ∧ HV F (lay z off x.cells) ps k
theorem Oq (F : Nat → AV) (z : List AV) (off n : Nat) (x : Ar) (ps : List (Nat × Nat × Ar)) (k : List AV → Prop) : HV F z ((off, n, x) :: ps) k = Nd (x.ev F) F z off n ps k := eqq rfl
theorem Ou (cs : List AV) (F : Nat → AV) (z : List AV) (off n : Nat) (ps : List (Nat × Nat × Ar)) (k : List AV → Prop) : Nd (.agg cs) F z off n ps k = ((cs.length = n ∧ off + n ≤ z.length) ∧ HV F (z.take off ++ (cs ++ z.drop (off + cs.length))) ps k) := by simp [Nd, AV.ok, AV.one, AV.isAgg, AV.cells, lay]
theorem Ot (x : AV) (h : x.one = true) (F : Nat → AV) (z : List AV) (off n : Nat) (ps : List (Nat × Nat × Ar)) (k : List AV → Prop) : Nd x F z off n ps k = ((1 = n ∧ off + n ≤ z.length) ∧ HV F (z.take off ++ (x :: z.drop (off + 1))) ps k) := by simp [Nd, AV.ok, h, Hw h, lay]
theorem Rv (F : Nat → AV) (g : Bool) (n : Nat) (a : Ar) : (IOp.FG g n a).sem P F hp K = Bd (fun k => F9 [] g n (a.ev F) k) (fun v => K v hp) ⟨⟩ := eqq rfl
theorem UK (F : Nat → AV) (g : Bool) (n : Nat) (a : Ar) : (IOp.load g n a).sem P F hp K = Bd (fun k => F9 hp g n (a.ev F) k) (fun v => K v hp) ⟨⟩ := eqq rfl
theorem Rt (F : Nat → AV) (n : Nat) (a x : Ar) : (IOp.store n a x).sem P F hp K = Bd (fun k => LZ hp n (a.ev F) (x.ev F) k) (fun hp => K (.tup []) hp) ⟨⟩ := eqq rfl
theorem Ry (F : Nat → AV) (off : Nat) (x : Ar) : (IOp.B3 off x).sem P F hp K = Bd (fun k => Jt off (x.ev F) k) (fun v => K v hp) ⟨⟩ := eqq rfl
theorem Ze (F : Nat → AV) (g : Bool) (off n : Nat) (x : Ar) : (IOp.fld g off n x).sem P F hp K = Bd (fun k => Ad7 g off n (x.ev F) k) (fun v => K v hp) ⟨⟩ := eqq rfl
theorem Rx (F : Nat → AV) (e : Nat) (x i : Ar) : (IOp.B6 e x i).sem P F hp K = Bd (fun k => Ga hp e (x.ev F) (i.ev F) k) (fun v => K v hp) ⟨⟩ := eqq rfl
theorem Pg (F : Nat → AV) (e : Nat) (x i : Ar) : (IOp.EI e x i).sem P F hp K = Bd (fun k => Ga [] e (x.ev F) (i.ev F) k) (fun v => K v hp) ⟨⟩ := eqq rfl
theorem UH (F : Nat → AV) (x i : Ar) : (IOp.Afs x i).sem P F hp K = Bd (fun k => Xg (x.ev F) (i.ev F) k) (fun v => K v hp) ⟨⟩ := eqq rfl
theorem Zd (F : Nat → AV) (g : Bool) (x : Ar) : (IOp.len g x).sem P F hp K = Bd (fun k => Na g (x.ev F) k) (fun v => K v hp) ⟨⟩ := eqq rfl
theorem UL (F : Nat → AV) (d : IntKind) (x : Ar) : (IOp.conv d x).sem P F hp K = Bd (fun k => Xl d (x.ev F) k) (fun v => K v hp) ⟨⟩ := eqq rfl
theorem NW (F : Nat → AV) (i : Nat) (x : Ar) : (IOp.extract i x).sem P F hp K = Bd (fun k => HU i (x.ev F) k) (fun v => K v hp) ⟨⟩ := eqq rfl
theorem Pc (F : Nat → AV) (x : Ar) : (IOp.Fz x).sem P F hp K = Bd (fun k => Hq (x.ev F) k) (fun v => K v hp) ⟨⟩ := eqq rfl
def AfX (neg : Bool) (x : AV) (hp : Hp) (K : AV → Hp → Prop) : Prop :=
 match x with
 | .sl es => (es = [] → K (.bool (!neg)) hp) ∧ K (.bool neg) hp
 | .An => K (.bool (!neg)) hp
 | _ => False
theorem Rw (F : Nat → AV) (neg : Bool) (x : Ar) : (IOp.ME neg x).sem P F hp K = Bd2 (fun k => AfX neg (x.ev F) hp k) K ⟨⟩ := eqq rfl
theorem AaV (neg : Bool) (es : List AV) : AfX neg (.sl es) hp K = ((es = [] → K (.bool (!neg)) hp) ∧ K (.bool neg) hp) := eqq rfl
theorem SY (neg : Bool) : AfX neg .An hp K = K (.bool (!neg)) hp := eqq rfl
theorem UJ (F : Nat → AV) (f : FuncId) (cs : List Ar) : (IOp.AfO f cs).sem P F hp K = Bd (fun k => k (.fn f (cs.map fun x => x.ev F))) (fun v => K v hp) ⟨⟩ := eqq rfl
def QO (P : Program) (f : FuncId) (args : List AV) (hp : Hp) (k : AV → Prop) : Prop := Oo P f args hp k
theorem Aa {P : Program} {f : FuncId} {args : List AV} {hp : Hp} {k : AV → Prop} (r : AV) (h : Ah P f args r) {kp : DH k} (hk : k r) : Bd (fun k => QO P f args hp k) k kp := ⟨r, .inl h, hk⟩
theorem Dz {P : Program} {f : FuncId} {args args' : List AV} {hp : Hp} {k : AV → Prop} {r : AV} (ks : List Nat) (h : Ah P f args' r) (hs : r.Hf = true) {kp : DH k} (he : args.map (AV.Cb (BZ ks hp)) = args') (hk : k r) : Bd (fun k => QO P f args hp k) k kp := ⟨r, .inr ⟨ks, by rw [he]; exact h, hs⟩, hk⟩
theorem UM (F : Nat → AV) (f : FuncId) (as : List Ar) : (IOp.call f as).sem P F hp K = Bd (fun k => QO P f (as.map fun x => (x.ev F).Cb hp) hp k) (fun v => K v hp) ⟨⟩ := eqq rfl
theorem RB (F : Nat → AV) (f : FuncId) (as : List Ar) : (IOp.WQ f as).sem P F hp K = ((∀ hp, (as.map fun x => (x.ev F).Cb hp) = as.map fun x => x.ev F) ∧ Bd (fun k => QO P f (as.map fun x => x.ev F) [] k) (fun v => K v hp) ⟨⟩) := eqq rfl
def AaW (P : Program) (x : AV) (args : List AV) (hp : Hp) (k : AV → Prop) : Prop := T7 P x args hp k
theorem Rz (F : Nat → AV) (f : Ar) (as : List Ar) : (IOp.AdT f as).sem P F hp K = Bd (fun k => AaW P ((f.ev F).Cb hp) (as.map fun x => (x.ev F).Cb hp) hp k) (fun v => K v hp) ⟨⟩ := eqq rfl
theorem QM (f : FuncId) (caps args : List AV) : AaW P (.fn f caps) args hp k = QO P f (args ++ caps) hp k := eqq rfl
def Ad6 (mx : Bool) (xs : List AV) (k : AV → Prop) : Prop := aMm mx xs k
theorem Acz (F : Nat → AV) (mx : Bool) (xs : List Ar) : (IOp.mm mx xs).sem P F hp K = Bd (fun k => Ad6 mx (xs.map fun x => x.ev F) k) (fun v => K v hp) ⟨⟩ := eqq rfl
theorem Xj (q : IntKind) (a b : Int) : Ad6 true [.int q a, .int q b] k = k (.int q (max a b)) := by simp [Ad6, aMm]
theorem Xi (q : IntKind) (a b : Int) : Ad6 false [.int q a, .int q b] k = k (.int q (min a b)) := by simp [Ad6, aMm]
def Dr (x : AV) (esz : Nat) (lo hi : Option AV) (k : AV → Prop) : Prop := F8 (fun i => if i = 0 then lo.getD .top else hi.getD .top) esz (lo.map fun _ => .t 0) (hi.map fun _ => .t 1) x k
theorem Acb (F : Nat → AV) (x : AV) (esz : Nat) (lo hi : Option Ar) : F8 F esz lo hi x k = Dr x esz (lo.map fun x => x.ev F) (hi.map fun x => x.ev F) k := by
 unfold Dr F8
 have h1 : DX F lo = DX (fun i => if i = 0 then (lo.map fun x => x.ev F).getD .top else (hi.map fun x => x.ev F).getD .top) ((lo.map fun x => x.ev F).map fun _ => Ar.t 0) := by cases lo <;> rfl
 have h2 : DX F hi = DX (fun i => if i = 0 then (lo.map fun x => x.ev F).getD .top else (hi.map fun x => x.ev F).getD .top) ((hi.map fun x => x.ev F).map fun _ => Ar.t 1) := by cases hi <;> rfl
 have h3 : ∀ d, AX F d lo = AX (fun i => if i = 0 then (lo.map fun x => x.ev F).getD .top else (hi.map fun x => x.ev F).getD .top) d ((lo.map fun x => x.ev F).map fun _ => Ar.t 0) := by intro d; cases lo <;> rfl
 have h4 : ∀ d, AX F d hi = AX (fun i => if i = 0 then (lo.map fun x => x.ev F).getD .top else (hi.map fun x => x.ev F).getD .top) d ((hi.map fun x => x.ev F).map fun _ => Ar.t 1) := by intro d; cases hi <;> rfl
 have h5 : (lo = none) = (((lo.map fun x => x.ev F).map fun _ => Ar.t 0) = none) := by cases lo <;> simp
 simp only [h1, h2, h3, h4, h5]
theorem Ru (F : Nat → AV) (e : Nat) (x : Ar) (lo hi : Option Ar) : (IOp.slice e x lo hi).sem P F hp K = Bd (fun k => Dr (x.ev F) e (lo.map fun x => x.ev F) (hi.map fun x => x.ev F) k) (fun v => K v hp) ⟨⟩ := by simp only [IOp.sem]; exact Acb _ _ _ _ _ _
theorem Me (s : ByteArray) (q r : IntKind) (a b : Int) : Dr (.str s) 0 (some (.int q a)) (some (.int r b)) k = ((0 ≤ a ∧ a ≤ b ∧ b ≤ s.size) ∧ k (.str (s.extract a.toNat b.toNat))) := by simp [Dr, F8, DX, AX, Ar.ev, AV.isInt, AV.num]
theorem NS (s : ByteArray) (q : IntKind) (a : Int) : Dr (.str s) 0 (some (.int q a)) none k = ((0 ≤ a ∧ a ≤ s.size) ∧ k (.str (s.extract a.toNat s.size))) := by simp [Dr, F8, DX, AX, Ar.ev, AV.isInt, AV.num, and_assoc]
theorem NT (s : ByteArray) (r : IntKind) (b : Int) : Dr (.str s) 0 none (some (.int r b)) k = ((0 ≤ b ∧ b ≤ s.size) ∧ k (.str (s.extract 0 b.toNat))) := by simp [Dr, F8, DX, AX, Ar.ev, AV.isInt, AV.num]
theorem NU (es : List AV) (e : Nat) (q r : IntKind) (a b : Int) : Dr (.sl es) e (some (.int q a)) (some (.int r b)) k = ((e ≠ 0 ∧ 0 ≤ a ∧ a ≤ b ∧ b ≤ es.length ∧ ∀ x ∈ es, x.cells.length = e) ∧ k (.sl ((es.drop a.toNat).take (b.toNat - a.toNat)))) := by simp [Dr, F8, DX, AX, Ar.ev, AV.isInt, AV.num]
theorem O9 (es : List AV) (e : Nat) (q : IntKind) (a : Int) : Dr (.sl es) e (some (.int q a)) none k = ((e ≠ 0 ∧ 0 ≤ a ∧ a ≤ es.length ∧ ∀ x ∈ es, x.cells.length = e) ∧ k (.sl ((es.drop a.toNat).take (es.length - a.toNat)))) := by simp [Dr, F8, DX, AX, Ar.ev, AV.isInt, AV.num]
theorem Pa (es : List AV) (e : Nat) (r : IntKind) (b : Int) : Dr (.sl es) e none (some (.int r b)) k = ((e ≠ 0 ∧ 0 ≤ b ∧ b ≤ es.length) ∧ k (.sl (es.take b.toNat))) := by simp [Dr, F8, DX, AX, Ar.ev, AV.isInt, AV.num]
theorem Mf (e : Nat) (r : IntKind) (b : Int) : Dr .An e none (some (.int r b)) k = ((e ≠ 0 ∧ b = 0) ∧ k .An) := by simp [Dr, F8, DX, AX, Ar.ev, AV.isInt, AV.num]
theorem NV (j v n e : Nat) (r : IntKind) (b : Int) : Dr (.row j v n) e none (some (.int r b)) k = ((e ≠ 0 ∧ 0 ≤ b ∧ b ≤ n) ∧ k (.row j v b.toNat)) := by simp [Dr, F8, DX, AX, Ar.ev, AV.isInt, AV.num]

/-! slices made, appends -/
def Hr (F : Nat → AV) (esz : Nat) (es : List AV) (ps : List (Nat × Ar)) (k : List AV → Prop) : Prop := D9 F esz es ps k
theorem Ss (F : Nat → AV) (esz : Nat) (es : List AV) (k : List AV → Prop) : Hr F esz es [] k = k es := eqq rfl
def L0 (x : AV) (F : Nat → AV) (esz i : Nat) (es : List AV) (ps : List (Nat × Ar)) (k : List AV → Prop) : Prop := (x.ok = true ∧ x.cells.length = esz ∧ i < es.length) ∧ Hr F esz (es.set i x) ps k
theorem Qu (F : Nat → AV) (esz i : Nat) (x : Ar) (es : List AV) (ps : List (Nat × Ar)) (k : List AV → Prop) : Hr F esz es ((i, x) :: ps) k = L0 (x.ev F) F esz i es ps k := eqq rfl
theorem Sv (cs : List AV) (F : Nat → AV) (esz i : Nat) (es : List AV) (ps : List (Nat × Ar)) (k : List AV → Prop) : L0 (.agg cs) F esz i es ps k = ((cs.length = esz ∧ i < es.length) ∧ Hr F esz (es.set i (.agg cs)) ps k) := by simp [L0, AV.ok, AV.one, AV.isAgg, AV.cells]
theorem Su (x : AV) (h : x.one = true) (F : Nat → AV) (esz i : Nat) (es : List AV) (ps : List (Nat × Ar)) (k : List AV → Prop) : L0 x F esz i es ps k = ((1 = esz ∧ i < es.length) ∧ Hr F esz (es.set i x) ps k) := by simp [L0, AV.ok, h, Hw h]
theorem Y8 (F : Nat → AV) (m : Nat) (z : AV) (ps : List (Nat × Ar)) : (IOp.slP m z ps).sem P F hp K = Bd (fun k => Hr F z.cells.length (List.replicate m z) ps fun es => k (.sl (es.map (AV.pur hp)))) (fun v => K v hp) ⟨⟩ := eqq rfl
theorem UQ (F : Nat → AV) (op : BinOp) (x y : Ar) : (IOp.Ad2 op x y).sem P F hp K = Bd (fun k => Nf op (x.ev F) (y.ev F) k) (fun v => K v hp) ⟨⟩ := eqq rfl
theorem Za (F : Nat → AV) (m : Nat) (z : AV) (ps : List (Nat × Ar)) : (IOp.slF m z ps).sem P F hp K = Bd (fun k => Hr F z.cells.length (List.replicate m z) ps fun es => es.all AV.plain = true ∧ k (.sl es)) (fun v => K v hp) ⟨⟩ := eqq rfl
theorem RT : List.all [] AV.plain = true := eqq rfl
theorem Py (x : AV) (r : List AV) : List.all (x :: r) AV.plain = (x.plain && r.all AV.plain) := eqq rfl
theorem RU (q : IntKind) (n : Int) : (AV.int q n).plain = true := eqq rfl
theorem RS (s : ByteArray) : (AV.str s).plain = true := eqq rfl
theorem Pz (b : Bool) : (AV.bool b).plain = true := eqq rfl
theorem Y9 (F : Nat → AV) (j : Nat) (ty : TypeId) (m : Nat) (z : AV) (ps : List (Nat × Ar)) : (IOp.slO j ty m z ps).sem P F hp K = Bd2 (fun k => Hr F z.cells.length (List.replicate m z) ps fun es => ∀ v, k (.row j v m) ((j, ⟨v, false, ty, z.cells.length, es⟩) :: hp)) K ⟨⟩ := eqq rfl
def QR (hp : Hp) (j : Nat) (ty : TypeId) (esz bytes : Nat) (s x : AV) (K : AV → Hp → Prop) : Prop := Ra hp j ty esz bytes s ((Hd hp x).map (·.map (AV.pur hp))) K
theorem Pj (F : Nat → AV) (j : Nat) (ty : TypeId) (e b : Nat) (s x : Ar) : (IOp.append j ty e b s x).sem P F hp K = Bd2 (fun k => QR hp j ty e b (s.ev F) (x.ev F) k) K ⟨⟩ := eqq rfl
theorem US (F : Nat → AV) (j : Nat) (ty : TypeId) (e b : Nat) (s x : Ar) : (IOp.YN j ty e b s x).sem P F hp K = Bd2 (fun k => QR hp j ty e b (s.ev F) (x.ev F) k) (fun r hp' => K (r.pur (Qk r hp')) (Qk r hp')) ⟨⟩ := eqq rfl
theorem Wf (j v n : Nat) : Qk (.row j v n) hp = Gs hp j := eqq rfl
def Xs (bx : Option Box) (hp : Hp) (j v n : Nat) (ty : TypeId) (esz bytes : Nat) (es : List AV) (K : AV → Hp → Prop) : Prop :=
 match bx with
 | some b => (b.ver = v ∧ b.frz = false ∧ b.ty = ty ∧ b.esz = esz ∧ n ≤ b.es.length ∧ (∀ e ∈ es, e.cells.length = esz) ∧ (n + es.length) * bytes ≤ 140737488355328 ∧ n + es.length ≤ maxLen) ∧
   ∀ v', K (.row j v' (n + es.length)) ((j, ⟨v', false, ty, esz, b.es.take n ++ es⟩) :: hp)
 | none => False
theorem AaQ (i j v n : Nat) (ty : TypeId) (e b : Nat) (es : List AV) : QR hp i ty e b (.row j v n) (.sl es) K = Xs (Ao hp j) hp j v n ty e b (es.map (AV.pur hp)) K := by
 unfold QR Ra Xs Hd; simp only [Option.map_some]; cases Ao hp j <;> rfl
theorem Xa (i j v n : Nat) (ty : TypeId) (e b : Nat) : QR hp i ty e b (.row j v n) .An K = Xs (Ao hp j) hp j v n ty e b [] K := by
 unfold QR Ra Xs Hd; simp only [Option.map_some, List.map_nil]; cases Ao hp j <;> rfl
theorem Xb (j : Nat) (ty : TypeId) (e b : Nat) (es : List AV) : QR hp j ty e b .An (.sl es) K = ((((∀ x ∈ es.map (AV.pur hp), x.cells.length = e) ∧ (es.map (AV.pur hp)).length * b ≤ 140737488355328 ∧ (es.map (AV.pur hp)).length ≤ maxLen)) ∧
  ∀ v, K (.row j v (es.map (AV.pur hp)).length) ((j, ⟨v, false, ty, e, es.map (AV.pur hp)⟩) :: hp)) := rfl
theorem SX (b : Box) (j v n : Nat) (ty : TypeId) (esz bytes : Nat) (es : List AV) : Xs (some b) hp j v n ty esz bytes es K = ((b.ver = v ∧ b.frz = false ∧ b.ty = ty ∧ b.esz = esz ∧ n ≤ b.es.length ∧ (∀ e ∈ es, e.cells.length = esz) ∧ (n + es.length) * bytes ≤ 140737488355328 ∧ n + es.length ≤ maxLen) ∧
   ∀ v', K (.row j v' (n + es.length)) ((j, ⟨v', false, ty, esz, b.es.take n ++ es⟩) :: hp)) := rfl
def Agp (x : AV) (j : Nat) (ty : TypeId) (bytes : Nat) (z : AV) (hp : Hp) (K : AV → Hp → Prop) : Prop :=
 match x with
 | .int _ n => (0 ≤ n ∧ n * bytes ≤ 140737488355328) ∧ ∀ v, K (.row j v n.toNat) ((j, ⟨v, false, ty, z.cells.length, List.replicate n.toNat z⟩) :: hp)
 | _ => False
theorem AcA (F : Nat → AV) (j : Nat) (ty : TypeId) (b : Nat) (z : AV) (x : Ar) : (IOp.mkSlice j ty b z x).sem P F hp K = Bd2 (fun k => Agp (x.ev F) j ty b z hp k) K ⟨⟩ := eqq rfl
theorem Ade (q : IntKind) (n : Int) (j : Nat) (ty : TypeId) (b : Nat) (z : AV) : Agp (.int q n) j ty b z hp K = ((0 ≤ n ∧ n * b ≤ 140737488355328) ∧ ∀ v, K (.row j v n.toNat) ((j, ⟨v, false, ty, z.cells.length, List.replicate n.toNat z⟩) :: hp)) := eqq rfl
def Aeb (hp : Hp) (x : AV) (k : AV → Prop) : Prop := Aec (Hd hp x) k
theorem Zh (F : Nat → AV) (x : Ar) : (IOp.b2s x).sem P F hp K = Bd (fun k => Aeb hp (x.ev F) k) (fun v => K v hp) ⟨⟩ := eqq rfl
def Aed (s n : AV) (j : Nat) (ty : TypeId) (bytes : Nat) (z : AV) (hp : Hp) (K : AV → Hp → Prop) : Prop := AaZ s n bytes fun m => ∀ v, K (.row j v m) ((j, ⟨v, false, ty, z.cells.length, List.replicate m z⟩) :: hp)
theorem UR (F : Nat → AV) (j : Nat) (ty : TypeId) (b : Nat) (z : AV) (s x : Ar) : (IOp.Xc j ty b z s x).sem P F hp K = Bd2 (fun k => Aed (s.ev F) (x.ev F) j ty b z hp k) K ⟨⟩ := eqq rfl
theorem SW (q : IntKind) (n : Int) (j : Nat) (ty : TypeId) (b : Nat) (z : AV) : Aed .An (.int q n) j ty b z hp K = ((0 < n ∧ n * b ≤ 140737488355328 ∧ n ≤ 1099511627776) ∧ ∀ v, K (.row j v n.toNat) ((j, ⟨v, false, ty, z.cells.length, List.replicate n.toNat z⟩) :: hp)) := eqq rfl
def Afi (x : AV) (j : Nat) (ty : TypeId) (hp : Hp) (K : AV → Hp → Prop) : Prop := Ae3 x fun s => ∀ v, K (.row j v s.size) ((j, ⟨v, false, ty, 1, La s⟩) :: hp)
theorem Zb (F : Nat → AV) (j : Nat) (ty : TypeId) (x : Ar) : (IOp.s2b j ty x).sem P F hp K = Bd2 (fun k => Afi (x.ev F) j ty hp k) K ⟨⟩ := eqq rfl
theorem Zj (s : ByteArray) (j : Nat) (ty : TypeId) : Afi (.str s) j ty hp K = ∀ v, K (.row j v s.size) ((j, ⟨v, false, ty, 1, La s⟩) :: hp) := eqq rfl
theorem Zf (F : Nat → AV) (x : Ar) : (IOp.cap x).sem P F hp K = Bd (fun k => Ad9 (x.ev F) k) (fun v => K v hp) ⟨⟩ := eqq rfl
theorem WL : Ad9 .An k = k (.int .i64 0) := eqq rfl
theorem T2 {x : AV} {es : List AV} (l : List UInt8) (h : Hd hp x = some es) (he : es = l.map fun b => .int .u8 b.toNat) (hk : k (.str ⟨l.toArray⟩)) : Aeb hp x k := by unfold Aeb Aec; rw [h]; exact ⟨l, he, hk⟩

/-! scrutinees decided -/
theorem RV (t : Bool) (a b : AV) : Xh (.bool t) a b k = Pk t a b k := eqq rfl
theorem W3 (op : BinOp) (q : IntKind) (a b : Int) : Nf op (.int q a) (.int q b) k = Jc op q a b k := by simp [Nf]
theorem AaL (op : BinOp) (kd : EqK) (q : IntKind) (a b : Int) : Hs op kd (.int q a) (.int q b) k = Jc op q a b k := by simp [Hs]
theorem AaE (op : BinOp) (kd : EqK) (a b : ByteArray) : Hs op kd (.str a) (.str b) k = Xf op a b k := eqq rfl
theorem W2 (op : BinOp) (a b : Bool) : Hs op .bool (.bool a) (.bool b) k = Ea op (a == b) k := by simp [Hs]
theorem AaK (op : BinOp) : Hs op .ptr .DE .DE k = Ea op true k := by simp [Hs]
theorem AaJ (op : BinOp) (cs : List AV) : Hs op .ptr (.obj cs) .DE k = Ea op false k := by simp [Hs]
theorem AaI (op : BinOp) (cs : List AV) : Hs op .ptr .DE (.obj cs) k = Ea op false k := by simp [Hs]
theorem AaH (op : BinOp) (j v i o : Nat) : Hs op .ptr (.ptr j v i o) .DE k = Ea op false k := by simp [Hs]
theorem AaG (op : BinOp) : Hs op .slice .An .An k = Ea op true k := by simp [Hs]
theorem AaF (op : BinOp) (es : List AV) : Hs op .slice (.sl es) .An k = (es ≠ [] ∧ Ea op false k) := by simp [Hs]
theorem W1 (op : BinOp) (ks : List Nat) (xs ys : List AV) : Hs op (.flat ks) (.agg xs) (.agg ys) k = T6 op (EM ks xs ys) k := by simp [Hs, Ad8]
theorem Qo (op : BinOp) (b : Bool) : T6 op (some b) k = Ea op b k := eqq rfl
theorem Wm : EM [] [] [] = some true := eqq rfl
theorem Wn (q : IntKind) (a b : Int) (ks : List Nat) (xs ys : List AV) : EM (1 :: ks) (.int q a :: xs) (.int q b :: ys) = (EM ks xs ys).map (decide (a = b) && ·) := by simp [EM]
theorem Sk (a b : Bool) (ks : List Nat) (xs ys : List AV) : EM (0 :: ks) (.bool a :: xs) (.bool b :: ys) = (EM ks xs ys).map (decide (a = b) && ·) := eqq rfl
theorem Wl (a b : ByteArray) (ks : List Nat) (xs ys : List AV) : EM (2 :: ks) (.str a :: xs) (.str b :: ys) = (EM ks xs ys).map (decide (a = b) && ·) := eqq rfl
theorem Aal (q : IntKind) (a b : Int) : Jc .add q a b k = (inR q (a + b) ∧ k (.int q (a + b))) := eqq rfl
theorem Aab (q : IntKind) (a b : Int) : Jc .sub q a b k = (inR q (a - b) ∧ k (.int q (a - b))) := eqq rfl
theorem Aaf (q : IntKind) (a b : Int) : Jc .mul q a b k = (inR q (a * b) ∧ k (.int q (a * b))) := eqq rfl
theorem Aad (q : IntKind) (a b : Int) : Jc .quo q a b k = ((b ≠ 0 ∧ inR q (a.tdiv b)) ∧ k (.int q (a.tdiv b))) := eqq rfl
theorem Aac (q : IntKind) (a b : Int) : Jc .rem q a b k = ((b ≠ 0 ∧ inR q (a.tmod b)) ∧ k (.int q (a.tmod b))) := eqq rfl
theorem Aak (q : IntKind) (a b : Int) : Jc .eql q a b k = k (.bool (decide (a = b))) := eqq rfl
theorem Aae (q : IntKind) (a b : Int) : Jc .neq q a b k = k (.bool (!decide (a = b))) := eqq rfl
theorem Aag (q : IntKind) (a b : Int) : Jc .lss q a b k = k (.bool (decide (a < b))) := eqq rfl
theorem Aah (q : IntKind) (a b : Int) : Jc .leq q a b k = k (.bool (decide (a ≤ b))) := eqq rfl
theorem Aai (q : IntKind) (a b : Int) : Jc .gtr q a b k = k (.bool (decide (b < a))) := eqq rfl
theorem Aaj (q : IntKind) (a b : Int) : Jc .geq q a b k = k (.bool (decide (b ≤ a))) := eqq rfl
theorem Y4 (a b : ByteArray) : Xf .add a b k = (a.size + b.size ≤ maxLen ∧ k (.str (a ++ b))) := eqq rfl
theorem Y3 (a b : ByteArray) : Xf .eql a b k = k (.bool (decide (a = b))) := eqq rfl
theorem Y1 (a b : ByteArray) : Xf .neq a b k = k (.bool (!decide (a = b))) := eqq rfl
theorem Y2 (a b : ByteArray) : Xf .lss a b k = k (.bool (Op.bytesLess a.toList b.toList)) := eqq rfl
theorem WT (b : Bool) : Ea .eql b k = k (.bool b) := eqq rfl
theorem WS (b : Bool) : Ea .neq b k = k (.bool (!b)) := eqq rfl
theorem Acj (b : Bool) : aUn .not (.bool b) k = k (.bool (!b)) := eqq rfl
theorem Ack (q : IntKind) (n : Int) : aUn .neg (.int q n) k = (inR q (-n) ∧ k (.int q (-n))) := eqq rfl
theorem VN (g : Bool) (n : Nat) (cs : List AV) : F9 hp g n (.obj cs) k = Gj g cs 0 n k := eqq rfl
def YQ (bx : Option Box) (g : Bool) (n v i off : Nat) (k : AV → Prop) : Prop :=
 match bx with
 | some b => (b.ver = v ∧ i < b.es.length) ∧ Gj g (b.es.getD i .top).cells off n k
 | none => False
theorem VM (g : Bool) (n j v i off : Nat) : F9 hp g n (.ptr j v i off) k = YQ (Ao hp j) g n v i off k := by cases h : Ao hp j <;> simp [F9, YQ, h]
theorem PX (b : Box) (g : Bool) (n v i off : Nat) : YQ (some b) g n v i off k = ((b.ver = v ∧ i < b.es.length) ∧ Gj g (b.es.getD i .top).cells off n k) := eqq rfl
theorem RZ (cs : List AV) (off n : Nat) : Gj true cs off n k = (off + n ≤ cs.length ∧ k (.agg ((cs.drop off).take n))) := eqq rfl
theorem PC (cs : List AV) (off n : Nat) : Gj false cs off n k = (off < cs.length ∧ k (cs.getD off .top)) := eqq rfl
def T4 (bx : Option Box) (hp : Hp) (n j v i off : Nat) (x : AV) (K : Hp → Prop) : Prop :=
 match bx with
 | some b => (b.ver = v ∧ b.frz = false ∧ i < b.es.length ∧ x.ok = true ∧ x.cells.length = n ∧ off + n ≤ (b.es.getD i .top).cells.length) ∧
     K ((j, { b with es := b.es.set i ((b.es.getD i .top).HA off x.cells) }) :: hp)
 | none => False
theorem Rl (n j v i off : Nat) (x : AV) (K : Hp → Prop) : LZ hp n (.ptr j v i off) x K = T4 (Ao hp j) hp n j v i off x K := by cases h : Ao hp j <;> simp [LZ, T4, h]
theorem NQ (b : Box) (n j v i off : Nat) (x : AV) (K : Hp → Prop) : T4 (some b) hp n j v i off x K = ((b.ver = v ∧ b.frz = false ∧ i < b.es.length ∧ x.ok = true ∧ x.cells.length = n ∧ off + n ≤ (b.es.getD i .top).cells.length) ∧
     K ((j, { b with es := b.es.set i ((b.es.getD i .top).HA off x.cells) }) :: hp)) := rfl
theorem So (off : Nat) (cs : List AV) : Jt off (.obj cs) k = k (.obj (cs.drop off)) := eqq rfl
theorem Sn (off j v i o : Nat) : Jt off (.ptr j v i o) k = k (.ptr j v i (o + off)) := eqq rfl
theorem Aau (g : Bool) (off n : Nat) (cs : List AV) : Ad7 g off n (.agg cs) k = Gj g cs off n k := eqq rfl
theorem V9 (e : Nat) (es : List AV) (q : IntKind) (i : Int) : Ga hp e (.sl es) (.int q i) k = ((0 ≤ i ∧ i < es.length ∧ (es.getD i.toNat .top).cells.length = e) ∧ k (.obj (es.getD i.toNat .top).cells)) := eqq rfl
def T5 (bx : Option Box) (e j v n : Nat) (i : Int) (k : AV → Prop) : Prop :=
 match bx with
 | some b => (b.ver = v ∧ b.esz = e ∧ 0 ≤ i ∧ i < n) ∧ k (.ptr j v i.toNat 0)
 | none => False
theorem Sf (e j v n : Nat) (q : IntKind) (i : Int) : Ga hp e (.row j v n) (.int q i) k = T5 (Ao hp j) e j v n i k := by cases h : Ao hp j <;> simp [Ga, T5, h]
theorem N9 (b : Box) (e j v n : Nat) (i : Int) : T5 (some b) e j v n i k = ((b.ver = v ∧ b.esz = e ∧ 0 ≤ i ∧ i < n) ∧ k (.ptr j v i.toNat 0)) := eqq rfl
theorem Uy (s : ByteArray) (q : IntKind) (i : Int) : Xg (.str s) (.int q i) k = ((0 ≤ i ∧ i < s.size) ∧ k (.int .u8 (CU s i.toNat).toNat)) := eqq rfl
theorem Z5 (s : ByteArray) : Na true (.str s) k = k (.int .i64 s.size) := by simp [Na]
theorem Adp (es : List AV) : Na false (.sl es) k = k (.int .i64 es.length) := by simp [Na]
theorem Z6 (j v n : Nat) : Na false (.row j v n) k = k (.int .i64 n) := by simp [Na]
theorem VP : Na false .An k = k (.int .i64 0) := by simp [Na]
theorem WB (d q : IntKind) (n : Int) : Xl d (.int q n) k = (inR d n ∧ k (.int d n)) := eqq rfl
theorem Og (i : Nat) (xs : List AV) : HU i (.tup xs) k = (i < xs.length ∧ k (xs.getD i .top)) := eqq rfl
theorem PR (cs : List AV) : Hq (.obj cs) k = k (.obj cs) := eqq rfl
theorem PQ (j v i o : Nat) : Hq (.ptr j v i o) k = k (.ptr j v i o) := eqq rfl
theorem R2 (f : FuncId) (cs : List AV) : Hq (.fn f cs) k = k (.fn f cs) := eqq rfl
theorem Zn (F : Nat → AV) (k : List AV → Prop) : Ca hp F [] k = k [] := eqq rfl
theorem Ae9 (F : Nat → AV) (i : Nat) (rs : List Gc) (k : List AV → Prop) : Ca hp F (.t i :: rs) k = Ca hp F rs fun xs => k (F i :: xs) := eqq rfl
theorem Afa (F : Nat → AV) (g : Bool) (n i : Nat) (rs : List Gc) (k : List AV → Prop) : Ca hp F (.c g n i :: rs) k = F9 hp g n (F i) fun x => Ca hp F rs fun xs => k (x :: xs) := eqq rfl
theorem Sr (i : Nat) : entry i [] = [] := eqq rfl
theorem Qt (i : Nat) (x : AV) (xs : List AV) : entry i (x :: xs) = (i, x) :: entry (i + 1) xs := eqq rfl

/-! reading own rows for good -/
theorem Zu (q : IntKind) (n : Int) : (AV.int q n).pur hp = .int q n := eqq rfl
theorem U5 (b : Bool) : (AV.bool b).pur hp = .bool b := eqq rfl
theorem Zq (s : ByteArray) : (AV.str s).pur hp = .str s := eqq rfl
theorem AcI (es : List AV) : (AV.sl es).pur hp = .sl es := eqq rfl
theorem Zt (cs : List AV) : (AV.obj cs).pur hp = .obj cs := eqq rfl
theorem U3 : AV.An.pur hp = .An := eqq rfl
theorem U4 : AV.DE.pur hp = .DE := eqq rfl
theorem AcK (f : FuncId) (cs : List AV) : (AV.fn f cs).pur hp = .fn f cs := eqq rfl
theorem Zv (cs : List AV) : (AV.agg cs).pur hp = .agg (cs.map (AV.B5 hp)) := eqq rfl
theorem Zp (cs : List AV) : (AV.tup cs).pur hp = .tup (cs.map (AV.B5 hp)) := eqq rfl
theorem Zr (j v n : Nat) : (AV.row j v n).pur hp = (AV.row j v n).B5 hp := eqq rfl
theorem Zs (j v i o : Nat) : (AV.ptr j v i o).pur hp = (AV.ptr j v i o).B5 hp := eqq rfl
theorem Vh (q : IntKind) (n : Int) : (AV.int q n).B5 hp = .int q n := eqq rfl
theorem RP (b : Bool) : (AV.bool b).B5 hp = .bool b := eqq rfl
theorem Vd (s : ByteArray) : (AV.str s).B5 hp = .str s := eqq rfl
theorem Zz (es : List AV) : (AV.sl es).B5 hp = .sl es := eqq rfl
theorem Vg (cs : List AV) : (AV.obj cs).B5 hp = .obj cs := eqq rfl
theorem RN : AV.An.B5 hp = .An := eqq rfl
theorem RO : AV.DE.B5 hp = .DE := eqq rfl
theorem ZA (f : FuncId) (cs : List AV) : (AV.fn f cs).B5 hp = .fn f cs := eqq rfl
theorem Vi (cs : List AV) : (AV.agg cs).B5 hp = .agg cs := eqq rfl
def XW (bx : Option Box) (j v n : Nat) : AV :=
 match bx with
 | some b => if b.ver = v ∧ b.frz = true ∧ n ≤ b.es.length then .sl (b.es.take n) else .row j v n
 | none => .row j v n
theorem Ve (j v n : Nat) : (AV.row j v n).B5 hp = XW (Ao hp j) j v n := eqq rfl
theorem RI (b : Box) (j v n : Nat) : XW (some b) j v n = if b.ver = v ∧ b.frz = true ∧ n ≤ b.es.length then .sl (b.es.take n) else .row j v n := eqq rfl
theorem RJ (j v n : Nat) : XW none j v n = .row j v n := eqq rfl
def AcL (bx : Option Box) (j v i o : Nat) : AV :=
 match bx with
 | some b => if b.ver = v ∧ b.frz = true ∧ i < b.es.length then .obj ((b.es.getD i .top).cells.drop o) else .ptr j v i o
 | none => .ptr j v i o
theorem Vf (j v i o : Nat) : (AV.ptr j v i o).B5 hp = AcL (Ao hp j) j v i o := eqq rfl
theorem Pt (b : Box) (j v i o : Nat) : AcL (some b) j v i o = if b.ver = v ∧ b.frz = true ∧ i < b.es.length then .obj ((b.es.getD i .top).cells.drop o) else .ptr j v i o := eqq rfl
theorem Pu (j v i o : Nat) : AcL none j v i o = .ptr j v i o := eqq rfl
theorem Pv (x : AV) : AV.B5 [] x = x := by cases x <;> rfl
theorem Eh (l : List AV) : l.map (AV.B5 []) = l := by
 have : AV.B5 [] = id := funext Pv
 rw [this, List.map_id]
theorem OJ (x : AV) : AV.pur [] x = x := by cases x <;> first | rfl | exact congrArg AV.agg (Eh _) | exact congrArg AV.tup (Eh _)
theorem N6 (l : List AV) : l.map (AV.pur []) = l := by
 have : AV.pur [] = id := funext OJ
 rw [this, List.map_id]
theorem Va (x : AV) : AV.Cb [] x = x := by cases x <;> first | rfl | exact OJ _ | exact congrArg (AV.fn _) (Eh _) | exact congrArg AV.agg (Eh _) | exact congrArg AV.tup (Eh _)
theorem Zx (f : FuncId) (cs : List AV) : (AV.fn f cs).Cb hp = .fn f (cs.map (AV.B5 hp)) := eqq rfl
theorem Vb (q : IntKind) (n : Int) : (AV.int q n).Cb hp = .int q n := eqq rfl
theorem RM (b : Bool) : (AV.bool b).Cb hp = .bool b := eqq rfl
theorem U6 (s : ByteArray) : (AV.str s).Cb hp = .str s := eqq rfl
theorem Zw (es : List AV) : (AV.sl es).Cb hp = .sl es := eqq rfl
theorem U9 (cs : List AV) : (AV.obj cs).Cb hp = .obj cs := eqq rfl
theorem RK : AV.An.Cb hp = .An := eqq rfl
theorem RL : AV.DE.Cb hp = .DE := eqq rfl
theorem Vc (cs : List AV) : (AV.agg cs).Cb hp = .agg (cs.map (AV.B5 hp)) := eqq rfl
theorem U7 (j v n : Nat) : (AV.row j v n).Cb hp = (AV.row j v n).B5 hp := eqq rfl
theorem U8 (j v i o : Nat) : (AV.ptr j v i o).Cb hp = (AV.ptr j v i o).B5 hp := eqq rfl
theorem SK (cs : List AV) : (AV.agg cs).cells = cs := eqq rfl
theorem ZR (q : IntKind) (n : Int) : AV.one (.int q n) = true := eqq rfl
theorem ok_int (q : IntKind) (n : Int) : AV.ok (.int q n) = true := eqq rfl
theorem SJ (q : IntKind) (n : Int) : AV.cells (.int q n) = [.int q n] := eqq rfl
theorem UF (q : IntKind) (n : Int) (x : AV) : AV.HA (.int q n) 0 [x] = x := eqq rfl
theorem VA (b : Bool) : AV.one (.bool b) = true := eqq rfl
theorem ZW (b : Bool) : AV.ok (.bool b) = true := eqq rfl
theorem QA (b : Bool) : AV.cells (.bool b) = [.bool b] := eqq rfl
theorem Rs (b : Bool) (x : AV) : AV.HA (.bool b) 0 [x] = x := eqq rfl
theorem ZN (s : ByteArray) : AV.one (.str s) = true := eqq rfl
theorem AcY (s : ByteArray) : AV.ok (.str s) = true := eqq rfl
theorem SE (s : ByteArray) : AV.cells (.str s) = [.str s] := eqq rfl
theorem UB (s : ByteArray) (x : AV) : AV.HA (.str s) 0 [x] = x := eqq rfl
theorem AcW (es : List AV) : AV.one (.sl es) = true := eqq rfl
theorem Afd (es : List AV) : AV.ok (.sl es) = true := eqq rfl
theorem WJ (es : List AV) : AV.cells (.sl es) = [.sl es] := eqq rfl
theorem Y6 (es : List AV) (x : AV) : AV.HA (.sl es) 0 [x] = x := eqq rfl
theorem ZQ (cs : List AV) : AV.one (.obj cs) = true := eqq rfl
theorem Ac1 (cs : List AV) : AV.ok (.obj cs) = true := eqq rfl
theorem SI (cs : List AV) : AV.cells (.obj cs) = [.obj cs] := eqq rfl
theorem UE (cs : List AV) (x : AV) : AV.HA (.obj cs) 0 [x] = x := eqq rfl
theorem Vx  : AV.one (.An) = true := eqq rfl
theorem ZT  : AV.ok (.An) = true := eqq rfl
theorem Qx  : AV.cells (.An) = [.An] := eqq rfl
theorem Rp  (x : AV) : AV.HA (.An) 0 [x] = x := eqq rfl
theorem Vy  : AV.one (.DE) = true := eqq rfl
theorem ZU  : AV.ok (.DE) = true := eqq rfl
theorem Qy  : AV.cells (.DE) = [.DE] := eqq rfl
theorem Rq  (x : AV) : AV.HA (.DE) 0 [x] = x := eqq rfl
theorem Vz  : AV.one (.Iy) = true := eqq rfl
theorem ZV  : AV.ok (.Iy) = true := eqq rfl
theorem Qz  : AV.cells (.Iy) = [.Iy] := eqq rfl
theorem Rr  (x : AV) : AV.HA (.Iy) 0 [x] = x := eqq rfl
theorem AcX (f : FuncId) (cs : List AV) : AV.one (.fn f cs) = true := eqq rfl
theorem Afe (f : FuncId) (cs : List AV) : AV.ok (.fn f cs) = true := eqq rfl
theorem WK (f : FuncId) (cs : List AV) : AV.cells (.fn f cs) = [.fn f cs] := eqq rfl
theorem Y7 (f : FuncId) (cs : List AV) (x : AV) : AV.HA (.fn f cs) 0 [x] = x := eqq rfl
theorem ZO (j v n : Nat) : AV.one (.row j v n) = true := eqq rfl
theorem AcZ (j v n : Nat) : AV.ok (.row j v n) = true := eqq rfl
theorem SG (j v n : Nat) : AV.cells (.row j v n) = [.row j v n] := eqq rfl
theorem UC (j v n : Nat) (x : AV) : AV.HA (.row j v n) 0 [x] = x := eqq rfl
theorem ZP (j v i o : Nat) : AV.one (.ptr j v i o) = true := eqq rfl
theorem Ac0 (j v i o : Nat) : AV.ok (.ptr j v i o) = true := eqq rfl
theorem SH (j v i o : Nat) : AV.cells (.ptr j v i o) = [.ptr j v i o] := eqq rfl
theorem UD (j v i o : Nat) (x : AV) : AV.HA (.ptr j v i o) 0 [x] = x := eqq rfl
theorem Ac2 (cs : List AV) : AV.ok (.agg cs) = true := eqq rfl
theorem UG (cs : List AV) (o : Nat) (xs : List AV) : AV.HA (.agg cs) o xs = .agg (lay cs o xs) := eqq rfl
theorem Adr (cs : List AV) (o : Nat) (xs : List AV) : lay cs o xs = cs.take o ++ xs ++ cs.drop (o + xs.length) := eqq rfl
theorem Wr (x : AV) : J9 hp [x] = x.pur hp := eqq rfl
theorem Wq (x y : AV) : J9 hp [x, y] = .tup [x.pur hp, y.pur hp] := eqq rfl
theorem Qq (x y z : AV) : J9 hp [x, y, z] = .tup [x.pur hp, y.pur hp, z.pur hp] := eqq rfl
theorem Sm : J9 hp [] = .tup [] := eqq rfl
theorem Aam (n : Int) : inR .i64 n = (-9223372036854775808 ≤ n ∧ n ≤ 9223372036854775807) := eqq rfl
theorem Adz (n : Int) : inR .u8 n = (0 ≤ n ∧ n ≤ 255) := eqq rfl
end

theorem zA.{u} {p : Prop} (α : Sort u) [Nonempty α] : (α → p) ↔ p := forall_const α
theorem zI.{u} (α : Sort u) : (α → True) = True := implies_true α
theorem zN.{u} {α : Sort u} (a b : α) : (a ≠ b) = ¬(a = b) := ne_eq a b
theorem zE.{u} {α : Sort u} {p : α → Prop} {a' : α} : (∀ a, a = a' → p a) ↔ p a' := forall_eq
theorem SD : type_of% (And.intro (And.intro (And.intro (And.intro (And.intro (And.intro @W4 @QC) (And.intro @W7 (And.intro @W9 @AaM))) (And.intro (And.intro @PI @PJ) (And.intro @PH (And.intro @brt @brf)))) (And.intro (And.intro (And.intro @bnt @bnf) (And.intro @pkt (And.intro @pkf @W8))) (And.intro (And.intro @SR (And.intro @Ms @Mq)) (And.intro @Mt (And.intro @Mr @W6))))) (And.intro (And.intro (And.intro (And.intro @SQ @Mo) (And.intro @Mn (And.intro @Mp @AaN))) (And.intro (And.intro @N2 (And.intro @N3 @N1)) (And.intro @Jx (And.intro @Mv @W5)))) (And.intro (And.intro (And.intro @RA @Ph) (And.intro @Kh (And.intro @N4 @ZL))) (And.intro (And.intro @ZK (And.intro @Vu @R0)) (And.intro @PK (And.intro @Agi @Agk)))))) (And.intro (And.intro (And.intro (And.intro (And.intro @Agj @Aaw) (And.intro @Aav (And.intro @Aaq @Aap))) (And.intro (And.intro @Wc (And.intro @Zc @UI)) (And.intro @Zg (And.intro @UP @Acy)))) (And.intro (And.intro (And.intro @UN @UO) (And.intro @RC (And.intro @Rv @UK))) (And.intro (And.intro @Rt (And.intro @Ry @Ze)) (And.intro @Rx (And.intro @Pg @UH))))) (And.intro (And.intro (And.intro (And.intro @Zd @UL) (And.intro @NW (And.intro @Pc @Rw))) (And.intro (And.intro @UJ (And.intro @UM @RB)) (And.intro @Rz (And.intro @Acz @Ru)))) (And.intro (And.intro (And.intro @Y8 @UQ) (And.intro @Za (And.intro @Y9 @Pj))) (And.intro (And.intro @US (And.intro @AcA @Zh)) (And.intro @UR (And.intro @Zb @Zf))))))) := (And.intro (And.intro (And.intro (And.intro (And.intro (And.intro @W4 @QC) (And.intro @W7 (And.intro @W9 @AaM))) (And.intro (And.intro @PI @PJ) (And.intro @PH (And.intro @brt @brf)))) (And.intro (And.intro (And.intro @bnt @bnf) (And.intro @pkt (And.intro @pkf @W8))) (And.intro (And.intro @SR (And.intro @Ms @Mq)) (And.intro @Mt (And.intro @Mr @W6))))) (And.intro (And.intro (And.intro (And.intro @SQ @Mo) (And.intro @Mn (And.intro @Mp @AaN))) (And.intro (And.intro @N2 (And.intro @N3 @N1)) (And.intro @Jx (And.intro @Mv @W5)))) (And.intro (And.intro (And.intro @RA @Ph) (And.intro @Kh (And.intro @N4 @ZL))) (And.intro (And.intro @ZK (And.intro @Vu @R0)) (And.intro @PK (And.intro @Agi @Agk)))))) (And.intro (And.intro (And.intro (And.intro (And.intro @Agj @Aaw) (And.intro @Aav (And.intro @Aaq @Aap))) (And.intro (And.intro @Wc (And.intro @Zc @UI)) (And.intro @Zg (And.intro @UP @Acy)))) (And.intro (And.intro (And.intro @UN @UO) (And.intro @RC (And.intro @Rv @UK))) (And.intro (And.intro @Rt (And.intro @Ry @Ze)) (And.intro @Rx (And.intro @Pg @UH))))) (And.intro (And.intro (And.intro (And.intro @Zd @UL) (And.intro @NW (And.intro @Pc @Rw))) (And.intro (And.intro @UJ (And.intro @UM @RB)) (And.intro @Rz (And.intro @Acz @Ru)))) (And.intro (And.intro (And.intro @Y8 @UQ) (And.intro @Za (And.intro @Y9 @Pj))) (And.intro (And.intro @US (And.intro @AcA @Zh)) (And.intro @UR (And.intro @Zb @Zf)))))))
theorem SU0 : type_of% (And.intro (And.intro (And.intro (And.intro (And.intro (And.intro (And.intro @Ags (And.intro @Aeg @Aef)) (And.intro (And.intro @Xx @Afl) (And.intro @Aa3 @Aa2))) (And.intro (And.intro (And.intro @Aa4 @S9) (And.intro @AdV @AdX)) (And.intro (And.intro @AcR @QL) (And.intro @Ql @Si)))) (And.intro (And.intro (And.intro (And.intro @Qc @Oa) (And.intro @I7 @EX)) (And.intro (And.intro @Aar @Qf) (And.intro @Qg @Wh))) (And.intro (And.intro (And.intro @Sj @Wb) (And.intro @I6 @Wa)) (And.intro (And.intro @Nv @LP) (And.intro @Qb @Sg))))) (And.intro (And.intro (And.intro (And.intro @LQ (And.intro @On @Ol)) (And.intro (And.intro @Nb @QI) (And.intro @Y0 @WY))) (And.intro (And.intro (And.intro @WU @WX) (And.intro @WW @WV)) (And.intro (And.intro @Xq @Xp) (And.intro @S6 @Xn)))) (And.intro (And.intro (And.intro (And.intro @AaX @Xo) (And.intro @S4 @S5)) (And.intro (And.intro @AaY @S8) (And.intro @S7 @QQ))) (And.intro (And.intro (And.intro @Oq @Ou) (And.intro @Ot @AaV)) (And.intro (And.intro @SY @QM) (And.intro @Xj @Xi)))))) (And.intro (And.intro (And.intro (And.intro (And.intro @Me (And.intro @NS @NT)) (And.intro (And.intro @NU @O9) (And.intro @Pa @Mf))) (And.intro (And.intro (And.intro @NV @Ss) (And.intro @Qu @Sv)) (And.intro (And.intro @Su @RT) (And.intro @Py @RU)))) (And.intro (And.intro (And.intro (And.intro @RS @Pz) (And.intro @Wf @AaQ)) (And.intro (And.intro @Xa @Xb) (And.intro @SX @Ade))) (And.intro (And.intro (And.intro @SW @Zj) (And.intro @WL @RV)) (And.intro (And.intro @W3 @AaL) (And.intro @AaE @W2))))) (And.intro (And.intro (And.intro (And.intro @AaK (And.intro @AaJ @AaI)) (And.intro (And.intro @AaH @AaG) (And.intro @AaF @W1))) (And.intro (And.intro (And.intro @Qo @Wm) (And.intro @Wn @Sk)) (And.intro (And.intro @Wl @Aal) (And.intro @Aab @Aaf)))) (And.intro (And.intro (And.intro (And.intro @Aad @Aac) (And.intro @Aak @Aae)) (And.intro (And.intro @Aag @Aah) (And.intro @Aai @Aaj))) (And.intro (And.intro (And.intro @Y4 @Y3) (And.intro @Y1 @Y2)) (And.intro (And.intro @WT @WS) (And.intro @Acj @Ack))))))) (And.intro (And.intro (And.intro (And.intro (And.intro (And.intro @VN (And.intro @VM @PX)) (And.intro (And.intro @RZ @PC) (And.intro @Rl @NQ))) (And.intro (And.intro (And.intro @So @Sn) (And.intro @Aau @V9)) (And.intro (And.intro @Sf @N9) (And.intro @Uy @Z5)))) (And.intro (And.intro (And.intro (And.intro @Adp @Z6) (And.intro @VP @WB)) (And.intro (And.intro @Og @PR) (And.intro @PQ @R2))) (And.intro (And.intro (And.intro @Zn @Ae9) (And.intro @Afa @Sr)) (And.intro (And.intro @Qt @Zu) (And.intro @U5 @Zq))))) (And.intro (And.intro (And.intro (And.intro @AcI (And.intro @Zt @U3)) (And.intro (And.intro @U4 @AcK) (And.intro @Zv @Zp))) (And.intro (And.intro (And.intro @Zr @Zs) (And.intro @Vh @RP)) (And.intro (And.intro @Vd @Zz) (And.intro @Vg @RN)))) (And.intro (And.intro (And.intro (And.intro @RO @ZA) (And.intro @Vi @Ve)) (And.intro (And.intro @RI @RJ) (And.intro @Vf @Pt))) (And.intro (And.intro (And.intro @Pu @Pv) (And.intro @Eh @OJ)) (And.intro (And.intro @N6 @Va) (And.intro @Zx @Vb)))))) (And.intro (And.intro (And.intro (And.intro (And.intro @RM (And.intro @U6 @Zw)) (And.intro (And.intro @U9 @RK) (And.intro @RL @Vc))) (And.intro (And.intro (And.intro @U7 @U8) (And.intro @SK @ZR)) (And.intro (And.intro @ok_int @SJ) (And.intro @UF @VA)))) (And.intro (And.intro (And.intro (And.intro @ZW @QA) (And.intro @Rs @ZN)) (And.intro (And.intro @AcY @SE) (And.intro @UB @AcW))) (And.intro (And.intro (And.intro @Afd @WJ) (And.intro @Y6 @ZQ)) (And.intro (And.intro @Ac1 @SI) (And.intro @UE @Vx))))) (And.intro (And.intro (And.intro (And.intro (And.intro @ZT @Qx) (And.intro @Rp @Vy)) (And.intro (And.intro @ZU @Qy) (And.intro @Rq @Vz))) (And.intro (And.intro (And.intro @ZV @Qz) (And.intro @Rr @AcX)) (And.intro (And.intro @Afe @WK) (And.intro @Y7 @ZO)))) (And.intro (And.intro (And.intro (And.intro @AcZ @SG) (And.intro @UC @ZP)) (And.intro (And.intro @Ac0 @SH) (And.intro @UD @Ac2))) (And.intro (And.intro (And.intro @UG @Adr) (And.intro @Wr @Wq)) (And.intro (And.intro @Qq @Sm) (And.intro @Aam @Adz)))))))) := (And.intro (And.intro (And.intro (And.intro (And.intro (And.intro (And.intro @Ags (And.intro @Aeg @Aef)) (And.intro (And.intro @Xx @Afl) (And.intro @Aa3 @Aa2))) (And.intro (And.intro (And.intro @Aa4 @S9) (And.intro @AdV @AdX)) (And.intro (And.intro @AcR @QL) (And.intro @Ql @Si)))) (And.intro (And.intro (And.intro (And.intro @Qc @Oa) (And.intro @I7 @EX)) (And.intro (And.intro @Aar @Qf) (And.intro @Qg @Wh))) (And.intro (And.intro (And.intro @Sj @Wb) (And.intro @I6 @Wa)) (And.intro (And.intro @Nv @LP) (And.intro @Qb @Sg))))) (And.intro (And.intro (And.intro (And.intro @LQ (And.intro @On @Ol)) (And.intro (And.intro @Nb @QI) (And.intro @Y0 @WY))) (And.intro (And.intro (And.intro @WU @WX) (And.intro @WW @WV)) (And.intro (And.intro @Xq @Xp) (And.intro @S6 @Xn)))) (And.intro (And.intro (And.intro (And.intro @AaX @Xo) (And.intro @S4 @S5)) (And.intro (And.intro @AaY @S8) (And.intro @S7 @QQ))) (And.intro (And.intro (And.intro @Oq @Ou) (And.intro @Ot @AaV)) (And.intro (And.intro @SY @QM) (And.intro @Xj @Xi)))))) (And.intro (And.intro (And.intro (And.intro (And.intro @Me (And.intro @NS @NT)) (And.intro (And.intro @NU @O9) (And.intro @Pa @Mf))) (And.intro (And.intro (And.intro @NV @Ss) (And.intro @Qu @Sv)) (And.intro (And.intro @Su @RT) (And.intro @Py @RU)))) (And.intro (And.intro (And.intro (And.intro @RS @Pz) (And.intro @Wf @AaQ)) (And.intro (And.intro @Xa @Xb) (And.intro @SX @Ade))) (And.intro (And.intro (And.intro @SW @Zj) (And.intro @WL @RV)) (And.intro (And.intro @W3 @AaL) (And.intro @AaE @W2))))) (And.intro (And.intro (And.intro (And.intro @AaK (And.intro @AaJ @AaI)) (And.intro (And.intro @AaH @AaG) (And.intro @AaF @W1))) (And.intro (And.intro (And.intro @Qo @Wm) (And.intro @Wn @Sk)) (And.intro (And.intro @Wl @Aal) (And.intro @Aab @Aaf)))) (And.intro (And.intro (And.intro (And.intro @Aad @Aac) (And.intro @Aak @Aae)) (And.intro (And.intro @Aag @Aah) (And.intro @Aai @Aaj))) (And.intro (And.intro (And.intro @Y4 @Y3) (And.intro @Y1 @Y2)) (And.intro (And.intro @WT @WS) (And.intro @Acj @Ack))))))) (And.intro (And.intro (And.intro (And.intro (And.intro (And.intro @VN (And.intro @VM @PX)) (And.intro (And.intro @RZ @PC) (And.intro @Rl @NQ))) (And.intro (And.intro (And.intro @So @Sn) (And.intro @Aau @V9)) (And.intro (And.intro @Sf @N9) (And.intro @Uy @Z5)))) (And.intro (And.intro (And.intro (And.intro @Adp @Z6) (And.intro @VP @WB)) (And.intro (And.intro @Og @PR) (And.intro @PQ @R2))) (And.intro (And.intro (And.intro @Zn @Ae9) (And.intro @Afa @Sr)) (And.intro (And.intro @Qt @Zu) (And.intro @U5 @Zq))))) (And.intro (And.intro (And.intro (And.intro @AcI (And.intro @Zt @U3)) (And.intro (And.intro @U4 @AcK) (And.intro @Zv @Zp))) (And.intro (And.intro (And.intro @Zr @Zs) (And.intro @Vh @RP)) (And.intro (And.intro @Vd @Zz) (And.intro @Vg @RN)))) (And.intro (And.intro (And.intro (And.intro @RO @ZA) (And.intro @Vi @Ve)) (And.intro (And.intro @RI @RJ) (And.intro @Vf @Pt))) (And.intro (And.intro (And.intro @Pu @Pv) (And.intro @Eh @OJ)) (And.intro (And.intro @N6 @Va) (And.intro @Zx @Vb)))))) (And.intro (And.intro (And.intro (And.intro (And.intro @RM (And.intro @U6 @Zw)) (And.intro (And.intro @U9 @RK) (And.intro @RL @Vc))) (And.intro (And.intro (And.intro @U7 @U8) (And.intro @SK @ZR)) (And.intro (And.intro @ok_int @SJ) (And.intro @UF @VA)))) (And.intro (And.intro (And.intro (And.intro @ZW @QA) (And.intro @Rs @ZN)) (And.intro (And.intro @AcY @SE) (And.intro @UB @AcW))) (And.intro (And.intro (And.intro @Afd @WJ) (And.intro @Y6 @ZQ)) (And.intro (And.intro @Ac1 @SI) (And.intro @UE @Vx))))) (And.intro (And.intro (And.intro (And.intro (And.intro @ZT @Qx) (And.intro @Rp @Vy)) (And.intro (And.intro @ZU @Qy) (And.intro @Rq @Vz))) (And.intro (And.intro (And.intro @ZV @Qz) (And.intro @Rr @AcX)) (And.intro (And.intro @Afe @WK) (And.intro @Y7 @ZO)))) (And.intro (And.intro (And.intro (And.intro @AcZ @SG) (And.intro @UC @ZP)) (And.intro (And.intro @Ac0 @SH) (And.intro @UD @Ac2))) (And.intro (And.intro (And.intro @UG @Adr) (And.intro @Wr @Wq)) (And.intro (And.intro @Qq @Sm) (And.intro @Aam @Adz))))))))
theorem SB : type_of% (And.intro (And.intro (And.intro (And.intro (And.intro (And.intro @List.map_cons.{0,0} @List.map_nil.{0,0}) (And.intro @List.drop_succ_cons.{0} @List.drop_zero.{0})) (And.intro (And.intro @List.take_succ_cons.{0} @List.take_zero.{0}) (And.intro @List.take_nil.{0} @List.drop_nil.{0}))) (And.intro (And.intro (And.intro @List.getD_cons_zero.{0} @List.getD_cons_succ.{0}) (And.intro @List.length_cons.{0} @List.length_nil.{0})) (And.intro (And.intro @List.cons_append.{0} @List.nil_append.{0}) (And.intro @List.append_nil.{0} (And.intro @List.replicate_succ.{0} @List.replicate_zero.{0}))))) (And.intro (And.intro (And.intro (And.intro @List.set_cons_zero.{0} @List.set_cons_succ.{0}) (And.intro @Option.map_some.{0,0} @Option.map_none.{0,0})) (And.intro (And.intro @Nat.add_zero @Nat.zero_add) (And.intro @decide_eq_true_eq (And.intro @decide_eq_false_iff_not @Bool.not_eq_true')))) (And.intro (And.intro (And.intro @Bool.not_eq_false' @Bool.not_true) (And.intro @Bool.not_false @true_and)) (And.intro (And.intro @and_true @not_false_eq_true) (And.intro @not_true_eq_false (And.intro @Int.toNat_natCast @Nat.lt_add_one)))))) (And.intro (And.intro (And.intro (And.intro (And.intro @Bool.decide_eq_true @Bool.true_eq_false) (And.intro @Bool.false_eq_true @false_implies)) (And.intro (And.intro @true_implies @List.mem_cons.{0}) (And.intro @List.not_mem_nil.{0} @or_false))) (And.intro (And.intro (And.intro @Int.ofNat_lt @Int.ofNat_le) (And.intro @Int.natCast_inj @Int.natCast_zero)) (And.intro (And.intro @Int.natCast_one @Int.cast_ofNat_Int) (And.intro @Int.natCast_nonneg (And.intro @Nat.zero_le @Nat.le_refl))))) (And.intro (And.intro (And.intro (And.intro @List.contains_nil.{0} @List.contains_cons.{0}) (And.intro @Bool.or_false @Bool.or_true)) (And.intro (And.intro @Bool.false_or @Bool.true_or) (And.intro @decide_true (And.intro @decide_false @Bool.false_and)))) (And.intro (And.intro (And.intro @Bool.true_and @Bool.and_true) (And.intro @Bool.and_false @zA.{0})) (And.intro (And.intro @zA.{1} @zI.{0}) (And.intro @zI.{1} (And.intro @zN.{1} @zE.{1}))))))) := (And.intro (And.intro (And.intro (And.intro (And.intro (And.intro @List.map_cons.{0,0} @List.map_nil.{0,0}) (And.intro @List.drop_succ_cons.{0} @List.drop_zero.{0})) (And.intro (And.intro @List.take_succ_cons.{0} @List.take_zero.{0}) (And.intro @List.take_nil.{0} @List.drop_nil.{0}))) (And.intro (And.intro (And.intro @List.getD_cons_zero.{0} @List.getD_cons_succ.{0}) (And.intro @List.length_cons.{0} @List.length_nil.{0})) (And.intro (And.intro @List.cons_append.{0} @List.nil_append.{0}) (And.intro @List.append_nil.{0} (And.intro @List.replicate_succ.{0} @List.replicate_zero.{0}))))) (And.intro (And.intro (And.intro (And.intro @List.set_cons_zero.{0} @List.set_cons_succ.{0}) (And.intro @Option.map_some.{0,0} @Option.map_none.{0,0})) (And.intro (And.intro @Nat.add_zero @Nat.zero_add) (And.intro @decide_eq_true_eq (And.intro @decide_eq_false_iff_not @Bool.not_eq_true')))) (And.intro (And.intro (And.intro @Bool.not_eq_false' @Bool.not_true) (And.intro @Bool.not_false @true_and)) (And.intro (And.intro @and_true @not_false_eq_true) (And.intro @not_true_eq_false (And.intro @Int.toNat_natCast @Nat.lt_add_one)))))) (And.intro (And.intro (And.intro (And.intro (And.intro @Bool.decide_eq_true @Bool.true_eq_false) (And.intro @Bool.false_eq_true @false_implies)) (And.intro (And.intro @true_implies @List.mem_cons.{0}) (And.intro @List.not_mem_nil.{0} @or_false))) (And.intro (And.intro (And.intro @Int.ofNat_lt @Int.ofNat_le) (And.intro @Int.natCast_inj @Int.natCast_zero)) (And.intro (And.intro @Int.natCast_one @Int.cast_ofNat_Int) (And.intro @Int.natCast_nonneg (And.intro @Nat.zero_le @Nat.le_refl))))) (And.intro (And.intro (And.intro (And.intro @List.contains_nil.{0} @List.contains_cons.{0}) (And.intro @Bool.or_false @Bool.or_true)) (And.intro (And.intro @Bool.false_or @Bool.true_or) (And.intro @decide_true (And.intro @decide_false @Bool.false_and)))) (And.intro (And.intro (And.intro @Bool.true_and @Bool.and_true) (And.intro @Bool.and_false @zA.{0})) (And.intro (And.intro @zA.{1} @zI.{0}) (And.intro @zI.{1} (And.intro @zN.{1} @zE.{1})))))))

theorem SU : type_of% (And.intro SU0 SB) := And.intro SU0 SB
end Go.Proofs.YtppjinmlfcokaaaGreat.Av
