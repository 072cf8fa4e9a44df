/-
 THE RULES BY WHICH AN ABSTRACT TEXT IS CARRIED OUT: for simp. Conditions: none.
-/
import Derived.Test.YtjbcnilllfaipaaGreatYAvDraw
set_option linter.unusedVariables false
namespace Go.Proofs.YtjbcnilllfaipaaGreat.Av
open Go.RowKit

theorem eqq {α : Sort _} {a b : α} (h : a = b) : a = b := h
structure DC {α : Type} (a : α) : Type where
 mk ::
def Bd {α : Type} (m : (α → Prop) → Prop) (k : α → Prop) (h : DC k) : Prop := m k
def Bd2 (m : (AV → Hp → Prop) → Prop) (k : AV → Hp → Prop) (h : DC k) : Prop := m k
theorem Aex {α : Type} (v : α) (K : α → Prop) (h : DC K) : Bd (fun k => k v) K h = K v := eqq rfl
theorem Ab1 {α : Type} (A B : (α → Prop) → Prop) (K : α → Prop) (h : DC K) : Bd (fun k => A k ∧ B k) K h = (Bd A K h ∧ Bd B K h) := eqq rfl
theorem Ab0 {α : Type} (c : Prop) (B : (α → Prop) → Prop) (K : α → Prop) (h : DC K) : Bd (fun k => c → B k) K h = (c → Bd B K h) := eqq rfl
theorem VV {α : Type} (c : Prop) (K : α → Prop) (h : DC K) : Bd (fun _ => c) K h = c := eqq rfl
theorem Adf (v : AV) (hp : Hp) (K : AV → Hp → Prop) (h : DC K) : Bd2 (fun k => k v hp) K h = K v hp := eqq rfl
theorem Y4 (A B : (AV → Hp → Prop) → Prop) (K : AV → Hp → Prop) (h : DC K) : Bd2 (fun k => A k ∧ B k) K h = (Bd2 A K h ∧ Bd2 B K h) := eqq rfl
theorem Y3 (c : Prop) (B : (AV → Hp → Prop) → Prop) (K : AV → Hp → Prop) (h : DC K) : Bd2 (fun k => c → B k) K h = (c → Bd2 B K h) := eqq rfl
theorem Y5 {β : Type} (B : β → (AV → Hp → Prop) → Prop) (K : AV → Hp → Prop) (h : DC K) : Bd2 (fun k => ∀ v, B v k) K h = ∀ v, Bd2 (B v) K h := eqq rfl
theorem RM (c : Prop) (K : AV → Hp → Prop) (h : DC K) : Bd2 (fun _ => c) K h = c := eqq rfl

section
variable (P : Program) (Q : Exit → St → Prop) (fr : List (Nat × AV)) (hp : Hp) (K : AV → Hp → Prop) (k : AV → Prop)

theorem Vo (s : St) : awp P .skip Q s = Q .normal s := eqq rfl
theorem PA (l : List B9) (s : St) : awp P (.region l) Q s = BM P (Q .normal) l s := eqq rfl
theorem Vr (l : List B9) (s : St) : awp P (.draw l) Q s = BM P (Q .normal) l s := eqq rfl
theorem Vt (a b : BV) (s : St) : awp P (.both a b) Q s = (awp P a Q s ∧ awp P b Q s) := eqq rfl
def AcX (P : Program) (b : BV) (Q : Exit → St → Prop) : Exit → St → Prop := fun e s' => match e with | .normal => awp P b Q s' | e => Q e s'
theorem YP (a b : BV) (s : St) : awp P (.seq a b) Q s = awp P a (AcX P b Q) s := eqq rfl
theorem OA (b : BV) (s : St) : AcX P b Q .normal s = awp P b Q s := eqq rfl
theorem OB (b : BV) (i : Nat) (s : St) : AcX P b Q (.exit i) s = Q (.exit i) s := eqq rfl
theorem Oz (b : BV) (s : St) : AcX P b Q .ret s = Q .ret s := eqq rfl
def Br (b : Bool) (A B : Prop) (h : DC A) (h' : DC B) : Prop := (b = true → A) ∧ (b = false → B)
theorem brt (A B : Prop) (h : DC A) (h' : DC B) : Br true A B h h' = A := propext ⟨fun x => x.1 (eqq rfl), fun x => ⟨fun _ => x, fun e => by cases e⟩⟩
theorem brf (A B : Prop) (h : DC A) (h' : DC B) : Br false A B h h' = B := propext ⟨fun x => x.2 (eqq rfl), fun x => ⟨fun e => (by cases e), fun _ => x⟩⟩
theorem AbD (b : Bool) (A B : Prop) (h : DC A) (h' : DC B) : Br b A B h h' = ((b = true → A) ∧ (b = false → B)) := eqq rfl
def Bn (b : Bool) (A B : Prop) (h : DC A) (h' : DC B) : Prop := (b = false → A) ∧ (b = true → B)
theorem bnt (A B : Prop) (h : DC A) (h' : DC B) : Bn true A B h h' = B := propext ⟨fun x => x.2 (eqq rfl), fun x => ⟨fun e => (by cases e), fun _ => x⟩⟩
theorem bnf (A B : Prop) (h : DC A) (h' : DC B) : Bn false A B h h' = A := propext ⟨fun x => x.1 (eqq rfl), fun x => ⟨fun _ => x, fun e => by cases e⟩⟩
theorem AbE (b : Bool) (A B : Prop) (h : DC A) (h' : DC B) : Bn b A B h h' = ((b = false → A) ∧ (b = true → B)) := eqq rfl
def Pk (t : Bool) (a b : AV) (k : AV → Prop) : Prop := (t = true → k a) ∧ (t = false → k b)
theorem pkt (a b : AV) (k : AV → Prop) : Pk true a b k = k a := propext ⟨fun x => x.1 (eqq rfl), fun x => ⟨fun _ => x, fun e => by cases e⟩⟩
theorem pkf (a b : AV) (k : AV → Prop) : Pk false a b k = k b := propext ⟨fun x => x.2 (eqq rfl), fun x => ⟨fun e => (by cases e), fun _ => x⟩⟩
theorem AaL (t : Bool) (a b : AV) (k : AV → Prop) : Pk t a b k = ((t = true → k a) ∧ (t = false → k b)) := eqq rfl
def Adc (x : AV) (A B : Prop) (h : DC A) (h' : DC B) : Prop :=
 match x with
 | .bool t => (t = true → A) ∧ (t = false → B)
 | _ => False
theorem Vs (c : Ax) (a b : BV) (s : St) : awp P (.cond c a b) Q s = Adc (c.ev (BJ s.fr)) (awp P a Q s) (awp P b Q s) ⟨⟩ ⟨⟩ := eqq rfl
theorem PL (t : Bool) (A B : Prop) (h : DC A) (h' : DC B) : Adc (.bool t) A B h h' = Br t A B h h' := eqq rfl
def Lm (id : Nat) (Q : Exit → St → Prop) : Exit → St → Prop := fun e s' => match e with | .exit id' => if id' = id then Q .normal s' else Q (.exit id') s' | e => Q e s'
theorem Rz (id : Nat) (a : BV) (s : St) : awp P (.block id a) Q s = awp P a (Lm id Q) s := eqq rfl
theorem LI (id : Nat) (s : St) : Lm id Q .normal s = Q .normal s := eqq rfl
theorem LG (id : Nat) (s : St) : Lm id Q .ret s = Q .ret s := eqq rfl
theorem LJ (id : Nat) (s : St) : Lm id Q (.exit id) s = Q .normal s := by simp [Lm]
theorem LH {i id : Nat} (h : (i == id) = false) (s : St) : Lm id Q (.exit i) s = Q (.exit i) s := by simp [Lm, beq_eq_false_iff_ne.1 h]
theorem Vq (id : Nat) (s : St) : awp P (.exit id) Q s = Q (.exit id) s := eqq rfl
def SY (Q : Exit → St → Prop) : Exit → St → Prop := fun e s' => match e with | .goto _ => False | e => Q e s'
theorem Ry (a : BV) (s : St) : awp P (.scope a) Q s = awp P a (SY Q) s := eqq rfl
theorem LD (s : St) : SY Q .normal s = Q .normal s := eqq rfl
theorem LC (s : St) : SY Q .ret s = Q .ret s := eqq rfl
theorem LF (i : Nat) (s : St) : SY Q (.exit i) s = Q (.exit i) s := eqq rfl
theorem YQ : awp P .ret Q ⟨fr, hp⟩ = Bd (fun k => k (K9 hp)) (fun hp => Q .ret ⟨fr, hp⟩) ⟨⟩ := eqq rfl
theorem Pc : K9 [] = [] := eqq rfl
theorem Q8 (hp : Hp) : K9 hp = Cy (FR hp) (Cy (FR hp) hp) := eqq rfl
theorem O5 : FR [] = [] := eqq rfl
theorem Np (j : Nat) (b : Box) (r : Hp) : FR ((j, b) :: r) = if (FR r).contains j then FR r else j :: FR r := eqq rfl
theorem Pb (hp : Hp) : Cy [] hp = hp := eqq rfl
theorem GZ (j : Nat) (r : List Nat) (hp : Hp) : Cy (j :: r) hp = Cy r (KG hp j) := eqq rfl
def Abm (bx : Option Box) (hp : Hp) (j : Nat) : Hp :=
 match bx with
 | some b => (j, { b with frz := true, es := b.es.map (AV.pur hp) }) :: hp
 | none => hp
theorem Yx (hp : Hp) (j : Nat) : KG hp j = Abm (Aw hp j) hp j := eqq rfl
theorem O7 (ver : Nat) (z : Bool) (ty : TypeId) (esz : Nat) (es : List AV) (hp : Hp) (j : Nat) : Abm (some ⟨ver, z, ty, esz, es⟩) hp j = (j, ⟨ver, true, ty, esz, es.map (AV.pur hp)⟩) :: hp := eqq rfl
theorem O8 (hp : Hp) (j : Nat) : Abm none hp j = hp := eqq rfl
/-! loops -/
def VQ {X : Type} (I : X → St) (pre : X → Prop) (m : X → Nat) (x : X) (Q : Exit → St → Prop) : Exit → St → Prop := fun e s' => match e with | .normal => Af s' (fun t => ∃ x', (pre x' ∧ m x' < m x) ∧ t = I x') | e => Q e s'
theorem Nh {X : Type} (I : X → St) (pre : X → Prop) (m : X → Nat) (x : X) (s : St) : VQ I pre m x Q .normal s = Af s (fun t => ∃ x', (pre x' ∧ m x' < m x) ∧ t = I x') := eqq rfl
theorem Ni {X : Type} (I : X → St) (pre : X → Prop) (m : X → Nat) (x : X) (i : Nat) (s : St) : VQ I pre m x Q (.exit i) s = Q (.exit i) s := eqq rfl
theorem Ng {X : Type} (I : X → St) (pre : X → Prop) (m : X → Nat) (x : X) (s : St) : VQ I pre m x Q .ret s = Q .ret s := eqq rfl
theorem Al {P : Program} {Q : Exit → St → Prop} {a : BV} {s : St} {X : Type} (I : X → St) (pre : X → Prop) (m : X → Nat) (x0 : X) (h0 : pre x0) (h1 : SC s.fr (I x0).fr) (h2 : Bg s.hp (I x0).hp) (hr : ∀ x, pre x → awp P a (VQ I pre m x Q) (I x)) : awp P (.loop a) Q s :=
 ⟨X, I, pre, m, Af.le ⟨x0, h0, rfl⟩ h1 h2, hr⟩
theorem PG {P : Program} {Q : Exit → St → Prop} {a : BV} {s : St} {X : Type} (I : X → St) (pre : X → Prop) (m : X → Nat) (h0 : Af s (fun t => ∃ x, pre x ∧ t = I x)) (hr : ∀ x, pre x → awp P a (VQ I pre m x Q) (I x)) : awp P (.loop a) Q s :=
 ⟨X, I, pre, m, h0, hr⟩
theorem WZ {X : Type} {I : X → St} {pre : X → Prop} {m : X → Nat} {x : X} {s : St} (x' : X) (h0 : pre x') (hm : m x' < m x) (h1 : SC s.fr (I x').fr) (h2 : Bg s.hp (I x').hp) : Af s (fun t => ∃ x', (pre x' ∧ m x' < m x) ∧ t = I x') :=
 Af.le ⟨x', ⟨h0, hm⟩, rfl⟩ h1 h2
theorem Me {P : Program} {Q : Exit → St → Prop} {a : BV} {s : St} (h : Af s (fun t => awp P a Q t)) : awp P (.ghost a) Q s := h
theorem Af.here {s : St} {T : St → Prop} (h : T s) : Af s T := ⟨fun _ _ a w hr => ⟨s, h, hr⟩⟩
theorem UL (s : List (Nat × AV)) : SC s [] = True := eqq rfl
theorem Q9 (s : List (Nat × AV)) (i : Nat) (x : AV) (r : List (Nat × AV)) : SC s ((i, x) :: r) = (BJ s i = x ∧ SC s r) := eqq rfl
theorem Mb (s : Hp) : Bg s [] = True := eqq rfl
theorem Dt (s : Hp) (i : Nat) (x : Box) (r : Hp) : Bg s ((i, x) :: r) = (Aw s i = some x ∧ Bg s r) := eqq rfl
/-! a function that is handed own rows -/
def AbY (rs : List GU) (Post : AV → Hp → Prop) (t : St) : Prop := Cg t.hp (BJ t.fr) rs fun xs => ∃ hp', Bg t.hp hp' ∧ Post (JI t.hp xs) hp'
theorem Jf (rs : List GU) (Post : AV → Hp → Prop) (s : St) : AbX rs Post .normal s = Af s (AbY rs Post) := eqq rfl
theorem LK (rs : List GU) (Post : AV → Hp → Prop) (s : St) : AbX rs Post .ret s = Af s (AbY rs Post) := eqq rfl
theorem Af.post {rs : List GU} {Post : AV → Hp → Prop} {s : St} (hp' : Hp) (h : Cg s.hp (BJ s.fr) rs fun xs => Bg s.hp hp' ∧ Post (JI s.hp xs) hp') : Af s (AbY rs Post) := by
 refine Af.here ?_
 have : ∀ {l : List GU} {K K' : List AV → Prop}, (∀ ys, K ys → K' ys) → Cg s.hp (BJ s.fr) l K → Cg s.hp (BJ s.fr) l K' := by
  intro l
  induction l with
  | nil => intro K K' hk h; exact hk _ h
  | cons r l ih =>
   intro K K' hk h
   unfold Cg at h ⊢
   cases r with
   | t i => exact ih (fun ys hy => hk _ hy) h
   | c g n i =>
    simp only [Aeo, FX] at h ⊢
    split at h
    ·unfold F2 at h ⊢; cases g <;> exact ⟨h.1, ih (fun ys hy => hk _ hy) h.2⟩
    ·split at h
     ·refine ⟨h.1, ?_⟩; have h := h.2; unfold F2 at h ⊢; cases g <;> exact ⟨h.1, ih (fun ys hy => hk _ hy) h.2⟩
     ·exact h
    ·exact h
 exact this (fun ys hy => ⟨hp', hy⟩) h
theorem Vp (s : St) : awp P .Ev Q s = Q .ret s := eqq rfl
theorem Uy (hp : Hp) : I5 [] hp = [] := eqq rfl
def Yt (bx : Option Box) (j : Nat) (r : Hp) : Hp :=
 match bx with
 | some b => (j, b) :: r
 | none => r
theorem MO (j : Nat) (r : List Nat) (hp : Hp) : I5 (j :: r) hp = Yt (Aw hp j) j (I5 r hp) := by
 unfold I5 Yt; rw [List.filterMap_cons]; cases Aw hp j <;> rfl
theorem K8 (b : Box) (j : Nat) (r : Hp) : Yt (some b) j r = (j, b) :: r := eqq rfl
theorem O2 (j : Nat) (r : Hp) : Yt none j r = r := eqq rfl
theorem Q2 (hs : List Nat) : BN hs [] = [] := eqq rfl
theorem I6 (hs : List Nat) (j : Nat) (b : Box) (r : Hp) : BN hs ((j, b) :: r) = if hs.contains j then BN hs r else (j, b) :: BN hs r := by
 unfold BN; rw [List.filter_cons]; cases hs.contains j <;> rfl
def I9 (P : Program) (f : FuncId) (args : List AV) (hp : Hp) (k : AV → Hp → Prop) : Prop := PQ P f args hp k
theorem Ae {P : Program} {f : FuncId} {args : List AV} {hp hp0 : Hp} {k : AV → Hp → Prop} {Post : AV → Hp → Prop} (hs : List Nat) (h : Ay P f args hp0 Post) {kp : DC k} (he : I5 hs hp = hp0) (hk : ∀ r hp', Post r hp' → k r (hp' ++ BN hs hp)) : Bd2 (fun k => I9 P f args hp k) k kp := ⟨hs, Post, .inl ⟨by rw [he]; exact h, hk⟩⟩
theorem W4 {P : Program} {f : FuncId} {args args' : List AV} {hp : Hp} {k : AV → Hp → Prop} {Post : AV → Hp → Prop} (ks : List Nat) (h : Ay P f args' [] Post) {kp : DC k} (he : args.map (AV.Bv (Cy ks hp)) = args') (hk : ∀ r hp', Post r hp' → (r.free = true ∧ Gi hp') ∧ k r (hp' ++ hp)) : Bd2 (fun k => I9 P f args hp k) k kp := ⟨ks, Post, .inr ⟨by rw [he]; exact h, hk⟩⟩
theorem QA (F : Nat → AV) (f : FuncId) (as : List Ax) : (IOp.D6 f as).sem P F hp K = Bd2 (fun k => I9 P f (as.map fun x => (x.ev F).Bv hp) hp k) K ⟨⟩ := eqq rfl
def VG (P : Program) (x : AV) (args : List AV) (hp : Hp) (k : AV → Hp → Prop) : Prop := Mz P x args hp k
theorem Oe (F : Nat → AV) (f : Ax) (as : List Ax) : (IOp.Lf f as).sem P F hp K = Bd2 (fun k => VG P ((f.ev F).Bv hp) (as.map fun x => (x.ev F).Bv hp) hp k) K ⟨⟩ := eqq rfl
theorem NA (f : FuncId) (caps args : List AV) : VG P (.fn f caps) args hp K = I9 P f (args ++ caps) hp K := eqq rfl
theorem JW (rs : List GU) (res : AV) (s : St) : Ret rs res .normal s = Cg s.hp (BJ s.fr) rs fun xs => JI s.hp xs = res := eqq rfl
theorem Nj (rs : List GU) (res : AV) (s : St) : Ret rs res .ret s = Cg s.hp (BJ s.fr) rs fun xs => JI s.hp xs = res := eqq rfl

theorem XP (R : St → Prop) (s : St) : BM P R [] s = R s := eqq rfl
theorem XO (R : St → Prop) (d : Nat) (op : IOp) (l : List B9) : BM P R (⟨some d, none, op⟩ :: l) ⟨fr, hp⟩ = op.sem P (BJ fr) hp fun v hp => BM P R l ⟨(d, v) :: fr, hp⟩ := eqq rfl
theorem T9 (R : St → Prop) (op : IOp) (l : List B9) : BM P R (⟨none, none, op⟩ :: l) ⟨fr, hp⟩ = op.sem P (BJ fr) hp fun v hp => BM P R l ⟨fr, hp⟩ := eqq rfl
def PI (x : AV) (want : Bool) (A B : Prop) (h : DC A) (h' : DC B) : Prop :=
 match x with
 | .bool b => (b = want → A) ∧ (b = (!want) → B)
 | .tup _ => B
 | _ => False
theorem QW (R : St → Prop) (d t : Nat) (want : Bool) (op : IOp) (l : List B9) : BM P R (⟨some d, some (t, want), op⟩ :: l) ⟨fr, hp⟩ = PI (BJ fr t) want (op.sem P (BJ fr) hp fun v hp => BM P R l ⟨(d, v) :: fr, hp⟩) (BM P R l ⟨(d, .tup []) :: fr, hp⟩) ⟨⟩ ⟨⟩ := eqq rfl
theorem OC (R : St → Prop) (t : Nat) (want : Bool) (op : IOp) (l : List B9) : BM P R (⟨none, some (t, want), op⟩ :: l) ⟨fr, hp⟩ = PI (BJ fr t) want (op.sem P (BJ fr) hp fun v hp => BM P R l ⟨fr, hp⟩) (BM P R l ⟨fr, hp⟩) ⟨⟩ ⟨⟩ := eqq rfl
theorem Ny (b : Bool) (A B : Prop) (h : DC A) (h' : DC B) : PI (.bool b) true A B h h' = Br b A B h h' := eqq rfl
theorem My (b : Bool) (A B : Prop) (h : DC A) (h' : DC B) : PI (.bool b) false A B h h' = Bn b A B h h' := eqq rfl
theorem PH (xs : List AV) (want : Bool) (A B : Prop) (h : DC A) (h' : DC B) : PI (.tup xs) want A B h h' = B := eqq rfl

theorem Aeh (F : Nat → AV) (i : Nat) : Ax.ev F (.t i) = F i := eqq rfl
theorem Aej (F : Nat → AV) (x : AV) : Ax.ev F (.c x) = x := eqq rfl
theorem Aei (F : Nat → AV) (l : List Nat) : Ax.ev F (.s l) = .str (bs l) := eqq rfl
theorem Xd : AV.str ⟨⟨[]⟩⟩ = AV.str (bs []) := eqq rfl
theorem YC (i : Nat) (x : AV) : BJ ((i, x) :: fr) i = x := by simp [BJ]
theorem YB {i j : Nat} (x : AV) (h : (i == j) = false) : BJ ((i, x) :: fr) j = BJ fr j := by simp [BJ, (beq_eq_false_iff_ne.1 h)]
theorem Yv (i : Nat) (x : Box) : Aw ((i, x) :: hp) i = some x := by simp [Aw]
theorem Yu {i j : Nat} (x : Box) (h : (i == j) = false) : Aw ((i, x) :: hp) j = Aw hp j := by simp [Aw, (beq_eq_false_iff_ne.1 h)]
theorem UB (i : Nat) : Aw [] i = none := eqq rfl

theorem Xo (F : Nat → AV) (x : Ax) : (IOp.mov x).sem P F hp K = Bd (fun k => k (x.ev F)) (fun v => K v hp) ⟨⟩ := eqq rfl
theorem Tu (F : Nat → AV) (c a b : Ax) : (IOp.pick c a b).sem P F hp K = Bd (fun k => VB (c.ev F) (a.ev F) (b.ev F) k) (fun v => K v hp) ⟨⟩ := eqq rfl
theorem Xs (F : Nat → AV) (op : BinOp) (kd : EqK) (x y : Ax) : (IOp.bin op kd x y).sem P F hp K = Bd (fun k => GR op kd (x.ev F) (y.ev F) k) (fun v => K v hp) ⟨⟩ := eqq rfl
theorem TC (F : Nat → AV) (op : BinOp) (x y : Ax) : (IOp.AdP op x y).sem P F hp K = Bd (fun k => GI op (x.ev F) (y.ev F) k) (fun v => K v hp) ⟨⟩ := eqq rfl
theorem Vk (q : IntKind) (a b : Int) : GI .add (.int q a) (.int q b) k = k (.int q (q.wrap (a + b))) := by simp [GI]
theorem Vg (q : IntKind) (a b : Int) : GI .sub (.int q a) (.int q b) k = k (.int q (q.wrap (a - b))) := by simp [GI]
theorem Vj (q : IntKind) (a b : Int) : GI .mul (.int q a) (.int q b) k = k (.int q (q.wrap (a * b))) := by simp [GI]
theorem Vi (q r : IntKind) (a b : Int) : GI .shl (.int q a) (.int r b) k = (0 ≤ b ∧ k (.int q (q.wrap (a * 2 ^ (min b.toNat q.bits))))) := by simp [GI]
theorem Vh (q r : IntKind) (a b : Int) : GI .shr (.int q a) (.int r b) k = ((0 ≤ b ∧ inR q (a.fdiv (2 ^ (min b.toNat q.bits)))) ∧ k (.int q (a.fdiv (2 ^ (min b.toNat q.bits))))) := by simp [GI]
theorem Aao (F : Nat → AV) (op : UnOp) (x : Ax) : (IOp.un op x).sem P F hp K = Bd (fun k => aUn op (x.ev F) k) (fun v => K v hp) ⟨⟩ := eqq rfl
def Ja (x : AV) (hp : Hp) (k : AV → Prop) : Prop := x.ok = true ∧ k (.obj (x.pur hp).cells)
theorem TA (F : Nat → AV) (x : Ax) : (IOp.AcS x).sem P F hp K = Bd (fun k => Ja (x.ev F) hp k) (fun v => K v hp) ⟨⟩ := eqq rfl
theorem VL (cs : List AV) : Ja (.agg cs) hp k = k (.obj (cs.map (AV.AR hp))) := by simp [Ja, AV.ok, AV.one, AV.isAgg, AV.pur, AV.cells]
theorem VK (q : IntKind) (n : Int) : Ja (.int q n) hp k = k (.obj [.int q n]) := by simp [Ja, AV.ok, AV.one, AV.isAgg, AV.pur, AV.AR, AV.cells]
theorem RI (b : Bool) : Ja (.bool b) hp k = k (.obj [.bool b]) := by simp [Ja, AV.ok, AV.one, AV.isAgg, AV.pur, AV.AR, AV.cells]
theorem VI (s : ByteArray) : Ja (.str s) hp k = k (.obj [.str s]) := by simp [Ja, AV.ok, AV.one, AV.isAgg, AV.pur, AV.AR, AV.cells]
theorem YZ (es : List AV) : Ja (.sl es) hp k = k (.obj [.sl es]) := by simp [Ja, AV.ok, AV.one, AV.isAgg, AV.pur, AV.AR, AV.cells]
theorem VJ (cs : List AV) : Ja (.obj cs) hp k = k (.obj [.obj cs]) := by simp [Ja, AV.ok, AV.one, AV.isAgg, AV.pur, AV.AR, AV.cells]
theorem RG : Ja .Ar hp k = k (.obj [.Ar]) := by simp [Ja, AV.ok, AV.one, AV.isAgg, AV.pur, AV.AR, AV.cells]
theorem RH : Ja .Cx hp k = k (.obj [.Cx]) := by simp [Ja, AV.ok, AV.one, AV.isAgg, AV.pur, AV.AR, AV.cells]
theorem Y0 (f : FuncId) (cs : List AV) : Ja (.fn f cs) hp k = k (.obj [.fn f cs]) := by simp [Ja, AV.ok, AV.one, AV.isAgg, AV.pur, AV.AR, AV.cells]
def VM (x : AV) (n j : Nat) (ty : TypeId) (hp : Hp) (K : AV → Hp → Prop) : Prop := (x.ok = true ∧ x.cells.length = n) ∧ ∀ v, K (.ptr j v 0 0) ((j, ⟨v, false, ty, n, [x]⟩) :: hp)
theorem TB (F : Nat → AV) (j : Nat) (ty : TypeId) (n : Nat) (x : Ax) : (IOp.Ms j ty n x).sem P F hp K = Bd2 (fun k => VM (x.ev F) n j ty hp k) K ⟨⟩ := eqq rfl
theorem RK (cs : List AV) (n j : Nat) (ty : TypeId) : VM (.agg cs) n j ty hp K = (cs.length = n ∧ ∀ v, K (.ptr j v 0 0) ((j, ⟨v, false, ty, n, [.agg cs]⟩) :: hp)) := by simp [VM, AV.ok, AV.one, AV.isAgg, AV.cells]
theorem RJ (x : AV) (h : x.one = true) (n j : Nat) (ty : TypeId) : VM x n j ty hp K = (1 = n ∧ ∀ v, K (.ptr j v 0 0) ((j, ⟨v, false, ty, n, [x]⟩) :: hp)) := by simp [VM, AV.ok, h, G0 h]
theorem QC (F : Nat → AV) (z : List AV) (ps : List (Nat × Nat × Ax)) : (IOp.build z ps).sem P F hp K = Bd (fun k => Hi F z ps fun cs => k (.agg cs)) (fun v => K v hp) ⟨⟩ := eqq rfl
theorem PR (F : Nat → AV) (z : List AV) (k : List AV → Prop) : Hi F z [] k = k z := eqq rfl
def MA (x : AV) (F : Nat → AV) (z : List AV) (off n : Nat) (ps : List (Nat × Nat × Ax)) (k : List AV → Prop) : Prop := (x.ok = true ∧ x.cells.length = n ∧ off + n ≤ z.length) ∧ Hi F (lay z off x.cells) ps k
theorem NC (F : Nat → AV) (z : List AV) (off n : Nat) (x : Ax) (ps : List (Nat × Nat × Ax)) (k : List AV → Prop) : Hi F z ((off, n, x) :: ps) k = MA (x.ev F) F z off n ps k := eqq rfl
theorem NF (cs : List AV) (F : Nat → AV) (z : List AV) (off n : Nat) (ps : List (Nat × Nat × Ax)) (k : List AV → Prop) : MA (.agg cs) F z off n ps k = ((cs.length = n ∧ off + n ≤ z.length) ∧ Hi F (z.take off ++ (cs ++ z.drop (off + cs.length))) ps k) := by simp [MA, AV.ok, AV.one, AV.isAgg, AV.cells, lay]
theorem ND (x : AV) (h : x.one = true) (F : Nat → AV) (z : List AV) (off n : Nat) (ps : List (Nat × Nat × Ax)) (k : List AV → Prop) : MA x F z off n ps k = ((1 = n ∧ off + n ≤ z.length) ∧ Hi F (z.take off ++ (x :: z.drop (off + 1))) ps k) := by simp [MA, AV.ok, h, G0 h, lay]
theorem Qv (F : Nat → AV) (g : Bool) (n : Nat) (a : Ax) : (IOp.Nl g n a).sem P F hp K = Bd (fun k => FX [] g n (a.ev F) k) (fun v => K v hp) ⟨⟩ := eqq rfl
theorem Tw (F : Nat → AV) (g : Bool) (n : Nat) (a : Ax) : (IOp.load g n a).sem P F hp K = Bd (fun k => FX hp g n (a.ev F) k) (fun v => K v hp) ⟨⟩ := eqq rfl
theorem Qt (F : Nat → AV) (n : Nat) (a x : Ax) : (IOp.store n a x).sem P F hp K = Bd (fun k => Lj hp n (a.ev F) (x.ev F) k) (fun hp => K (.tup []) hp) ⟨⟩ := eqq rfl
theorem Qy (F : Nat → AV) (off : Nat) (x : Ax) : (IOp.BQ off x).sem P F hp K = Bd (fun k => I8 off (x.ev F) k) (fun v => K v hp) ⟨⟩ := eqq rfl
theorem Xq (F : Nat → AV) (g : Bool) (off n : Nat) (x : Ax) : (IOp.fld g off n x).sem P F hp K = Bd (fun k => AbQ g off n (x.ev F) k) (fun v => K v hp) ⟨⟩ := eqq rfl
theorem Qx (F : Nat → AV) (e : Nat) (x i : Ax) : (IOp.Hc e x i).sem P F hp K = Bd (fun k => FY hp e (x.ev F) (i.ev F) k) (fun v => K v hp) ⟨⟩ := eqq rfl
theorem Od (F : Nat → AV) (e : Nat) (x i : Ax) : (IOp.MN e x i).sem P F hp K = Bd (fun k => FY [] e (x.ev F) (i.ev F) k) (fun v => K v hp) ⟨⟩ := eqq rfl
theorem Tt (F : Nat → AV) (x i : Ax) : (IOp.Adl x i).sem P F hp K = Bd (fun k => VA (x.ev F) (i.ev F) k) (fun v => K v hp) ⟨⟩ := eqq rfl
theorem Xp (F : Nat → AV) (g : Bool) (x : Ax) : (IOp.len g x).sem P F hp K = Bd (fun k => Mx g (x.ev F) k) (fun v => K v hp) ⟨⟩ := eqq rfl
theorem Tx (F : Nat → AV) (d : IntKind) (x : Ax) : (IOp.conv d x).sem P F hp K = Bd (fun k => VF d (x.ev F) k) (fun v => K v hp) ⟨⟩ := eqq rfl
theorem Nd (F : Nat → AV) (i : Nat) (x : Ax) : (IOp.extract i x).sem P F hp K = Bd (fun k => Hh i (x.ev F) k) (fun v => K v hp) ⟨⟩ := eqq rfl
theorem Ob (F : Nat → AV) (x : Ax) : (IOp.Ed x).sem P F hp K = Bd (fun k => GQ (x.ev F) k) (fun v => K v hp) ⟨⟩ := eqq rfl
def Ad0 (neg : Bool) (x : AV) (hp : Hp) (K : AV → Hp → Prop) : Prop :=
 match x with
 | .sl es => (es = [] → K (.bool (!neg)) hp) ∧ K (.bool neg) hp
 | .Ar => K (.bool (!neg)) hp
 | _ => False
theorem Qw (F : Nat → AV) (neg : Bool) (x : Ax) : (IOp.LS neg x).sem P F hp K = Bd2 (fun k => Ad0 neg (x.ev F) hp k) K ⟨⟩ := eqq rfl
theorem YX (neg : Bool) (es : List AV) : Ad0 neg (.sl es) hp K = ((es = [] → K (.bool (!neg)) hp) ∧ K (.bool neg) hp) := eqq rfl
theorem RD (neg : Bool) : Ad0 neg .Ar hp K = K (.bool (!neg)) hp := eqq rfl
theorem Tv (F : Nat → AV) (f : FuncId) (cs : List Ax) : (IOp.AdB f cs).sem P F hp K = Bd (fun k => k (.fn f (cs.map fun x => x.ev F))) (fun v => K v hp) ⟨⟩ := eqq rfl
def PO (P : Program) (f : FuncId) (args : List AV) (hp : Hp) (k : AV → Prop) : Prop := NB P f args hp k
theorem Ab {P : Program} {f : FuncId} {args : List AV} {hp : Hp} {k : AV → Prop} (r : AV) (h : Ap P f args r) {kp : DC k} (hk : k r) : Bd (fun k => PO P f args hp k) k kp := ⟨r, .inl h, hk⟩
theorem FE {P : Program} {f : FuncId} {args args' : List AV} {hp : Hp} {k : AV → Prop} {r : AV} (ks : List Nat) (h : Ap P f args' r) (hs : r.Wd = true) {kp : DC k} (he : args.map (AV.Bv (Cy ks hp)) = args') (hk : k r) : Bd (fun k => PO P f args hp k) k kp := ⟨r, .inr ⟨ks, by rw [he]; exact h, hs⟩, hk⟩
theorem Tz (F : Nat → AV) (f : FuncId) (as : List Ax) : (IOp.call f as).sem P F hp K = Bd (fun k => PO P f (as.map fun x => (x.ev F).Bv hp) hp k) (fun v => K v hp) ⟨⟩ := eqq rfl
theorem QB (F : Nat → AV) (f : FuncId) (as : List Ax) : (IOp.Vc f as).sem P F hp K = ((∀ hp, (as.map fun x => (x.ev F).Bv hp) = as.map fun x => x.ev F) ∧ Bd (fun k => PO P f (as.map fun x => x.ev F) [] k) (fun v => K v hp) ⟨⟩) := eqq rfl
def YY (P : Program) (x : AV) (args : List AV) (hp : Hp) (k : AV → Prop) : Prop := SX P x args hp k
theorem Qz (F : Nat → AV) (f : Ax) (as : List Ax) : (IOp.AbA f as).sem P F hp K = Bd (fun k => YY P ((f.ev F).Bv hp) (as.map fun x => (x.ev F).Bv hp) hp k) (fun v => K v hp) ⟨⟩ := eqq rfl
theorem PM (f : FuncId) (caps args : List AV) : YY P (.fn f caps) args hp k = PO P f (args ++ caps) hp k := eqq rfl
def AbP (mx : Bool) (xs : List AV) (k : AV → Prop) : Prop := aMm mx xs k
theorem Aap (F : Nat → AV) (mx : Bool) (xs : List Ax) : (IOp.mm mx xs).sem P F hp K = Bd (fun k => AbP mx (xs.map fun x => x.ev F) k) (fun v => K v hp) ⟨⟩ := eqq rfl
theorem VD (q : IntKind) (a b : Int) : AbP true [.int q a, .int q b] k = k (.int q (max a b)) := by simp [AbP, aMm]
theorem VC (q : IntKind) (a b : Int) : AbP false [.int q a, .int q b] k = k (.int q (min a b)) := by simp [AbP, aMm]
def Dm (x : AV) (esz : Nat) (lo hi : Option AV) (k : AV → Prop) : Prop := FW (fun i => if i = 0 then lo.getD .top else hi.getD .top) esz (lo.map fun _ => .t 0) (hi.map fun _ => .t 1) x k
theorem Z2 (F : Nat → AV) (x : AV) (esz : Nat) (lo hi : Option Ax) : FW F esz lo hi x k = Dm x esz (lo.map fun x => x.ev F) (hi.map fun x => x.ev F) k := by
 unfold Dm FW
 have h1 : DZ F lo = DZ (fun i => if i = 0 then (lo.map fun x => x.ev F).getD .top else (hi.map fun x => x.ev F).getD .top) ((lo.map fun x => x.ev F).map fun _ => Ax.t 0) := by cases lo <;> rfl
 have h2 : DZ F hi = DZ (fun i => if i = 0 then (lo.map fun x => x.ev F).getD .top else (hi.map fun x => x.ev F).getD .top) ((hi.map fun x => x.ev F).map fun _ => Ax.t 1) := by cases hi <;> rfl
 have h3 : ∀ d, A0 F d lo = A0 (fun i => if i = 0 then (lo.map fun x => x.ev F).getD .top else (hi.map fun x => x.ev F).getD .top) d ((lo.map fun x => x.ev F).map fun _ => Ax.t 0) := by intro d; cases lo <;> rfl
 have h4 : ∀ d, A0 F d hi = A0 (fun i => if i = 0 then (lo.map fun x => x.ev F).getD .top else (hi.map fun x => x.ev F).getD .top) d ((hi.map fun x => x.ev F).map fun _ => Ax.t 1) := by intro d; cases hi <;> rfl
 have h5 : (lo = none) = (((lo.map fun x => x.ev F).map fun _ => Ax.t 0) = none) := by cases lo <;> simp
 simp only [h1, h2, h3, h4, h5]
theorem Qu (F : Nat → AV) (e : Nat) (x : Ax) (lo hi : Option Ax) : (IOp.slice e x lo hi).sem P F hp K = Bd (fun k => Dm (x.ev F) e (lo.map fun x => x.ev F) (hi.map fun x => x.ev F) k) (fun v => K v hp) ⟨⟩ := by simp only [IOp.sem]; exact Z2 _ _ _ _ _ _
theorem Lv (s : ByteArray) (q r : IntKind) (a b : Int) : Dm (.str s) 0 (some (.int q a)) (some (.int r b)) k = ((0 ≤ a ∧ a ≤ b ∧ b ≤ s.size) ∧ k (.str (s.extract a.toNat b.toNat))) := by simp [Dm, FW, DZ, A0, Ax.ev, AV.isInt, AV.num]
theorem M9 (s : ByteArray) (q : IntKind) (a : Int) : Dm (.str s) 0 (some (.int q a)) none k = ((0 ≤ a ∧ a ≤ s.size) ∧ k (.str (s.extract a.toNat s.size))) := by simp [Dm, FW, DZ, A0, Ax.ev, AV.isInt, AV.num, and_assoc]
theorem Na (s : ByteArray) (r : IntKind) (b : Int) : Dm (.str s) 0 none (some (.int r b)) k = ((0 ≤ b ∧ b ≤ s.size) ∧ k (.str (s.extract 0 b.toNat))) := by simp [Dm, FW, DZ, A0, Ax.ev, AV.isInt, AV.num]
theorem Nb (es : List AV) (e : Nat) (q r : IntKind) (a b : Int) : Dm (.sl es) e (some (.int q a)) (some (.int r b)) k = ((e ≠ 0 ∧ 0 ≤ a ∧ a ≤ b ∧ b ≤ es.length ∧ ∀ x ∈ es, x.cells.length = e) ∧ k (.sl ((es.drop a.toNat).take (b.toNat - a.toNat)))) := by simp [Dm, FW, DZ, A0, Ax.ev, AV.isInt, AV.num]
theorem N8 (es : List AV) (e : Nat) (q : IntKind) (a : Int) : Dm (.sl es) e (some (.int q a)) none k = ((e ≠ 0 ∧ 0 ≤ a ∧ a ≤ es.length ∧ ∀ x ∈ es, x.cells.length = e) ∧ k (.sl ((es.drop a.toNat).take (es.length - a.toNat)))) := by simp [Dm, FW, DZ, A0, Ax.ev, AV.isInt, AV.num]
theorem N9 (es : List AV) (e : Nat) (r : IntKind) (b : Int) : Dm (.sl es) e none (some (.int r b)) k = ((e ≠ 0 ∧ 0 ≤ b ∧ b ≤ es.length) ∧ k (.sl (es.take b.toNat))) := by simp [Dm, FW, DZ, A0, Ax.ev, AV.isInt, AV.num]
theorem Lw (e : Nat) (r : IntKind) (b : Int) : Dm .Ar e none (some (.int r b)) k = ((e ≠ 0 ∧ b = 0) ∧ k .Ar) := by simp [Dm, FW, DZ, A0, Ax.ev, AV.isInt, AV.num]
theorem Nc (j v n e : Nat) (r : IntKind) (b : Int) : Dm (.row j v n) e none (some (.int r b)) k = ((e ≠ 0 ∧ 0 ≤ b ∧ b ≤ n) ∧ k (.row j v b.toNat)) := by simp [Dm, FW, DZ, A0, Ax.ev, AV.isInt, AV.num]

/-! slices made, appends -/
def HQ (F : Nat → AV) (esz : Nat) (es : List AV) (ps : List (Nat × Ax)) (k : List AV → Prop) : Prop := D8 F esz es ps k
theorem Ri (F : Nat → AV) (esz : Nat) (es : List AV) (k : List AV → Prop) : HQ F esz es [] k = k es := eqq rfl
def PK (x : AV) (F : Nat → AV) (esz i : Nat) (es : List AV) (ps : List (Nat × Ax)) (k : List AV → Prop) : Prop := (x.ok = true ∧ x.cells.length = esz ∧ i < es.length) ∧ HQ F esz (es.set i x) ps k
theorem Pq (F : Nat → AV) (esz i : Nat) (x : Ax) (es : List AV) (ps : List (Nat × Ax)) (k : List AV → Prop) : HQ F esz es ((i, x) :: ps) k = PK (x.ev F) F esz i es ps k := eqq rfl
theorem Rk (cs : List AV) (F : Nat → AV) (esz i : Nat) (es : List AV) (ps : List (Nat × Ax)) (k : List AV → Prop) : PK (.agg cs) F esz i es ps k = ((cs.length = esz ∧ i < es.length) ∧ HQ F esz (es.set i (.agg cs)) ps k) := by simp [PK, AV.ok, AV.one, AV.isAgg, AV.cells]
theorem Rj (x : AV) (h : x.one = true) (F : Nat → AV) (esz i : Nat) (es : List AV) (ps : List (Nat × Ax)) (k : List AV → Prop) : PK x F esz i es ps k = ((1 = esz ∧ i < es.length) ∧ HQ F esz (es.set i x) ps k) := by simp [PK, AV.ok, h, G0 h]
theorem Xk (F : Nat → AV) (m : Nat) (z : AV) (ps : List (Nat × Ax)) : (IOp.slP m z ps).sem P F hp K = Bd (fun k => HQ F z.cells.length (List.replicate m z) ps fun es => k (.sl (es.map (AV.pur hp)))) (fun v => K v hp) ⟨⟩ := eqq rfl
theorem TD (F : Nat → AV) (op : BinOp) (x y : Ax) : (IOp.AbI op x y).sem P F hp K = Bd (fun k => MB op (x.ev F) (y.ev F) k) (fun v => K v hp) ⟨⟩ := eqq rfl
theorem Xm (F : Nat → AV) (m : Nat) (z : AV) (ps : List (Nat × Ax)) : (IOp.slF m z ps).sem P F hp K = Bd (fun k => HQ F z.cells.length (List.replicate m z) ps fun es => es.all AV.plain = true ∧ k (.sl es)) (fun v => K v hp) ⟨⟩ := eqq rfl
theorem QP : List.all [] AV.plain = true := eqq rfl
theorem Oq (x : AV) (r : List AV) : List.all (x :: r) AV.plain = (x.plain && r.all AV.plain) := eqq rfl
theorem QQ (q : IntKind) (n : Int) : (AV.int q n).plain = true := eqq rfl
theorem QO (s : ByteArray) : (AV.str s).plain = true := eqq rfl
theorem Ot (b : Bool) : (AV.bool b).plain = true := eqq rfl
theorem Xl (F : Nat → AV) (j : Nat) (ty : TypeId) (m : Nat) (z : AV) (ps : List (Nat × Ax)) : (IOp.slO j ty m z ps).sem P F hp K = Bd2 (fun k => HQ F z.cells.length (List.replicate m z) ps fun es => ∀ v, k (.row j v m) ((j, ⟨v, false, ty, z.cells.length, es⟩) :: hp)) K ⟨⟩ := eqq rfl
def PS (hp : Hp) (j : Nat) (ty : TypeId) (esz bytes : Nat) (s x : AV) (K : AV → Hp → Prop) : Prop := Qc hp j ty esz bytes s ((GH hp x).map (·.map (AV.pur hp))) K
theorem Of (F : Nat → AV) (j : Nat) (ty : TypeId) (e b : Nat) (s x : Ax) : (IOp.append j ty e b s x).sem P F hp K = Bd2 (fun k => PS hp j ty e b (s.ev F) (x.ev F) k) K ⟨⟩ := eqq rfl
theorem TF (F : Nat → AV) (j : Nat) (ty : TypeId) (e b : Nat) (s x : Ax) : (IOp.WW j ty e b s x).sem P F hp K = Bd2 (fun k => PS hp j ty e b (s.ev F) (x.ev F) k) (fun r hp' => K (r.pur (Pa r hp')) (Pa r hp')) ⟨⟩ := eqq rfl
theorem UJ (j v n : Nat) : Pa (.row j v n) hp = KG hp j := eqq rfl
def VN (bx : Option Box) (hp : Hp) (j v n : Nat) (ty : TypeId) (esz bytes : Nat) (es : List AV) (K : AV → Hp → Prop) : Prop :=
 match bx with
 | some b => (b.ver = v ∧ b.frz = false ∧ b.ty = ty ∧ b.esz = esz ∧ n ≤ b.es.length ∧ (∀ e ∈ es, e.cells.length = esz) ∧ (n + es.length) * bytes ≤ 140737488355328 ∧ n + es.length ≤ maxLen) ∧
   ∀ v', K (.row j v' (n + es.length)) ((j, ⟨v', false, ty, esz, b.es.take n ++ es⟩) :: hp)
 | none => False
theorem YT (i j v n : Nat) (ty : TypeId) (e b : Nat) (es : List AV) : PS hp i ty e b (.row j v n) (.sl es) K = VN (Aw hp j) hp j v n ty e b (es.map (AV.pur hp)) K := by
 unfold PS Qc VN GH; simp only [Option.map_some]; cases Aw hp j <;> rfl
theorem Vv (i j v n : Nat) (ty : TypeId) (e b : Nat) : PS hp i ty e b (.row j v n) .Ar K = VN (Aw hp j) hp j v n ty e b [] K := by
 unfold PS Qc VN GH; simp only [Option.map_some, List.map_nil]; cases Aw hp j <;> rfl
theorem Vw (j : Nat) (ty : TypeId) (e b : Nat) (es : List AV) : PS hp j ty e b .Ar (.sl es) K = ((((∀ x ∈ es.map (AV.pur hp), x.cells.length = e) ∧ (es.map (AV.pur hp)).length * b ≤ 140737488355328 ∧ (es.map (AV.pur hp)).length ≤ maxLen)) ∧
  ∀ v, K (.row j v (es.map (AV.pur hp)).length) ((j, ⟨v, false, ty, e, es.map (AV.pur hp)⟩) :: hp)) := rfl
theorem RC (b : Box) (j v n : Nat) (ty : TypeId) (esz bytes : Nat) (es : List AV) : VN (some b) hp j v n ty esz bytes es K = ((b.ver = v ∧ b.frz = false ∧ b.ty = ty ∧ b.esz = esz ∧ n ≤ b.es.length ∧ (∀ e ∈ es, e.cells.length = esz) ∧ (n + es.length) * bytes ≤ 140737488355328 ∧ n + es.length ≤ maxLen) ∧
   ∀ v', K (.row j v' (n + es.length)) ((j, ⟨v', false, ty, esz, b.es.take n ++ es⟩) :: hp)) := rfl
def Aep (x : AV) (j : Nat) (ty : TypeId) (bytes : Nat) (z : AV) (hp : Hp) (K : AV → Hp → Prop) : Prop :=
 match x with
 | .int _ n => (0 ≤ n ∧ n * bytes ≤ 140737488355328) ∧ ∀ v, K (.row j v n.toNat) ((j, ⟨v, false, ty, z.cells.length, List.replicate n.toNat z⟩) :: hp)
 | _ => False
theorem Aaq (F : Nat → AV) (j : Nat) (ty : TypeId) (b : Nat) (z : AV) (x : Ax) : (IOp.mkSlice j ty b z x).sem P F hp K = Bd2 (fun k => Aep (x.ev F) j ty b z hp k) K ⟨⟩ := eqq rfl
theorem Aa2 (q : IntKind) (n : Int) (j : Nat) (ty : TypeId) (b : Nat) (z : AV) : Aep (.int q n) j ty b z hp K = ((0 ≤ n ∧ n * b ≤ 140737488355328) ∧ ∀ v, K (.row j v n.toNat) ((j, ⟨v, false, ty, z.cells.length, List.replicate n.toNat z⟩) :: hp)) := eqq rfl
def AbU (hp : Hp) (x : AV) (k : AV → Prop) : Prop := AbV (GH hp x) k
theorem Xt (F : Nat → AV) (x : Ax) : (IOp.b2s x).sem P F hp K = Bd (fun k => AbU hp (x.ev F) k) (fun v => K v hp) ⟨⟩ := eqq rfl
def AbW (s n : AV) (j : Nat) (ty : TypeId) (bytes : Nat) (z : AV) (hp : Hp) (K : AV → Hp → Prop) : Prop := Y1 s n bytes fun m => ∀ v, K (.row j v m) ((j, ⟨v, false, ty, z.cells.length, List.replicate m z⟩) :: hp)
theorem TE (F : Nat → AV) (j : Nat) (ty : TypeId) (b : Nat) (z : AV) (s x : Ax) : (IOp.Vx j ty b z s x).sem P F hp K = Bd2 (fun k => AbW (s.ev F) (x.ev F) j ty b z hp k) K ⟨⟩ := eqq rfl
theorem RB (q : IntKind) (n : Int) (j : Nat) (ty : TypeId) (b : Nat) (z : AV) : AbW .Ar (.int q n) j ty b z hp K = ((0 < n ∧ n * b ≤ 140737488355328 ∧ n ≤ 1099511627776) ∧ ∀ v, K (.row j v n.toNat) ((j, ⟨v, false, ty, z.cells.length, List.replicate n.toNat z⟩) :: hp)) := eqq rfl
def Adb (x : AV) (j : Nat) (ty : TypeId) (hp : Hp) (K : AV → Hp → Prop) : Prop := AcU x fun s => ∀ v, K (.row j v s.size) ((j, ⟨v, false, ty, 1, KD s⟩) :: hp)
theorem Xn (F : Nat → AV) (j : Nat) (ty : TypeId) (x : Ax) : (IOp.s2b j ty x).sem P F hp K = Bd2 (fun k => Adb (x.ev F) j ty hp k) K ⟨⟩ := eqq rfl
theorem Xu (s : ByteArray) (j : Nat) (ty : TypeId) : Adb (.str s) j ty hp K = ∀ v, K (.row j v s.size) ((j, ⟨v, false, ty, 1, KD s⟩) :: hp) := eqq rfl
theorem Xr (F : Nat → AV) (x : Ax) : (IOp.cap x).sem P F hp K = Bd (fun k => AbS (x.ev F) k) (fun v => K v hp) ⟨⟩ := eqq rfl
theorem U8 : AbS .Ar k = k (.int .i64 0) := eqq rfl
theorem SR {x : AV} {es : List AV} (l : List UInt8) (h : GH hp x = some es) (he : es = l.map fun b => .int .u8 b.toNat) (hk : k (.str ⟨l.toArray⟩)) : AbU hp x k := by unfold AbU AbV; rw [h]; exact ⟨l, he, hk⟩

/-! scrutinees decided -/
theorem QR (t : Bool) (a b : AV) : VB (.bool t) a b k = Pk t a b k := eqq rfl
theorem Vn (op : BinOp) (q : IntKind) (a b : Int) : MB op (.int q a) (.int q b) k = IQ op q a b k := by simp [MB]
theorem YO (op : BinOp) (kd : EqK) (q : IntKind) (a b : Int) : GR op kd (.int q a) (.int q b) k = IQ op q a b k := by simp [GR]
theorem YH (op : BinOp) (kd : EqK) (a b : ByteArray) : GR op kd (.str a) (.str b) k = Vz op a b k := eqq rfl
theorem Vm (op : BinOp) (a b : Bool) : GR op .bool (.bool a) (.bool b) k = D9 op (a == b) k := by simp [GR]
theorem YN (op : BinOp) : GR op .ptr .Cx .Cx k = D9 op true k := by simp [GR]
theorem YM (op : BinOp) (cs : List AV) : GR op .ptr (.obj cs) .Cx k = D9 op false k := by simp [GR]
theorem YL (op : BinOp) (cs : List AV) : GR op .ptr .Cx (.obj cs) k = D9 op false k := by simp [GR]
theorem YK (op : BinOp) (j v i o : Nat) : GR op .ptr (.ptr j v i o) .Cx k = D9 op false k := by simp [GR]
theorem YJ (op : BinOp) : GR op .slice .Ar .Ar k = D9 op true k := by simp [GR]
theorem YI (op : BinOp) (es : List AV) : GR op .slice (.sl es) .Ar k = (es ≠ [] ∧ D9 op false k) := by simp [GR]
theorem Vl (op : BinOp) (ks : List Nat) (xs ys : List AV) : GR op (.flat ks) (.agg xs) (.agg ys) k = SW op (EF ks xs ys) k := by simp [GR, AbR]
theorem Ph (op : BinOp) (b : Bool) : SW op (some b) k = D9 op b k := eqq rfl
theorem UO : EF [] [] [] = some true := eqq rfl
theorem UP (q : IntKind) (a b : Int) (ks : List Nat) (xs ys : List AV) : EF (1 :: ks) (.int q a :: xs) (.int q b :: ys) = (EF ks xs ys).map (decide (a = b) && ·) := by simp [EF]
theorem Ra (a b : Bool) (ks : List Nat) (xs ys : List AV) : EF (0 :: ks) (.bool a :: xs) (.bool b :: ys) = (EF ks xs ys).map (decide (a = b) && ·) := eqq rfl
theorem UN (a b : ByteArray) (ks : List Nat) (xs ys : List AV) : EF (2 :: ks) (.str a :: xs) (.str b :: ys) = (EF ks xs ys).map (decide (a = b) && ·) := eqq rfl
theorem Yr (q : IntKind) (a b : Int) : IQ .add q a b k = (inR q (a + b) ∧ k (.int q (a + b))) := eqq rfl
theorem Yg (q : IntKind) (a b : Int) : IQ .sub q a b k = (inR q (a - b) ∧ k (.int q (a - b))) := eqq rfl
theorem Yk (q : IntKind) (a b : Int) : IQ .mul q a b k = (inR q (a * b) ∧ k (.int q (a * b))) := eqq rfl
theorem Yi (q : IntKind) (a b : Int) : IQ .quo q a b k = ((b ≠ 0 ∧ inR q (a.tdiv b)) ∧ k (.int q (a.tdiv b))) := eqq rfl
theorem Yh (q : IntKind) (a b : Int) : IQ .rem q a b k = ((b ≠ 0 ∧ inR q (a.tmod b)) ∧ k (.int q (a.tmod b))) := eqq rfl
theorem Yq (q : IntKind) (a b : Int) : IQ .eql q a b k = k (.bool (decide (a = b))) := eqq rfl
theorem Yj (q : IntKind) (a b : Int) : IQ .neq q a b k = k (.bool (!decide (a = b))) := eqq rfl
theorem Ym (q : IntKind) (a b : Int) : IQ .lss q a b k = k (.bool (decide (a < b))) := eqq rfl
theorem Yn (q : IntKind) (a b : Int) : IQ .leq q a b k = k (.bool (decide (a ≤ b))) := eqq rfl
theorem Yo (q : IntKind) (a b : Int) : IQ .gtr q a b k = k (.bool (decide (b < a))) := eqq rfl
theorem Yp (q : IntKind) (a b : Int) : IQ .geq q a b k = k (.bool (decide (b ≤ a))) := eqq rfl
theorem Xh (a b : ByteArray) : Vz .add a b k = (a.size + b.size ≤ maxLen ∧ k (.str (a ++ b))) := eqq rfl
theorem Xg (a b : ByteArray) : Vz .eql a b k = k (.bool (decide (a = b))) := eqq rfl
theorem Xe (a b : ByteArray) : Vz .neq a b k = k (.bool (!decide (a = b))) := eqq rfl
theorem Xf (a b : ByteArray) : Vz .lss a b k = k (.bool (Op.bytesLess a.toList b.toList)) := eqq rfl
theorem Vf (b : Bool) : D9 .eql b k = k (.bool b) := eqq rfl
theorem Ve (b : Bool) : D9 .neq b k = k (.bool (!b)) := eqq rfl
theorem Aac (b : Bool) : aUn .not (.bool b) k = k (.bool (!b)) := eqq rfl
theorem Aad (q : IntKind) (n : Int) : aUn .neg (.int q n) k = (inR q (-n) ∧ k (.int q (-n))) := eqq rfl
theorem Uj (g : Bool) (n : Nat) (cs : List AV) : FX hp g n (.obj cs) k = F2 g cs 0 n k := eqq rfl
def W1 (bx : Option Box) (g : Bool) (n v i off : Nat) (k : AV → Prop) : Prop :=
 match bx with
 | some b => (b.ver = v ∧ i < b.es.length) ∧ F2 g (b.es.getD i .top).cells off n k
 | none => False
theorem Ui (g : Bool) (n j v i off : Nat) : FX hp g n (.ptr j v i off) k = W1 (Aw hp j) g n v i off k := by cases h : Aw hp j <;> simp [FX, W1, h]
theorem OR (b : Box) (g : Bool) (n v i off : Nat) : W1 (some b) g n v i off k = ((b.ver = v ∧ i < b.es.length) ∧ F2 g (b.es.getD i .top).cells off n k) := eqq rfl
theorem QU (cs : List AV) (off n : Nat) : F2 true cs off n k = (off + n ≤ cs.length ∧ k (.agg ((cs.drop off).take n))) := eqq rfl
theorem Ou (cs : List AV) (off n : Nat) : F2 false cs off n k = (off < cs.length ∧ k (cs.getD off .top)) := eqq rfl
def SS (bx : Option Box) (hp : Hp) (n j v i off : Nat) (x : AV) (K : Hp → Prop) : Prop :=
 match bx with
 | some b => (b.ver = v ∧ b.frz = false ∧ i < b.es.length ∧ x.ok = true ∧ x.cells.length = n ∧ off + n ≤ (b.es.getD i .top).cells.length) ∧
     K ((j, { b with es := b.es.set i ((b.es.getD i .top).Gd off x.cells) }) :: hp)
 | none => False
theorem Ql (n j v i off : Nat) (x : AV) (K : Hp → Prop) : Lj hp n (.ptr j v i off) x K = SS (Aw hp j) hp n j v i off x K := by cases h : Aw hp j <;> simp [Lj, SS, h]
theorem M7 (b : Box) (n j v i off : Nat) (x : AV) (K : Hp → Prop) : SS (some b) hp n j v i off x K = ((b.ver = v ∧ b.frz = false ∧ i < b.es.length ∧ x.ok = true ∧ x.cells.length = n ∧ off + n ≤ (b.es.getD i .top).cells.length) ∧
     K ((j, { b with es := b.es.set i ((b.es.getD i .top).Gd off x.cells) }) :: hp)) := rfl
theorem Re (off : Nat) (cs : List AV) : I8 off (.obj cs) k = k (.obj (cs.drop off)) := eqq rfl
theorem Rc (off j v i o : Nat) : I8 off (.ptr j v i o) k = k (.ptr j v i (o + off)) := eqq rfl
theorem YA (g : Bool) (off n : Nat) (cs : List AV) : AbQ g off n (.agg cs) k = F2 g cs off n k := eqq rfl
theorem Ux (e : Nat) (es : List AV) (q : IntKind) (i : Int) : FY hp e (.sl es) (.int q i) k = ((0 ≤ i ∧ i < es.length ∧ (es.getD i.toNat .top).cells.length = e) ∧ k (.obj (es.getD i.toNat .top).cells)) := eqq rfl
def SV (bx : Option Box) (e j v n : Nat) (i : Int) (k : AV → Prop) : Prop :=
 match bx with
 | some b => (b.ver = v ∧ b.esz = e ∧ 0 ≤ i ∧ i < n) ∧ k (.ptr j v i.toNat 0)
 | none => False
theorem Q1 (e j v n : Nat) (q : IntKind) (i : Int) : FY hp e (.row j v n) (.int q i) k = SV (Aw hp j) e j v n i k := by cases h : Aw hp j <;> simp [FY, SV, h]
theorem Nn (b : Box) (e j v n : Nat) (i : Int) : SV (some b) e j v n i k = ((b.ver = v ∧ b.esz = e ∧ 0 ≤ i ∧ i < n) ∧ k (.ptr j v i.toNat 0)) := eqq rfl
theorem Tj (s : ByteArray) (q : IntKind) (i : Int) : VA (.str s) (.int q i) k = ((0 ≤ i ∧ i < s.size) ∧ k (.int .u8 (D7 s i.toNat).toNat)) := eqq rfl
theorem Yc (s : ByteArray) : Mx true (.str s) k = k (.int .i64 s.size) := by simp [Mx]
theorem Abc (es : List AV) : Mx false (.sl es) k = k (.int .i64 es.length) := by simp [Mx]
theorem Yd (j v n : Nat) : Mx false (.row j v n) k = k (.int .i64 n) := by simp [Mx]
theorem Ul : Mx false .Ar k = k (.int .i64 0) := by simp [Mx]
theorem U4 (d q : IntKind) (n : Int) : VF d (.int q n) k = (inR d n ∧ k (.int d n)) := eqq rfl
theorem Nt (i : Nat) (xs : List AV) : Hh i (.tup xs) k = (i < xs.length ∧ k (xs.getD i .top)) := eqq rfl
theorem OK (cs : List AV) : GQ (.obj cs) k = k (.obj cs) := eqq rfl
theorem OJ (j v i o : Nat) : GQ (.ptr j v i o) k = k (.ptr j v i o) := eqq rfl
theorem QZ (f : FuncId) (cs : List AV) : GQ (.fn f cs) k = k (.fn f cs) := eqq rfl
theorem Xv (F : Nat → AV) (k : List AV → Prop) : Cg hp F [] k = k [] := eqq rfl
theorem AcZ (F : Nat → AV) (i : Nat) (rs : List GU) (k : List AV → Prop) : Cg hp F (.t i :: rs) k = Cg hp F rs fun xs => k (F i :: xs) := eqq rfl
theorem Ac0 (F : Nat → AV) (g : Bool) (n i : Nat) (rs : List GU) (k : List AV → Prop) : Cg hp F (.c g n i :: rs) k = FX hp g n (F i) fun x => Cg hp F rs fun xs => k (x :: xs) := eqq rfl
theorem Rg (i : Nat) : entry i [] = [] := eqq rfl
theorem Pp (i : Nat) (x : AV) (xs : List AV) : entry i (x :: xs) = (i, x) :: entry (i + 1) xs := eqq rfl

/-! reading own rows for good -/
theorem XE (q : IntKind) (n : Int) : (AV.int q n).pur hp = .int q n := eqq rfl
theorem TN (b : Bool) : (AV.bool b).pur hp = .bool b := eqq rfl
theorem XA (s : ByteArray) : (AV.str s).pur hp = .str s := eqq rfl
theorem AaB (es : List AV) : (AV.sl es).pur hp = .sl es := eqq rfl
theorem XD (cs : List AV) : (AV.obj cs).pur hp = .obj cs := eqq rfl
theorem TL : AV.Ar.pur hp = .Ar := eqq rfl
theorem TM : AV.Cx.pur hp = .Cx := eqq rfl
theorem AaD (f : FuncId) (cs : List AV) : (AV.fn f cs).pur hp = .fn f cs := eqq rfl
theorem XF (cs : List AV) : (AV.agg cs).pur hp = .agg (cs.map (AV.AR hp)) := eqq rfl
theorem Xz (cs : List AV) : (AV.tup cs).pur hp = .tup (cs.map (AV.AR hp)) := eqq rfl
theorem XB (j v n : Nat) : (AV.row j v n).pur hp = (AV.row j v n).AR hp := eqq rfl
theorem XC (j v i o : Nat) : (AV.ptr j v i o).pur hp = (AV.ptr j v i o).AR hp := eqq rfl
theorem T3 (q : IntKind) (n : Int) : (AV.int q n).AR hp = .int q n := eqq rfl
theorem QN (b : Bool) : (AV.bool b).AR hp = .bool b := eqq rfl
theorem TX (s : ByteArray) : (AV.str s).AR hp = .str s := eqq rfl
theorem XJ (es : List AV) : (AV.sl es).AR hp = .sl es := eqq rfl
theorem T2 (cs : List AV) : (AV.obj cs).AR hp = .obj cs := eqq rfl
theorem QL : AV.Ar.AR hp = .Ar := eqq rfl
theorem QM : AV.Cx.AR hp = .Cx := eqq rfl
theorem XK (f : FuncId) (cs : List AV) : (AV.fn f cs).AR hp = .fn f cs := eqq rfl
theorem T4 (cs : List AV) : (AV.agg cs).AR hp = .agg cs := eqq rfl
def Aci (bx : Option Box) (j v n : Nat) : AV :=
 match bx with
 | some b => if b.ver = v ∧ b.frz = true ∧ n ≤ b.es.length then .sl (b.es.take n) else .row j v n
 | none => .row j v n
theorem TY (j v n : Nat) : (AV.row j v n).AR hp = Aci (Aw hp j) j v n := eqq rfl
theorem QG (b : Box) (j v n : Nat) : Aci (some b) j v n = if b.ver = v ∧ b.frz = true ∧ n ≤ b.es.length then .sl (b.es.take n) else .row j v n := eqq rfl
theorem QH (j v n : Nat) : Aci none j v n = .row j v n := eqq rfl
def AaE (bx : Option Box) (j v i o : Nat) : AV :=
 match bx with
 | some b => if b.ver = v ∧ b.frz = true ∧ i < b.es.length then .obj ((b.es.getD i .top).cells.drop o) else .ptr j v i o
 | none => .ptr j v i o
theorem TZ (j v i o : Nat) : (AV.ptr j v i o).AR hp = AaE (Aw hp j) j v i o := eqq rfl
theorem Ol (b : Box) (j v i o : Nat) : AaE (some b) j v i o = if b.ver = v ∧ b.frz = true ∧ i < b.es.length then .obj ((b.es.getD i .top).cells.drop o) else .ptr j v i o := eqq rfl
theorem Om (j v i o : Nat) : AaE none j v i o = .ptr j v i o := eqq rfl
theorem On (x : AV) : AV.AR [] x = x := by cases x <;> rfl
theorem Ee (l : List AV) : l.map (AV.AR []) = l := by
 have : AV.AR [] = id := funext On
 rw [this, List.map_id]
theorem NS (x : AV) : AV.pur [] x = x := by cases x <;> first | rfl | exact congrArg AV.agg (Ee _) | exact congrArg AV.tup (Ee _)
theorem Nk (l : List AV) : l.map (AV.pur []) = l := by
 have : AV.pur [] = id := funext NS
 rw [this, List.map_id]
theorem TU (x : AV) : AV.Bv [] x = x := by cases x <;> first | rfl | exact NS _ | exact congrArg (AV.fn _) (Ee _) | exact congrArg AV.agg (Ee _) | exact congrArg AV.tup (Ee _)
theorem XH (f : FuncId) (cs : List AV) : (AV.fn f cs).Bv hp = .fn f (cs.map (AV.AR hp)) := eqq rfl
theorem TV (q : IntKind) (n : Int) : (AV.int q n).Bv hp = .int q n := eqq rfl
theorem QK (b : Bool) : (AV.bool b).Bv hp = .bool b := eqq rfl
theorem TP (s : ByteArray) : (AV.str s).Bv hp = .str s := eqq rfl
theorem XG (es : List AV) : (AV.sl es).Bv hp = .sl es := eqq rfl
theorem TT (cs : List AV) : (AV.obj cs).Bv hp = .obj cs := eqq rfl
theorem QI : AV.Ar.Bv hp = .Ar := eqq rfl
theorem QJ : AV.Cx.Bv hp = .Cx := eqq rfl
theorem TW (cs : List AV) : (AV.agg cs).Bv hp = .agg (cs.map (AV.AR hp)) := eqq rfl
theorem TQ (j v n : Nat) : (AV.row j v n).Bv hp = (AV.row j v n).AR hp := eqq rfl
theorem TR (j v i o : Nat) : (AV.ptr j v i o).Bv hp = (AV.ptr j v i o).AR hp := eqq rfl
theorem Ru (cs : List AV) : (AV.agg cs).cells = cs := eqq rfl
theorem XV (q : IntKind) (n : Int) : AV.one (.int q n) = true := eqq rfl
theorem ok_int (q : IntKind) (n : Int) : AV.ok (.int q n) = true := eqq rfl
theorem Rt (q : IntKind) (n : Int) : AV.cells (.int q n) = [.int q n] := eqq rfl
theorem Tq (q : IntKind) (n : Int) (x : AV) : AV.Gd (.int q n) 0 [x] = x := eqq rfl
theorem Ue (b : Bool) : AV.one (.bool b) = true := eqq rfl
theorem X0 (b : Bool) : AV.ok (.bool b) = true := eqq rfl
theorem Pz (b : Bool) : AV.cells (.bool b) = [.bool b] := eqq rfl
theorem Qs (b : Bool) (x : AV) : AV.Gd (.bool b) 0 [x] = x := eqq rfl
theorem XR (s : ByteArray) : AV.one (.str s) = true := eqq rfl
theorem AaT (s : ByteArray) : AV.ok (.str s) = true := eqq rfl
theorem Rp (s : ByteArray) : AV.cells (.str s) = [.str s] := eqq rfl
theorem Tm (s : ByteArray) (x : AV) : AV.Gd (.str s) 0 [x] = x := eqq rfl
theorem AaR (es : List AV) : AV.one (.sl es) = true := eqq rfl
theorem Ac4 (es : List AV) : AV.ok (.sl es) = true := eqq rfl
theorem U6 (es : List AV) : AV.cells (.sl es) = [.sl es] := eqq rfl
theorem Xi (es : List AV) (x : AV) : AV.Gd (.sl es) 0 [x] = x := eqq rfl
theorem XU (cs : List AV) : AV.one (.obj cs) = true := eqq rfl
theorem AaW (cs : List AV) : AV.ok (.obj cs) = true := eqq rfl
theorem Rs (cs : List AV) : AV.cells (.obj cs) = [.obj cs] := eqq rfl
theorem Tp (cs : List AV) (x : AV) : AV.Gd (.obj cs) 0 [x] = x := eqq rfl
theorem Ub  : AV.one (.Ar) = true := eqq rfl
theorem XX  : AV.ok (.Ar) = true := eqq rfl
theorem Pv  : AV.cells (.Ar) = [.Ar] := eqq rfl
theorem Qp  (x : AV) : AV.Gd (.Ar) 0 [x] = x := eqq rfl
theorem Uc  : AV.one (.Cx) = true := eqq rfl
theorem XY  : AV.ok (.Cx) = true := eqq rfl
theorem Pw  : AV.cells (.Cx) = [.Cx] := eqq rfl
theorem Qq  (x : AV) : AV.Gd (.Cx) 0 [x] = x := eqq rfl
theorem Ud  : AV.one (.IZ) = true := eqq rfl
theorem XZ  : AV.ok (.IZ) = true := eqq rfl
theorem Py  : AV.cells (.IZ) = [.IZ] := eqq rfl
theorem Qr  (x : AV) : AV.Gd (.IZ) 0 [x] = x := eqq rfl
theorem AaS (f : FuncId) (cs : List AV) : AV.one (.fn f cs) = true := eqq rfl
theorem Ac5 (f : FuncId) (cs : List AV) : AV.ok (.fn f cs) = true := eqq rfl
theorem U7 (f : FuncId) (cs : List AV) : AV.cells (.fn f cs) = [.fn f cs] := eqq rfl
theorem Xj (f : FuncId) (cs : List AV) (x : AV) : AV.Gd (.fn f cs) 0 [x] = x := eqq rfl
theorem XS (j v n : Nat) : AV.one (.row j v n) = true := eqq rfl
theorem AaU (j v n : Nat) : AV.ok (.row j v n) = true := eqq rfl
theorem Rq (j v n : Nat) : AV.cells (.row j v n) = [.row j v n] := eqq rfl
theorem Tn (j v n : Nat) (x : AV) : AV.Gd (.row j v n) 0 [x] = x := eqq rfl
theorem XT (j v i o : Nat) : AV.one (.ptr j v i o) = true := eqq rfl
theorem AaV (j v i o : Nat) : AV.ok (.ptr j v i o) = true := eqq rfl
theorem Rr (j v i o : Nat) : AV.cells (.ptr j v i o) = [.ptr j v i o] := eqq rfl
theorem To (j v i o : Nat) (x : AV) : AV.Gd (.ptr j v i o) 0 [x] = x := eqq rfl
theorem AaX (cs : List AV) : AV.ok (.agg cs) = true := eqq rfl
theorem Ts (cs : List AV) (o : Nat) (xs : List AV) : AV.Gd (.agg cs) o xs = .agg (lay cs o xs) := eqq rfl
theorem Abd (cs : List AV) (o : Nat) (xs : List AV) : lay cs o xs = cs.take o ++ xs ++ cs.drop (o + xs.length) := eqq rfl
theorem UR (x : AV) : JI hp [x] = x.pur hp := eqq rfl
theorem UQ (x y : AV) : JI hp [x, y] = .tup [x.pur hp, y.pur hp] := eqq rfl
theorem Pm (x y z : AV) : JI hp [x, y, z] = .tup [x.pur hp, y.pur hp, z.pur hp] := eqq rfl
theorem Rb : JI hp [] = .tup [] := eqq rfl
theorem Ys (n : Int) : inR .i64 n = (-9223372036854775808 ≤ n ∧ n ≤ 9223372036854775807) := eqq rfl
theorem Abi (n : Int) : inR .u8 n = (0 ≤ n ∧ n ≤ 255) := eqq rfl
end

theorem zA.{u} {p : Prop} (α : Sort u) [Nonempty α] : (α → p) ↔ p := forall_const α
theorem zI.{u} (α : Sort u) : (α → True) = True := implies_true α
theorem zN.{u} {α : Sort u} (a b : α) : (a ≠ b) = ¬(a = b) := ne_eq a b
theorem zE.{u} {α : Sort u} {p : α → Prop} {a' : α} : (∀ a, a = a' → p a) ↔ p a' := forall_eq
theorem SD : type_of% (And.intro (And.intro (And.intro (And.intro (And.intro (And.intro @Vo @PA) (And.intro @Vr (And.intro @Vt @YP))) (And.intro (And.intro @OA @OB) (And.intro @Oz (And.intro @brt @brf)))) (And.intro (And.intro (And.intro @bnt @bnf) (And.intro @pkt (And.intro @pkf @Vs))) (And.intro (And.intro @Rz (And.intro @LI @LG)) (And.intro @LJ (And.intro @LH @Vq))))) (And.intro (And.intro (And.intro (And.intro @Ry @LD) (And.intro @LC (And.intro @LF @YQ))) (And.intro (And.intro @Nh (And.intro @Ni @Ng)) (And.intro @Jf (And.intro @LK @Vp)))) (And.intro (And.intro (And.intro @QA @Oe) (And.intro @JW (And.intro @Nj @XP))) (And.intro (And.intro @XO (And.intro @T9 @QW)) (And.intro @OC (And.intro @Aeh @Aej)))))) (And.intro (And.intro (And.intro (And.intro (And.intro @Aei @YC) (And.intro @YB (And.intro @Yv @Yu))) (And.intro (And.intro @UB (And.intro @Xo @Tu)) (And.intro @Xs (And.intro @TC @Aao)))) (And.intro (And.intro (And.intro @TA @TB) (And.intro @QC (And.intro @Qv @Tw))) (And.intro (And.intro @Qt (And.intro @Qy @Xq)) (And.intro @Qx (And.intro @Od @Tt))))) (And.intro (And.intro (And.intro (And.intro @Xp @Tx) (And.intro @Nd (And.intro @Ob @Qw))) (And.intro (And.intro @Tv (And.intro @Tz @QB)) (And.intro @Qz (And.intro @Aap @Qu)))) (And.intro (And.intro (And.intro @Xk @TD) (And.intro @Xm (And.intro @Xl @Of))) (And.intro (And.intro @TF (And.intro @Aaq @Xt)) (And.intro @TE (And.intro @Xn @Xr))))))) := (And.intro (And.intro (And.intro (And.intro (And.intro (And.intro @Vo @PA) (And.intro @Vr (And.intro @Vt @YP))) (And.intro (And.intro @OA @OB) (And.intro @Oz (And.intro @brt @brf)))) (And.intro (And.intro (And.intro @bnt @bnf) (And.intro @pkt (And.intro @pkf @Vs))) (And.intro (And.intro @Rz (And.intro @LI @LG)) (And.intro @LJ (And.intro @LH @Vq))))) (And.intro (And.intro (And.intro (And.intro @Ry @LD) (And.intro @LC (And.intro @LF @YQ))) (And.intro (And.intro @Nh (And.intro @Ni @Ng)) (And.intro @Jf (And.intro @LK @Vp)))) (And.intro (And.intro (And.intro @QA @Oe) (And.intro @JW (And.intro @Nj @XP))) (And.intro (And.intro @XO (And.intro @T9 @QW)) (And.intro @OC (And.intro @Aeh @Aej)))))) (And.intro (And.intro (And.intro (And.intro (And.intro @Aei @YC) (And.intro @YB (And.intro @Yv @Yu))) (And.intro (And.intro @UB (And.intro @Xo @Tu)) (And.intro @Xs (And.intro @TC @Aao)))) (And.intro (And.intro (And.intro @TA @TB) (And.intro @QC (And.intro @Qv @Tw))) (And.intro (And.intro @Qt (And.intro @Qy @Xq)) (And.intro @Qx (And.intro @Od @Tt))))) (And.intro (And.intro (And.intro (And.intro @Xp @Tx) (And.intro @Nd (And.intro @Ob @Qw))) (And.intro (And.intro @Tv (And.intro @Tz @QB)) (And.intro @Qz (And.intro @Aap @Qu)))) (And.intro (And.intro (And.intro @Xk @TD) (And.intro @Xm (And.intro @Xl @Of))) (And.intro (And.intro @TF (And.intro @Aaq @Xt)) (And.intro @TE (And.intro @Xn @Xr)))))))
theorem SU0 : type_of% (And.intro (And.intro (And.intro (And.intro (And.intro (And.intro (And.intro @Aex (And.intro @Ab1 @Ab0)) (And.intro (And.intro @VV @Adf) (And.intro @Y4 @Y3))) (And.intro (And.intro (And.intro @Y5 @RM) (And.intro @AbD @AbE)) (And.intro (And.intro @AaL @PL) (And.intro @Pc @Q8)))) (And.intro (And.intro (And.intro (And.intro @O5 @Np) (And.intro @Pb @GZ)) (And.intro (And.intro @Yx @O7) (And.intro @O8 @UL))) (And.intro (And.intro (And.intro @Q9 @Mb) (And.intro @Dt @Uy)) (And.intro (And.intro @MO @K8) (And.intro @O2 @Q2))))) (And.intro (And.intro (And.intro (And.intro @I6 (And.intro @NA @Ny)) (And.intro (And.intro @My @PH) (And.intro @Xd @Vk))) (And.intro (And.intro (And.intro @Vg @Vj) (And.intro @Vi @Vh)) (And.intro (And.intro @VL @VK) (And.intro @RI @VI)))) (And.intro (And.intro (And.intro (And.intro @YZ @VJ) (And.intro @RG @RH)) (And.intro (And.intro @Y0 @RK) (And.intro @RJ @PR))) (And.intro (And.intro (And.intro @NC @NF) (And.intro @ND @YX)) (And.intro (And.intro @RD @PM) (And.intro @VD @VC)))))) (And.intro (And.intro (And.intro (And.intro (And.intro @Lv (And.intro @M9 @Na)) (And.intro (And.intro @Nb @N8) (And.intro @N9 @Lw))) (And.intro (And.intro (And.intro @Nc @Ri) (And.intro @Pq @Rk)) (And.intro (And.intro @Rj @QP) (And.intro @Oq @QQ)))) (And.intro (And.intro (And.intro (And.intro @QO @Ot) (And.intro @UJ @YT)) (And.intro (And.intro @Vv @Vw) (And.intro @RC @Aa2))) (And.intro (And.intro (And.intro @RB @Xu) (And.intro @U8 @QR)) (And.intro (And.intro @Vn @YO) (And.intro @YH @Vm))))) (And.intro (And.intro (And.intro (And.intro @YN (And.intro @YM @YL)) (And.intro (And.intro @YK @YJ) (And.intro @YI @Vl))) (And.intro (And.intro (And.intro @Ph @UO) (And.intro @UP @Ra)) (And.intro (And.intro @UN @Yr) (And.intro @Yg @Yk)))) (And.intro (And.intro (And.intro (And.intro @Yi @Yh) (And.intro @Yq @Yj)) (And.intro (And.intro @Ym @Yn) (And.intro @Yo @Yp))) (And.intro (And.intro (And.intro @Xh @Xg) (And.intro @Xe @Xf)) (And.intro (And.intro @Vf @Ve) (And.intro @Aac @Aad))))))) (And.intro (And.intro (And.intro (And.intro (And.intro (And.intro @Uj (And.intro @Ui @OR)) (And.intro (And.intro @QU @Ou) (And.intro @Ql @M7))) (And.intro (And.intro (And.intro @Re @Rc) (And.intro @YA @Ux)) (And.intro (And.intro @Q1 @Nn) (And.intro @Tj @Yc)))) (And.intro (And.intro (And.intro (And.intro @Abc @Yd) (And.intro @Ul @U4)) (And.intro (And.intro @Nt @OK) (And.intro @OJ @QZ))) (And.intro (And.intro (And.intro @Xv @AcZ) (And.intro @Ac0 @Rg)) (And.intro (And.intro @Pp @XE) (And.intro @TN @XA))))) (And.intro (And.intro (And.intro (And.intro @AaB (And.intro @XD @TL)) (And.intro (And.intro @TM @AaD) (And.intro @XF @Xz))) (And.intro (And.intro (And.intro @XB @XC) (And.intro @T3 @QN)) (And.intro (And.intro @TX @XJ) (And.intro @T2 @QL)))) (And.intro (And.intro (And.intro (And.intro @QM @XK) (And.intro @T4 @TY)) (And.intro (And.intro @QG @QH) (And.intro @TZ @Ol))) (And.intro (And.intro (And.intro @Om @On) (And.intro @Ee @NS)) (And.intro (And.intro @Nk @TU) (And.intro @XH @TV)))))) (And.intro (And.intro (And.intro (And.intro (And.intro @QK (And.intro @TP @XG)) (And.intro (And.intro @TT @QI) (And.intro @QJ @TW))) (And.intro (And.intro (And.intro @TQ @TR) (And.intro @Ru @XV)) (And.intro (And.intro @ok_int @Rt) (And.intro @Tq @Ue)))) (And.intro (And.intro (And.intro (And.intro @X0 @Pz) (And.intro @Qs @XR)) (And.intro (And.intro @AaT @Rp) (And.intro @Tm @AaR))) (And.intro (And.intro (And.intro @Ac4 @U6) (And.intro @Xi @XU)) (And.intro (And.intro @AaW @Rs) (And.intro @Tp @Ub))))) (And.intro (And.intro (And.intro (And.intro (And.intro @XX @Pv) (And.intro @Qp @Uc)) (And.intro (And.intro @XY @Pw) (And.intro @Qq @Ud))) (And.intro (And.intro (And.intro @XZ @Py) (And.intro @Qr @AaS)) (And.intro (And.intro @Ac5 @U7) (And.intro @Xj @XS)))) (And.intro (And.intro (And.intro (And.intro @AaU @Rq) (And.intro @Tn @XT)) (And.intro (And.intro @AaV @Rr) (And.intro @To @AaX))) (And.intro (And.intro (And.intro @Ts @Abd) (And.intro @UR @UQ)) (And.intro (And.intro @Pm @Rb) (And.intro @Ys @Abi)))))))) := (And.intro (And.intro (And.intro (And.intro (And.intro (And.intro (And.intro @Aex (And.intro @Ab1 @Ab0)) (And.intro (And.intro @VV @Adf) (And.intro @Y4 @Y3))) (And.intro (And.intro (And.intro @Y5 @RM) (And.intro @AbD @AbE)) (And.intro (And.intro @AaL @PL) (And.intro @Pc @Q8)))) (And.intro (And.intro (And.intro (And.intro @O5 @Np) (And.intro @Pb @GZ)) (And.intro (And.intro @Yx @O7) (And.intro @O8 @UL))) (And.intro (And.intro (And.intro @Q9 @Mb) (And.intro @Dt @Uy)) (And.intro (And.intro @MO @K8) (And.intro @O2 @Q2))))) (And.intro (And.intro (And.intro (And.intro @I6 (And.intro @NA @Ny)) (And.intro (And.intro @My @PH) (And.intro @Xd @Vk))) (And.intro (And.intro (And.intro @Vg @Vj) (And.intro @Vi @Vh)) (And.intro (And.intro @VL @VK) (And.intro @RI @VI)))) (And.intro (And.intro (And.intro (And.intro @YZ @VJ) (And.intro @RG @RH)) (And.intro (And.intro @Y0 @RK) (And.intro @RJ @PR))) (And.intro (And.intro (And.intro @NC @NF) (And.intro @ND @YX)) (And.intro (And.intro @RD @PM) (And.intro @VD @VC)))))) (And.intro (And.intro (And.intro (And.intro (And.intro @Lv (And.intro @M9 @Na)) (And.intro (And.intro @Nb @N8) (And.intro @N9 @Lw))) (And.intro (And.intro (And.intro @Nc @Ri) (And.intro @Pq @Rk)) (And.intro (And.intro @Rj @QP) (And.intro @Oq @QQ)))) (And.intro (And.intro (And.intro (And.intro @QO @Ot) (And.intro @UJ @YT)) (And.intro (And.intro @Vv @Vw) (And.intro @RC @Aa2))) (And.intro (And.intro (And.intro @RB @Xu) (And.intro @U8 @QR)) (And.intro (And.intro @Vn @YO) (And.intro @YH @Vm))))) (And.intro (And.intro (And.intro (And.intro @YN (And.intro @YM @YL)) (And.intro (And.intro @YK @YJ) (And.intro @YI @Vl))) (And.intro (And.intro (And.intro @Ph @UO) (And.intro @UP @Ra)) (And.intro (And.intro @UN @Yr) (And.intro @Yg @Yk)))) (And.intro (And.intro (And.intro (And.intro @Yi @Yh) (And.intro @Yq @Yj)) (And.intro (And.intro @Ym @Yn) (And.intro @Yo @Yp))) (And.intro (And.intro (And.intro @Xh @Xg) (And.intro @Xe @Xf)) (And.intro (And.intro @Vf @Ve) (And.intro @Aac @Aad))))))) (And.intro (And.intro (And.intro (And.intro (And.intro (And.intro @Uj (And.intro @Ui @OR)) (And.intro (And.intro @QU @Ou) (And.intro @Ql @M7))) (And.intro (And.intro (And.intro @Re @Rc) (And.intro @YA @Ux)) (And.intro (And.intro @Q1 @Nn) (And.intro @Tj @Yc)))) (And.intro (And.intro (And.intro (And.intro @Abc @Yd) (And.intro @Ul @U4)) (And.intro (And.intro @Nt @OK) (And.intro @OJ @QZ))) (And.intro (And.intro (And.intro @Xv @AcZ) (And.intro @Ac0 @Rg)) (And.intro (And.intro @Pp @XE) (And.intro @TN @XA))))) (And.intro (And.intro (And.intro (And.intro @AaB (And.intro @XD @TL)) (And.intro (And.intro @TM @AaD) (And.intro @XF @Xz))) (And.intro (And.intro (And.intro @XB @XC) (And.intro @T3 @QN)) (And.intro (And.intro @TX @XJ) (And.intro @T2 @QL)))) (And.intro (And.intro (And.intro (And.intro @QM @XK) (And.intro @T4 @TY)) (And.intro (And.intro @QG @QH) (And.intro @TZ @Ol))) (And.intro (And.intro (And.intro @Om @On) (And.intro @Ee @NS)) (And.intro (And.intro @Nk @TU) (And.intro @XH @TV)))))) (And.intro (And.intro (And.intro (And.intro (And.intro @QK (And.intro @TP @XG)) (And.intro (And.intro @TT @QI) (And.intro @QJ @TW))) (And.intro (And.intro (And.intro @TQ @TR) (And.intro @Ru @XV)) (And.intro (And.intro @ok_int @Rt) (And.intro @Tq @Ue)))) (And.intro (And.intro (And.intro (And.intro @X0 @Pz) (And.intro @Qs @XR)) (And.intro (And.intro @AaT @Rp) (And.intro @Tm @AaR))) (And.intro (And.intro (And.intro @Ac4 @U6) (And.intro @Xi @XU)) (And.intro (And.intro @AaW @Rs) (And.intro @Tp @Ub))))) (And.intro (And.intro (And.intro (And.intro (And.intro @XX @Pv) (And.intro @Qp @Uc)) (And.intro (And.intro @XY @Pw) (And.intro @Qq @Ud))) (And.intro (And.intro (And.intro @XZ @Py) (And.intro @Qr @AaS)) (And.intro (And.intro @Ac5 @U7) (And.intro @Xj @XS)))) (And.intro (And.intro (And.intro (And.intro @AaU @Rq) (And.intro @Tn @XT)) (And.intro (And.intro @AaV @Rr) (And.intro @To @AaX))) (And.intro (And.intro (And.intro @Ts @Abd) (And.intro @UR @UQ)) (And.intro (And.intro @Pm @Rb) (And.intro @Ys @Abi))))))))
theorem SB : type_of% (And.intro (And.intro (And.intro (And.intro (And.intro (And.intro @List.map_cons.{0,0} @List.map_nil.{0,0}) (And.intro @List.drop_succ_cons.{0} @List.drop_zero.{0})) (And.intro (And.intro @List.take_succ_cons.{0} @List.take_zero.{0}) (And.intro @List.take_nil.{0} @List.drop_nil.{0}))) (And.intro (And.intro (And.intro @List.getD_cons_zero.{0} @List.getD_cons_succ.{0}) (And.intro @List.length_cons.{0} @List.length_nil.{0})) (And.intro (And.intro @List.cons_append.{0} @List.nil_append.{0}) (And.intro @List.append_nil.{0} (And.intro @List.replicate_succ.{0} @List.replicate_zero.{0}))))) (And.intro (And.intro (And.intro (And.intro @List.set_cons_zero.{0} @List.set_cons_succ.{0}) (And.intro @Option.map_some.{0,0} @Option.map_none.{0,0})) (And.intro (And.intro @Nat.add_zero @Nat.zero_add) (And.intro @decide_eq_true_eq (And.intro @decide_eq_false_iff_not @Bool.not_eq_true')))) (And.intro (And.intro (And.intro @Bool.not_eq_false' @Bool.not_true) (And.intro @Bool.not_false @true_and)) (And.intro (And.intro @and_true @not_false_eq_true) (And.intro @not_true_eq_false (And.intro @Int.toNat_natCast @Nat.lt_add_one)))))) (And.intro (And.intro (And.intro (And.intro (And.intro @Bool.decide_eq_true @Bool.true_eq_false) (And.intro @Bool.false_eq_true @false_implies)) (And.intro (And.intro @true_implies @List.mem_cons.{0}) (And.intro @List.not_mem_nil.{0} @or_false))) (And.intro (And.intro (And.intro @Int.ofNat_lt @Int.ofNat_le) (And.intro @Int.natCast_inj @Int.natCast_zero)) (And.intro (And.intro @Int.natCast_one @Int.cast_ofNat_Int) (And.intro @Int.natCast_nonneg (And.intro @Nat.zero_le @Nat.le_refl))))) (And.intro (And.intro (And.intro (And.intro @List.contains_nil.{0} @List.contains_cons.{0}) (And.intro @Bool.or_false @Bool.or_true)) (And.intro (And.intro @Bool.false_or @Bool.true_or) (And.intro @decide_true (And.intro @decide_false @Bool.false_and)))) (And.intro (And.intro (And.intro @Bool.true_and @Bool.and_true) (And.intro @Bool.and_false @zA.{0})) (And.intro (And.intro @zA.{1} @zI.{0}) (And.intro @zI.{1} (And.intro @zN.{1} @zE.{1}))))))) := (And.intro (And.intro (And.intro (And.intro (And.intro (And.intro @List.map_cons.{0,0} @List.map_nil.{0,0}) (And.intro @List.drop_succ_cons.{0} @List.drop_zero.{0})) (And.intro (And.intro @List.take_succ_cons.{0} @List.take_zero.{0}) (And.intro @List.take_nil.{0} @List.drop_nil.{0}))) (And.intro (And.intro (And.intro @List.getD_cons_zero.{0} @List.getD_cons_succ.{0}) (And.intro @List.length_cons.{0} @List.length_nil.{0})) (And.intro (And.intro @List.cons_append.{0} @List.nil_append.{0}) (And.intro @List.append_nil.{0} (And.intro @List.replicate_succ.{0} @List.replicate_zero.{0}))))) (And.intro (And.intro (And.intro (And.intro @List.set_cons_zero.{0} @List.set_cons_succ.{0}) (And.intro @Option.map_some.{0,0} @Option.map_none.{0,0})) (And.intro (And.intro @Nat.add_zero @Nat.zero_add) (And.intro @decide_eq_true_eq (And.intro @decide_eq_false_iff_not @Bool.not_eq_true')))) (And.intro (And.intro (And.intro @Bool.not_eq_false' @Bool.not_true) (And.intro @Bool.not_false @true_and)) (And.intro (And.intro @and_true @not_false_eq_true) (And.intro @not_true_eq_false (And.intro @Int.toNat_natCast @Nat.lt_add_one)))))) (And.intro (And.intro (And.intro (And.intro (And.intro @Bool.decide_eq_true @Bool.true_eq_false) (And.intro @Bool.false_eq_true @false_implies)) (And.intro (And.intro @true_implies @List.mem_cons.{0}) (And.intro @List.not_mem_nil.{0} @or_false))) (And.intro (And.intro (And.intro @Int.ofNat_lt @Int.ofNat_le) (And.intro @Int.natCast_inj @Int.natCast_zero)) (And.intro (And.intro @Int.natCast_one @Int.cast_ofNat_Int) (And.intro @Int.natCast_nonneg (And.intro @Nat.zero_le @Nat.le_refl))))) (And.intro (And.intro (And.intro (And.intro @List.contains_nil.{0} @List.contains_cons.{0}) (And.intro @Bool.or_false @Bool.or_true)) (And.intro (And.intro @Bool.false_or @Bool.true_or) (And.intro @decide_true (And.intro @decide_false @Bool.false_and)))) (And.intro (And.intro (And.intro @Bool.true_and @Bool.and_true) (And.intro @Bool.and_false @zA.{0})) (And.intro (And.intro @zA.{1} @zI.{0}) (And.intro @zI.{1} (And.intro @zN.{1} @zE.{1})))))))

theorem SU : type_of% (And.intro SU0 SB) := And.intro SU0 SB
end Go.Proofs.YtjbcnilllfaipaaGreat.Av
