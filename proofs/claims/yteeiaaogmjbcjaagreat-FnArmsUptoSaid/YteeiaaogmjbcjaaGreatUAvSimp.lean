/-
 THE RULES BY WHICH AN ABSTRACT TEXT IS CARRIED OUT: for simp. Conditions: none.
-/
import Derived.Test.YteeiaaogmjbcjaaGreatUAvDraw
set_option linter.unusedVariables false
namespace Go.Proofs.YteeiaaogmjbcjaaGreat.Av
open Go.RowKit

theorem eqq {α : Sort _} {a b : α} (h : a = b) : a = b := h
structure CU {α : Type} (a : α) : Type where
 mk ::
def Bd {α : Type} (m : (α → Prop) → Prop) (k : α → Prop) (h : CU k) : Prop := m k
def Bd2 (m : (AV → Hp → Prop) → Prop) (k : AV → Hp → Prop) (h : CU k) : Prop := m k
theorem AcW {α : Type} (v : α) (K : α → Prop) (h : CU K) : Bd (fun k => k v) K h = K v := eqq rfl
theorem AaA {α : Type} (A B : (α → Prop) → Prop) (K : α → Prop) (h : CU K) : Bd (fun k => A k ∧ B k) K h = (Bd A K h ∧ Bd B K h) := eqq rfl
theorem Aaz {α : Type} (c : Prop) (B : (α → Prop) → Prop) (K : α → Prop) (h : CU K) : Bd (fun k => c → B k) K h = (c → Bd B K h) := eqq rfl
theorem Uf {α : Type} (c : Prop) (K : α → Prop) (h : CU K) : Bd (fun _ => c) K h = c := eqq rfl
theorem AbK (v : AV) (hp : Hp) (K : AV → Hp → Prop) (h : CU K) : Bd2 (fun k => k v hp) K h = K v hp := eqq rfl
theorem XA (A B : (AV → Hp → Prop) → Prop) (K : AV → Hp → Prop) (h : CU K) : Bd2 (fun k => A k ∧ B k) K h = (Bd2 A K h ∧ Bd2 B K h) := eqq rfl
theorem Xz (c : Prop) (B : (AV → Hp → Prop) → Prop) (K : AV → Hp → Prop) (h : CU K) : Bd2 (fun k => c → B k) K h = (c → Bd2 B K h) := eqq rfl
theorem XB {β : Type} (B : β → (AV → Hp → Prop) → Prop) (K : AV → Hp → Prop) (h : CU K) : Bd2 (fun k => ∀ v, B v k) K h = ∀ v, Bd2 (B v) K h := eqq rfl
theorem P8 (c : Prop) (K : AV → Hp → Prop) (h : CU K) : Bd2 (fun _ => c) K h = c := eqq rfl

section
variable (P : Program) (Q : Exit → St → Prop) (fr : List (Nat × AV)) (hp : Hp) (K : AV → Hp → Prop) (k : AV → Prop)

theorem Tw (s : St) : awp P .skip Q s = Q .normal s := eqq rfl
theorem NJ (l : List BC) (s : St) : awp P (.region l) Q s = Bh P (Q .normal) l s := eqq rfl
theorem TA (l : List BC) (s : St) : awp P (.draw l) Q s = Bh P (Q .normal) l s := eqq rfl
theorem TC (a b : Bt) (s : St) : awp P (.both a b) Q s = (awp P a Q s ∧ awp P b Q s) := eqq rfl
def Abq (P : Program) (b : Bt) (Q : Exit → St → Prop) : Exit → St → Prop := fun e s' => match e with | .normal => awp P b Q s' | e => Q e s'
theorem Xe (a b : Bt) (s : St) : awp P (.seq a b) Q s = awp P a (Abq P b Q) s := eqq rfl
theorem MI (b : Bt) (s : St) : Abq P b Q .normal s = awp P b Q s := eqq rfl
theorem MJ (b : Bt) (i : Nat) (s : St) : Abq P b Q (.exit i) s = Q (.exit i) s := eqq rfl
theorem MH (b : Bt) (s : St) : Abq P b Q .ret s = Q .ret s := eqq rfl
def Br (b : Bool) (A B : Prop) (h : CU A) (h' : CU B) : Prop := (b = true → A) ∧ (b = false → B)
theorem brt (A B : Prop) (h : CU A) (h' : CU B) : Br true A B h h' = A := propext ⟨fun x => x.1 (eqq rfl), fun x => ⟨fun _ => x, fun e => by cases e⟩⟩
theorem brf (A B : Prop) (h : CU A) (h' : CU B) : Br false A B h h' = B := propext ⟨fun x => x.2 (eqq rfl), fun x => ⟨fun e => (by cases e), fun _ => x⟩⟩
theorem Z8 (b : Bool) (A B : Prop) (h : CU A) (h' : CU B) : Br b A B h h' = ((b = true → A) ∧ (b = false → B)) := eqq rfl
def Bn (b : Bool) (A B : Prop) (h : CU A) (h' : CU B) : Prop := (b = false → A) ∧ (b = true → B)
theorem bnt (A B : Prop) (h : CU A) (h' : CU B) : Bn true A B h h' = B := propext ⟨fun x => x.2 (eqq rfl), fun x => ⟨fun e => (by cases e), fun _ => x⟩⟩
theorem bnf (A B : Prop) (h : CU A) (h' : CU B) : Bn false A B h h' = A := propext ⟨fun x => x.1 (eqq rfl), fun x => ⟨fun _ => x, fun e => by cases e⟩⟩
theorem Aaa (b : Bool) (A B : Prop) (h : CU A) (h' : CU B) : Bn b A B h h' = ((b = false → A) ∧ (b = true → B)) := eqq rfl
def Pk (t : Bool) (a b : AV) (k : AV → Prop) : Prop := (t = true → k a) ∧ (t = false → k b)
theorem pkt (a b : AV) (k : AV → Prop) : Pk true a b k = k a := propext ⟨fun x => x.1 (eqq rfl), fun x => ⟨fun _ => x, fun e => by cases e⟩⟩
theorem pkf (a b : AV) (k : AV → Prop) : Pk false a b k = k b := propext ⟨fun x => x.2 (eqq rfl), fun x => ⟨fun e => (by cases e), fun _ => x⟩⟩
theorem Zg (t : Bool) (a b : AV) (k : AV → Prop) : Pk t a b k = ((t = true → k a) ∧ (t = false → k b)) := eqq rfl
def AbF (x : AV) (A B : Prop) (h : CU A) (h' : CU B) : Prop :=
 match x with
 | .bool t => (t = true → A) ∧ (t = false → B)
 | _ => False
theorem TB (c : AB) (a b : Bt) (s : St) : awp P (.cond c a b) Q s = AbF (c.ev (Ba s.fr)) (awp P a Q s) (awp P b Q s) ⟨⟩ ⟨⟩ := eqq rfl
theorem NV (t : Bool) (A B : Prop) (h : CU A) (h' : CU B) : AbF (.bool t) A B h h' = Br t A B h h' := eqq rfl
def JU (id : Nat) (Q : Exit → St → Prop) : Exit → St → Prop := fun e s' => match e with | .exit id' => if id' = id then Q .normal s' else Q (.exit id') s' | e => Q e s'
theorem PN (id : Nat) (a : Bt) (s : St) : awp P (.block id a) Q s = awp P a (JU id Q) s := eqq rfl
theorem Kg (id : Nat) (s : St) : JU id Q .normal s = Q .normal s := eqq rfl
theorem Ke (id : Nat) (s : St) : JU id Q .ret s = Q .ret s := eqq rfl
theorem Kh (id : Nat) (s : St) : JU id Q (.exit id) s = Q .normal s := by simp [JU]
theorem Kf {i id : Nat} (h : (i == id) = false) (s : St) : JU id Q (.exit i) s = Q (.exit i) s := by simp [JU, beq_eq_false_iff_ne.1 h]
theorem Tz (id : Nat) (s : St) : awp P (.exit id) Q s = Q (.exit id) s := eqq rfl
def QY (Q : Exit → St → Prop) : Exit → St → Prop := fun e s' => match e with | .goto _ => False | e => Q e s'
theorem PM (a : Bt) (s : St) : awp P (.scope a) Q s = awp P a (QY Q) s := eqq rfl
theorem Kc (s : St) : QY Q .normal s = Q .normal s := eqq rfl
theorem Kb (s : St) : QY Q .ret s = Q .ret s := eqq rfl
theorem Kd (i : Nat) (s : St) : QY Q (.exit i) s = Q (.exit i) s := eqq rfl
theorem Xf : awp P .ret Q ⟨fr, hp⟩ = Bd (fun k => k (JK hp)) (fun hp => Q .ret ⟨fr, hp⟩) ⟨⟩ := eqq rfl
theorem Nj : JK [] = [] := eqq rfl
theorem Pm (hp : Hp) : JK hp = B9 (Ev hp) (B9 (Ev hp) hp) := eqq rfl
theorem Na : Ev [] = [] := eqq rfl
theorem LD (j : Nat) (b : Box) (r : Hp) : Ev ((j, b) :: r) = if (Ev r).contains j then Ev r else j :: Ev r := eqq rfl
theorem Ni (hp : Hp) : B9 [] hp = hp := eqq rfl
theorem FB (j : Nat) (r : List Nat) (hp : Hp) : B9 (j :: r) hp = B9 r (GY hp j) := eqq rfl
def ZU (bx : Option Box) (hp : Hp) (j : Nat) : Hp :=
 match bx with
 | some b => (j, { b with frz := true, es := b.es.map (AV.pur hp) }) :: hp
 | none => hp
theorem WR (hp : Hp) (j : Nat) : GY hp j = ZU (Aw hp j) hp j := eqq rfl
theorem Nc (ver : Nat) (z : Bool) (ty : TypeId) (esz : Nat) (es : List AV) (hp : Hp) (j : Nat) : ZU (some ⟨ver, z, ty, esz, es⟩) hp j = (j, ⟨ver, true, ty, esz, es.map (AV.pur hp)⟩) :: hp := eqq rfl
theorem Nd (hp : Hp) (j : Nat) : ZU none hp j = hp := eqq rfl
/-! loops -/
def T0 {X : Type} (I : X → St) (pre : X → Prop) (m : X → Nat) (x : X) (Q : Exit → St → Prop) : Exit → St → Prop := fun e s' => match e with | .normal => Ai s' (fun t => ∃ x', (pre x' ∧ m x' < m x) ∧ t = I x') | e => Q e s'
theorem Lr {X : Type} (I : X → St) (pre : X → Prop) (m : X → Nat) (x : X) (s : St) : T0 I pre m x Q .normal s = Ai s (fun t => ∃ x', (pre x' ∧ m x' < m x) ∧ t = I x') := eqq rfl
theorem Ls {X : Type} (I : X → St) (pre : X → Prop) (m : X → Nat) (x : X) (i : Nat) (s : St) : T0 I pre m x Q (.exit i) s = Q (.exit i) s := eqq rfl
theorem Lq {X : Type} (I : X → St) (pre : X → Prop) (m : X → Nat) (x : X) (s : St) : T0 I pre m x Q .ret s = Q .ret s := eqq rfl
theorem AG {P : Program} {Q : Exit → St → Prop} {a : Bt} {s : St} {X : Type} (I : X → St) (pre : X → Prop) (m : X → Nat) (x0 : X) (h0 : pre x0) (h1 : QE s.fr (I x0).fr) (h2 : Bf s.hp (I x0).hp) (hr : ∀ x, pre x → awp P a (T0 I pre m x Q) (I x)) : awp P (.loop a) Q s :=
 ⟨X, I, pre, m, Ai.le ⟨x0, h0, rfl⟩ h1 h2, hr⟩
theorem Cu {P : Program} {Q : Exit → St → Prop} {a : Bt} {s : St} {X : Type} (I : X → St) (pre : X → Prop) (m : X → Nat) (h0 : Ai s (fun t => ∃ x, pre x ∧ t = I x)) (hr : ∀ x, pre x → awp P a (T0 I pre m x Q) (I x)) : awp P (.loop a) Q s :=
 ⟨X, I, pre, m, h0, hr⟩
theorem Aaj {X : Type} {I : X → St} {pre : X → Prop} {m : X → Nat} {x : X} {s : St} (x' : X) (h0 : pre x') (hm : m x' < m x) (h1 : QE s.fr (I x').fr) (h2 : Bf s.hp (I x').hp) : Ai s (fun t => ∃ x', (pre x' ∧ m x' < m x) ∧ t = I x') :=
 Ai.le ⟨x', ⟨h0, hm⟩, rfl⟩ h1 h2
theorem BM {P : Program} {Q : Exit → St → Prop} {a : Bt} {s : St} (h : Ai s (fun t => awp P a Q t)) : awp P (.ghost a) Q s := h
theorem Ai.here {s : St} {T : St → Prop} (h : T s) : Ai s T := ⟨fun _ _ a w hr => ⟨s, h, hr⟩⟩
theorem SN (s : List (Nat × AV)) : QE s [] = True := eqq rfl
theorem Pn (s : List (Nat × AV)) (i : Nat) (x : AV) (r : List (Nat × AV)) : QE s ((i, x) :: r) = (Ba s i = x ∧ QE s r) := eqq rfl
theorem SC (s : Hp) : Bf s [] = True := eqq rfl
theorem KZ (s : Hp) (i : Nat) (x : Box) (r : Hp) : Bf s ((i, x) :: r) = (Aw s i = some x ∧ Bf s r) := eqq rfl
/-! a function that is handed own rows -/
def N2 (rs : List E5) (Post : AV → Hp → Prop) (t : St) : Prop := BH t.hp (Ba t.fr) rs fun xs => ∃ hp', Bf t.hp hp' ∧ Post (HT t.hp xs) hp'
theorem Hr (rs : List E5) (Post : AV → Hp → Prop) (s : St) : Aax rs Post .normal s = Ai s (N2 rs Post) := eqq rfl
theorem Ki (rs : List E5) (Post : AV → Hp → Prop) (s : St) : Aax rs Post .ret s = Ai s (N2 rs Post) := eqq rfl
theorem Ai.post {rs : List E5} {Post : AV → Hp → Prop} {s : St} (hp' : Hp) (h : BH s.hp (Ba s.fr) rs fun xs => Bf s.hp hp' ∧ Post (HT s.hp xs) hp') : Ai s (N2 rs Post) := by
 refine Ai.here ?_
 have : ∀ {l : List E5} {K K' : List AV → Prop}, (∀ ys, K ys → K' ys) → BH s.hp (Ba s.fr) l K → BH s.hp (Ba s.fr) l K' := by
  intro l
  induction l with
  | nil => intro K K' hk h; exact hk _ h
  | cons r l ih =>
   intro K K' hk h
   unfold BH at h ⊢
   cases r with
   | t i => exact ih (fun ys hy => hk _ hy) h
   | c g n i =>
    simp only [AcG, ED] at h ⊢
    split at h
    ·unfold EJ at h ⊢; cases g <;> exact ⟨h.1, ih (fun ys hy => hk _ hy) h.2⟩
    ·split at h
     ·refine ⟨h.1, ?_⟩; have h := h.2; unfold EJ at h ⊢; cases g <;> exact ⟨h.1, ih (fun ys hy => hk _ hy) h.2⟩
     ·exact h
    ·exact h
 exact this (fun ys hy => ⟨hp', hy⟩) h
theorem Tx (s : St) : awp P .HS Q s = Q .ret s := eqq rfl
theorem SA (hp : Hp) : IJ [] hp = [] := eqq rfl
def WN (bx : Option Box) (j : Nat) (r : Hp) : Hp :=
 match bx with
 | some b => (j, b) :: r
 | none => r
theorem Pc (j : Nat) (r : List Nat) (hp : Hp) : IJ (j :: r) hp = WN (Aw hp j) j (IJ r hp) := by
 unfold IJ WN; rw [List.filterMap_cons]; cases Aw hp j <;> rfl
theorem M7 (b : Box) (j : Nat) (r : Hp) : WN (some b) j r = (j, b) :: r := eqq rfl
theorem M8 (j : Nat) (r : Hp) : WN none j r = r := eqq rfl
theorem Pf (hs : List Nat) : BS hs [] = [] := eqq rfl
theorem JJ (hs : List Nat) (j : Nat) (b : Box) (r : Hp) : BS hs ((j, b) :: r) = if hs.contains j then BS hs r else (j, b) :: BS hs r := by
 unfold BS; rw [List.filter_cons]; cases hs.contains j <;> rfl
def Md (P : Program) (f : FuncId) (args : List AV) (hp : Hp) (k : AV → Hp → Prop) : Prop := NZ P f args hp k
theorem Ac {P : Program} {f : FuncId} {args : List AV} {hp hp0 : Hp} {k : AV → Hp → Prop} {Post : AV → Hp → Prop} (hs : List Nat) (h : AH P f args hp0 Post) {kp : CU k} (he : IJ hs hp = hp0) (hk : ∀ r hp', Post r hp' → k r (hp' ++ BS hs hp)) : Bd2 (fun k => Md P f args hp k) k kp := ⟨hs, Post, .inl ⟨by rw [he]; exact h, hk⟩⟩
theorem OL (F : Nat → AV) (f : FuncId) (as : List AB) : (IOp.Bi f as).sem P F hp K = Bd2 (fun k => Md P f (as.map fun x => (x.ev F).BN hp) hp k) K ⟨⟩ := eqq rfl
def TN (P : Program) (x : AV) (args : List AV) (hp : Hp) (k : AV → Hp → Prop) : Prop := KH P x args hp k
theorem Mr (F : Nat → AV) (f : AB) (as : List AB) : (IOp.JO f as).sem P F hp K = Bd2 (fun k => TN P ((f.ev F).BN hp) (as.map fun x => (x.ev F).BN hp) hp k) K ⟨⟩ := eqq rfl
theorem LQ (f : FuncId) (caps args : List AV) : TN P (.fn f caps) args hp K = Md P f (args ++ caps) hp K := eqq rfl
theorem Ig (rs : List E5) (res : AV) (s : St) : Ret rs res .normal s = BH s.hp (Ba s.fr) rs fun xs => HT s.hp xs = res := eqq rfl
theorem Lt (rs : List E5) (res : AV) (s : St) : Ret rs res .ret s = BH s.hp (Ba s.fr) rs fun xs => HT s.hp xs = res := eqq rfl

theorem Wa (R : St → Prop) (s : St) : Bh P R [] s = R s := eqq rfl
theorem V9 (R : St → Prop) (d : Nat) (op : IOp) (l : List BC) : Bh P R (⟨some d, none, op⟩ :: l) ⟨fr, hp⟩ = op.sem P (Ba fr) hp fun v hp => Bh P R l ⟨(d, v) :: fr, hp⟩ := eqq rfl
theorem R3 (R : St → Prop) (op : IOp) (l : List BC) : Bh P R (⟨none, none, op⟩ :: l) ⟨fr, hp⟩ = op.sem P (Ba fr) hp fun v hp => Bh P R l ⟨fr, hp⟩ := eqq rfl
def NT (x : AV) (want : Bool) (A B : Prop) (h : CU A) (h' : CU B) : Prop :=
 match x with
 | .bool b => (b = want → A) ∧ (b = (!want) → B)
 | .tup _ => B
 | _ => False
theorem O3 (R : St → Prop) (d t : Nat) (want : Bool) (op : IOp) (l : List BC) : Bh P R (⟨some d, some (t, want), op⟩ :: l) ⟨fr, hp⟩ = NT (Ba fr t) want (op.sem P (Ba fr) hp fun v hp => Bh P R l ⟨(d, v) :: fr, hp⟩) (Bh P R l ⟨(d, .tup []) :: fr, hp⟩) ⟨⟩ ⟨⟩ := eqq rfl
theorem MK (R : St → Prop) (t : Nat) (want : Bool) (op : IOp) (l : List BC) : Bh P R (⟨none, some (t, want), op⟩ :: l) ⟨fr, hp⟩ = NT (Ba fr t) want (op.sem P (Ba fr) hp fun v hp => Bh P R l ⟨fr, hp⟩) (Bh P R l ⟨fr, hp⟩) ⟨⟩ ⟨⟩ := eqq rfl
theorem LO (b : Bool) (A B : Prop) (h : CU A) (h' : CU B) : NT (.bool b) true A B h h' = Br b A B h h' := eqq rfl
theorem KG (b : Bool) (A B : Prop) (h : CU A) (h' : CU B) : NT (.bool b) false A B h h' = Bn b A B h h' := eqq rfl
theorem NS (xs : List AV) (want : Bool) (A B : Prop) (h : CU A) (h' : CU B) : NT (.tup xs) want A B h h' = B := eqq rfl

theorem Acz (F : Nat → AV) (i : Nat) : AB.ev F (.t i) = F i := eqq rfl
theorem AcB (F : Nat → AV) (x : AV) : AB.ev F (.c x) = x := eqq rfl
theorem AcA (F : Nat → AV) (l : List Nat) : AB.ev F (.s l) = .str (bs l) := eqq rfl
theorem VA : AV.str ⟨⟨[]⟩⟩ = AV.str (bs []) := eqq rfl
theorem WY (i : Nat) (x : AV) : Ba ((i, x) :: fr) i = x := by simp [Ba]
theorem WX {i j : Nat} (x : AV) (h : (i == j) = false) : Ba ((i, x) :: fr) j = Ba fr j := by simp [Ba, (beq_eq_false_iff_ne.1 h)]
theorem WQ (i : Nat) (x : Box) : Aw ((i, x) :: hp) i = some x := by simp [Aw]
theorem WO {i j : Nat} (x : Box) (h : (i == j) = false) : Aw ((i, x) :: hp) j = Aw hp j := by simp [Aw, (beq_eq_false_iff_ne.1 h)]
theorem SE (i : Nat) : Aw [] i = none := eqq rfl

theorem VL (F : Nat → AV) (x : AB) : (IOp.mov x).sem P F hp K = Bd (fun k => k (x.ev F)) (fun v => K v hp) ⟨⟩ := eqq rfl
theorem Rl (F : Nat → AV) (c a b : AB) : (IOp.pick c a b).sem P F hp K = Bd (fun k => TI (c.ev F) (a.ev F) (b.ev F) k) (fun v => K v hp) ⟨⟩ := eqq rfl
theorem VP (F : Nat → AV) (op : BinOp) (kd : EqK) (x y : AB) : (IOp.bin op kd x y).sem P F hp K = Bd (fun k => Fv op kd (x.ev F) (y.ev F) k) (fun v => K v hp) ⟨⟩ := eqq rfl
theorem Rs (F : Nat → AV) (op : BinOp) (x y : AB) : (IOp.Ab5 op x y).sem P F hp K = Bd (fun k => EK op (x.ev F) (y.ev F) k) (fun v => K v hp) ⟨⟩ := eqq rfl
theorem Ts (q : IntKind) (a b : Int) : EK .add (.int q a) (.int q b) k = k (.int q (q.wrap (a + b))) := by simp [EK]
theorem To (q : IntKind) (a b : Int) : EK .sub (.int q a) (.int q b) k = k (.int q (q.wrap (a - b))) := by simp [EK]
theorem Tr (q : IntKind) (a b : Int) : EK .mul (.int q a) (.int q b) k = k (.int q (q.wrap (a * b))) := by simp [EK]
theorem Tq (q r : IntKind) (a b : Int) : EK .shl (.int q a) (.int r b) k = (0 ≤ b ∧ k (.int q (q.wrap (a * 2 ^ (min b.toNat q.bits))))) := by simp [EK]
theorem Tp (q r : IntKind) (a b : Int) : EK .shr (.int q a) (.int r b) k = ((0 ≤ b ∧ inR q (a.fdiv (2 ^ (min b.toNat q.bits)))) ∧ k (.int q (a.fdiv (2 ^ (min b.toNat q.bits))))) := by simp [EK]
theorem YX (F : Nat → AV) (op : UnOp) (x : AB) : (IOp.un op x).sem P F hp K = Bd (fun k => aUn op (x.ev F) k) (fun v => K v hp) ⟨⟩ := eqq rfl
def Hm (x : AV) (hp : Hp) (k : AV → Prop) : Prop := x.ok = true ∧ k (.obj (x.pur hp).cells)
theorem Rq (F : Nat → AV) (x : AB) : (IOp.Z9 x).sem P F hp K = Bd (fun k => Hm (x.ev F) hp k) (fun v => K v hp) ⟨⟩ := eqq rfl
theorem TV (cs : List AV) : Hm (.agg cs) hp k = k (.obj (cs.map (AV.Bs hp))) := by simp [Hm, AV.ok, AV.one, AV.isAgg, AV.pur, AV.cells]
theorem TU (q : IntKind) (n : Int) : Hm (.int q n) hp k = k (.obj [.int q n]) := by simp [Hm, AV.ok, AV.one, AV.isAgg, AV.pur, AV.Bs, AV.cells]
theorem P0 (b : Bool) : Hm (.bool b) hp k = k (.obj [.bool b]) := by simp [Hm, AV.ok, AV.one, AV.isAgg, AV.pur, AV.Bs, AV.cells]
theorem TP (s : ByteArray) : Hm (.str s) hp k = k (.obj [.str s]) := by simp [Hm, AV.ok, AV.one, AV.isAgg, AV.pur, AV.Bs, AV.cells]
theorem Xt (es : List AV) : Hm (.sl es) hp k = k (.obj [.sl es]) := by simp [Hm, AV.ok, AV.one, AV.isAgg, AV.pur, AV.Bs, AV.cells]
theorem TR (cs : List AV) : Hm (.obj cs) hp k = k (.obj [.obj cs]) := by simp [Hm, AV.ok, AV.one, AV.isAgg, AV.pur, AV.Bs, AV.cells]
theorem PY : Hm .Au hp k = k (.obj [.Au]) := by simp [Hm, AV.ok, AV.one, AV.isAgg, AV.pur, AV.Bs, AV.cells]
theorem PZ : Hm .Dl hp k = k (.obj [.Dl]) := by simp [Hm, AV.ok, AV.one, AV.isAgg, AV.pur, AV.Bs, AV.cells]
theorem Xu (f : FuncId) (cs : List AV) : Hm (.fn f cs) hp k = k (.obj [.fn f cs]) := by simp [Hm, AV.ok, AV.one, AV.isAgg, AV.pur, AV.Bs, AV.cells]
def TW (x : AV) (n j : Nat) (ty : TypeId) (hp : Hp) (K : AV → Hp → Prop) : Prop := (x.ok = true ∧ x.cells.length = n) ∧ ∀ v, K (.ptr j v 0 0) ((j, ⟨v, false, ty, n, [x]⟩) :: hp)
theorem Rr (F : Nat → AV) (j : Nat) (ty : TypeId) (n : Nat) (x : AB) : (IOp.F3 j ty n x).sem P F hp K = Bd2 (fun k => TW (x.ev F) n j ty hp k) K ⟨⟩ := eqq rfl
theorem P4 (cs : List AV) (n j : Nat) (ty : TypeId) : TW (.agg cs) n j ty hp K = (cs.length = n ∧ ∀ v, K (.ptr j v 0 0) ((j, ⟨v, false, ty, n, [.agg cs]⟩) :: hp)) := by simp [TW, AV.ok, AV.one, AV.isAgg, AV.cells]
theorem P3 (x : AV) (h : x.one = true) (n j : Nat) (ty : TypeId) : TW x n j ty hp K = (1 = n ∧ ∀ v, K (.ptr j v 0 0) ((j, ⟨v, false, ty, n, [x]⟩) :: hp)) := by simp [TW, AV.ok, h, FE h]
theorem ON (F : Nat → AV) (z : List AV) (ps : List (Nat × Nat × AB)) : (IOp.build z ps).sem P F hp K = Bd (fun k => F6 F z ps fun cs => k (.agg cs)) (fun v => K v hp) ⟨⟩ := eqq rfl
theorem N0 (F : Nat → AV) (z : List AV) (k : List AV → Prop) : F6 F z [] k = k z := eqq rfl
def KI (x : AV) (F : Nat → AV) (z : List AV) (off n : Nat) (ps : List (Nat × Nat × AB)) (k : List AV → Prop) : Prop := (x.ok = true ∧ x.cells.length = n ∧ off + n ≤ z.length) ∧ F6 F (lay z off x.cells) ps k
theorem LS (F : Nat → AV) (z : List AV) (off n : Nat) (x : AB) (ps : List (Nat × Nat × AB)) (k : List AV → Prop) : F6 F z ((off, n, x) :: ps) k = KI (x.ev F) F z off n ps k := eqq rfl
theorem LV (cs : List AV) (F : Nat → AV) (z : List AV) (off n : Nat) (ps : List (Nat × Nat × AB)) (k : List AV → Prop) : KI (.agg cs) F z off n ps k = ((cs.length = n ∧ off + n ≤ z.length) ∧ F6 F (z.take off ++ (cs ++ z.drop (off + cs.length))) ps k) := by simp [KI, AV.ok, AV.one, AV.isAgg, AV.cells, lay]
theorem LU (x : AV) (h : x.one = true) (F : Nat → AV) (z : List AV) (off n : Nat) (ps : List (Nat × Nat × AB)) (k : List AV → Prop) : KI x F z off n ps k = ((1 = n ∧ off + n ≤ z.length) ∧ F6 F (z.take off ++ (x :: z.drop (off + 1))) ps k) := by simp [KI, AV.ok, h, FE h, lay]
theorem OG (F : Nat → AV) (g : Bool) (n : Nat) (a : AB) : (IOp.Ij g n a).sem P F hp K = Bd (fun k => ED [] g n (a.ev F) k) (fun v => K v hp) ⟨⟩ := eqq rfl
theorem Rn (F : Nat → AV) (g : Bool) (n : Nat) (a : AB) : (IOp.load g n a).sem P F hp K = Bd (fun k => ED hp g n (a.ev F) k) (fun v => K v hp) ⟨⟩ := eqq rfl
theorem OD (F : Nat → AV) (n : Nat) (a x : AB) : (IOp.store n a x).sem P F hp K = Bd (fun k => JR hp n (a.ev F) (x.ev F) k) (fun hp => K (.tup []) hp) ⟨⟩ := eqq rfl
theorem OJ (F : Nat → AV) (off : Nat) (x : AB) : (IOp.Ca off x).sem P F hp K = Bd (fun k => Hl off (x.ev F) k) (fun v => K v hp) ⟨⟩ := eqq rfl
theorem VN (F : Nat → AV) (g : Bool) (off n : Nat) (x : AB) : (IOp.fld g off n x).sem P F hp K = Bd (fun k => Aal g off n (x.ev F) k) (fun v => K v hp) ⟨⟩ := eqq rfl
theorem OI (F : Nat → AV) (e : Nat) (x i : AB) : (IOp.LC e x i).sem P F hp K = Bd (fun k => Cj hp e (x.ev F) (i.ev F) k) (fun v => K v hp) ⟨⟩ := eqq rfl
theorem Mq (F : Nat → AV) (e : Nat) (x i : AB) : (IOp.M6 e x i).sem P F hp K = Bd (fun k => Cj [] e (x.ev F) (i.ev F) k) (fun v => K v hp) ⟨⟩ := eqq rfl
theorem Rk (F : Nat → AV) (x i : AB) : (IOp.AbN x i).sem P F hp K = Bd (fun k => TH (x.ev F) (i.ev F) k) (fun v => K v hp) ⟨⟩ := eqq rfl
theorem VM (F : Nat → AV) (g : Bool) (x : AB) : (IOp.len g x).sem P F hp K = Bd (fun k => Fu g (x.ev F) k) (fun v => K v hp) ⟨⟩ := eqq rfl
theorem Ro (F : Nat → AV) (d : IntKind) (x : AB) : (IOp.conv d x).sem P F hp K = Bd (fun k => TM d (x.ev F) k) (fun v => K v hp) ⟨⟩ := eqq rfl
theorem Ln (F : Nat → AV) (i : Nat) (x : AB) : (IOp.extract i x).sem P F hp K = Bd (fun k => F4 i (x.ev F) k) (fun v => K v hp) ⟨⟩ := eqq rfl
theorem Mo (F : Nat → AV) (x : AB) : (IOp.C7 x).sem P F hp K = Bd (fun k => Ft (x.ev F) k) (fun v => K v hp) ⟨⟩ := eqq rfl
def Ab7 (neg : Bool) (x : AV) (hp : Hp) (K : AV → Hp → Prop) : Prop :=
 match x with
 | .sl es => (es = [] → K (.bool (!neg)) hp) ∧ K (.bool neg) hp
 | .Au => K (.bool (!neg)) hp
 | _ => False
theorem OH (F : Nat → AV) (neg : Bool) (x : AB) : (IOp.Ko neg x).sem P F hp K = Bd2 (fun k => Ab7 neg (x.ev F) hp k) K ⟨⟩ := eqq rfl
theorem Xr (neg : Bool) (es : List AV) : Ab7 neg (.sl es) hp K = ((es = [] → K (.bool (!neg)) hp) ∧ K (.bool neg) hp) := eqq rfl
theorem PV (neg : Bool) : Ab7 neg .Au hp K = K (.bool (!neg)) hp := eqq rfl
theorem Rm (F : Nat → AV) (f : FuncId) (cs : List AB) : (IOp.Ab1 f cs).sem P F hp K = Bd (fun k => k (.fn f (cs.map fun x => x.ev F))) (fun v => K v hp) ⟨⟩ := eqq rfl
def NY (P : Program) (f : FuncId) (args : List AV) (hp : Hp) (k : AV → Prop) : Prop := LR P f args hp k
theorem Ag {P : Program} {f : FuncId} {args : List AV} {hp : Hp} {k : AV → Prop} (r : AV) (h : AJ P f args r) {kp : CU k} (hk : k r) : Bd (fun k => NY P f args hp k) k kp := ⟨r, .inl h, hk⟩
theorem Yz {P : Program} {f : FuncId} {args args' : List AV} {hp : Hp} {k : AV → Prop} {r : AV} (ks : List Nat) (h : AJ P f args' r) (hs : r.Us = true) {kp : CU k} (he : args.map (AV.BN (B9 ks hp)) = args') (hk : k r) : Bd (fun k => NY P f args hp k) k kp := ⟨r, .inr ⟨ks, by rw [he]; exact h, hs⟩, hk⟩
theorem Rp (F : Nat → AV) (f : FuncId) (as : List AB) : (IOp.call f as).sem P F hp K = Bd (fun k => NY P f (as.map fun x => (x.ev F).BN hp) hp k) (fun v => K v hp) ⟨⟩ := eqq rfl
theorem OM (F : Nat → AV) (f : FuncId) (as : List AB) : (IOp.Tj f as).sem P F hp K = ((∀ hp, (as.map fun x => (x.ev F).BN hp) = as.map fun x => x.ev F) ∧ Bd (fun k => NY P f (as.map fun x => x.ev F) [] k) (fun v => K v hp) ⟨⟩) := eqq rfl
def Xs (P : Program) (x : AV) (args : List AV) (hp : Hp) (k : AV → Prop) : Prop := QX P x args hp k
theorem OK (F : Nat → AV) (f : AB) (as : List AB) : (IOp.Z7 f as).sem P F hp K = Bd (fun k => Xs P ((f.ev F).BN hp) (as.map fun x => (x.ev F).BN hp) hp k) (fun v => K v hp) ⟨⟩ := eqq rfl
theorem NW (f : FuncId) (caps args : List AV) : Xs P (.fn f caps) args hp k = NY P f (args ++ caps) hp k := eqq rfl
def Aak (mx : Bool) (xs : List AV) (k : AV → Prop) : Prop := aMm mx xs k
theorem YY (F : Nat → AV) (mx : Bool) (xs : List AB) : (IOp.mm mx xs).sem P F hp K = Bd (fun k => Aak mx (xs.map fun x => x.ev F) k) (fun v => K v hp) ⟨⟩ := eqq rfl
theorem TK (q : IntKind) (a b : Int) : Aak true [.int q a, .int q b] k = k (.int q (max a b)) := by simp [Aak, aMm]
theorem TJ (q : IntKind) (a b : Int) : Aak false [.int q a, .int q b] k = k (.int q (min a b)) := by simp [Aak, aMm]
def Ci (x : AV) (esz : Nat) (lo hi : Option AV) (k : AV → Prop) : Prop := EC (fun i => if i = 0 then lo.getD .top else hi.getD .top) esz (lo.map fun _ => .t 0) (hi.map fun _ => .t 1) x k
theorem Yy (F : Nat → AV) (x : AV) (esz : Nat) (lo hi : Option AB) : EC F esz lo hi x k = Ci x esz (lo.map fun x => x.ev F) (hi.map fun x => x.ev F) k := by
 unfold Ci EC
 have h1 : C5 F lo = C5 (fun i => if i = 0 then (lo.map fun x => x.ev F).getD .top else (hi.map fun x => x.ev F).getD .top) ((lo.map fun x => x.ev F).map fun _ => AB.t 0) := by cases lo <;> rfl
 have h2 : C5 F hi = C5 (fun i => if i = 0 then (lo.map fun x => x.ev F).getD .top else (hi.map fun x => x.ev F).getD .top) ((hi.map fun x => x.ev F).map fun _ => AB.t 1) := by cases hi <;> rfl
 have h3 : ∀ d, AU F d lo = AU (fun i => if i = 0 then (lo.map fun x => x.ev F).getD .top else (hi.map fun x => x.ev F).getD .top) d ((lo.map fun x => x.ev F).map fun _ => AB.t 0) := by intro d; cases lo <;> rfl
 have h4 : ∀ d, AU F d hi = AU (fun i => if i = 0 then (lo.map fun x => x.ev F).getD .top else (hi.map fun x => x.ev F).getD .top) d ((hi.map fun x => x.ev F).map fun _ => AB.t 1) := by intro d; cases hi <;> rfl
 have h5 : (lo = none) = (((lo.map fun x => x.ev F).map fun _ => AB.t 0) = none) := by cases lo <;> simp
 simp only [h1, h2, h3, h4, h5]
theorem OE (F : Nat → AV) (e : Nat) (x : AB) (lo hi : Option AB) : (IOp.slice e x lo hi).sem P F hp K = Bd (fun k => Ci (x.ev F) e (lo.map fun x => x.ev F) (hi.map fun x => x.ev F) k) (fun v => K v hp) ⟨⟩ := by simp only [IOp.sem]; exact Yy _ _ _ _ _ _
theorem J2 (s : ByteArray) (q r : IntKind) (a b : Int) : Ci (.str s) 0 (some (.int q a)) (some (.int r b)) k = ((0 ≤ a ∧ a ≤ b ∧ b ≤ s.size) ∧ k (.str (s.extract a.toNat b.toNat))) := by simp [Ci, EC, C5, AU, AB.ev, AV.isInt, AV.num]
theorem Lj (s : ByteArray) (q : IntKind) (a : Int) : Ci (.str s) 0 (some (.int q a)) none k = ((0 ≤ a ∧ a ≤ s.size) ∧ k (.str (s.extract a.toNat s.size))) := by simp [Ci, EC, C5, AU, AB.ev, AV.isInt, AV.num, and_assoc]
theorem Lk (s : ByteArray) (r : IntKind) (b : Int) : Ci (.str s) 0 none (some (.int r b)) k = ((0 ≤ b ∧ b ≤ s.size) ∧ k (.str (s.extract 0 b.toNat))) := by simp [Ci, EC, C5, AU, AB.ev, AV.isInt, AV.num]
theorem Ll (es : List AV) (e : Nat) (q r : IntKind) (a b : Int) : Ci (.sl es) e (some (.int q a)) (some (.int r b)) k = ((e ≠ 0 ∧ 0 ≤ a ∧ a ≤ b ∧ b ≤ es.length ∧ ∀ x ∈ es, x.cells.length = e) ∧ k (.sl ((es.drop a.toNat).take (b.toNat - a.toNat)))) := by simp [Ci, EC, C5, AU, AB.ev, AV.isInt, AV.num]
theorem Mj (es : List AV) (e : Nat) (q : IntKind) (a : Int) : Ci (.sl es) e (some (.int q a)) none k = ((e ≠ 0 ∧ 0 ≤ a ∧ a ≤ es.length ∧ ∀ x ∈ es, x.cells.length = e) ∧ k (.sl ((es.drop a.toNat).take (es.length - a.toNat)))) := by simp [Ci, EC, C5, AU, AB.ev, AV.isInt, AV.num]
theorem Mm (es : List AV) (e : Nat) (r : IntKind) (b : Int) : Ci (.sl es) e none (some (.int r b)) k = ((e ≠ 0 ∧ 0 ≤ b ∧ b ≤ es.length) ∧ k (.sl (es.take b.toNat))) := by simp [Ci, EC, C5, AU, AB.ev, AV.isInt, AV.num]
theorem J3 (e : Nat) (r : IntKind) (b : Int) : Ci .Au e none (some (.int r b)) k = ((e ≠ 0 ∧ b = 0) ∧ k .Au) := by simp [Ci, EC, C5, AU, AB.ev, AV.isInt, AV.num]
theorem Lm (j v n e : Nat) (r : IntKind) (b : Int) : Ci (.row j v n) e none (some (.int r b)) k = ((e ≠ 0 ∧ 0 ≤ b ∧ b ≤ n) ∧ k (.row j v b.toNat)) := by simp [Ci, EC, C5, AU, AB.ev, AV.isInt, AV.num]

/-! slices made, appends -/
def EE (F : Nat → AV) (esz : Nat) (es : List AV) (ps : List (Nat × AB)) (k : List AV → Prop) : Prop := De F esz es ps k
theorem Pu (F : Nat → AV) (esz : Nat) (es : List AV) (k : List AV → Prop) : EE F esz es [] k = k es := eqq rfl
def F5 (x : AV) (F : Nat → AV) (esz i : Nat) (es : List AV) (ps : List (Nat × AB)) (k : List AV → Prop) : Prop := (x.ok = true ∧ x.cells.length = esz ∧ i < es.length) ∧ EE F esz (es.set i x) ps k
theorem Nx (F : Nat → AV) (esz i : Nat) (x : AB) (es : List AV) (ps : List (Nat × AB)) (k : List AV → Prop) : EE F esz es ((i, x) :: ps) k = F5 (x.ev F) F esz i es ps k := eqq rfl
theorem Pw (cs : List AV) (F : Nat → AV) (esz i : Nat) (es : List AV) (ps : List (Nat × AB)) (k : List AV → Prop) : F5 (.agg cs) F esz i es ps k = ((cs.length = esz ∧ i < es.length) ∧ EE F esz (es.set i (.agg cs)) ps k) := by simp [F5, AV.ok, AV.one, AV.isAgg, AV.cells]
theorem Pv (x : AV) (h : x.one = true) (F : Nat → AV) (esz i : Nat) (es : List AV) (ps : List (Nat × AB)) (k : List AV → Prop) : F5 x F esz i es ps k = ((1 = esz ∧ i < es.length) ∧ EE F esz (es.set i x) ps k) := by simp [F5, AV.ok, h, FE h]
theorem VH (F : Nat → AV) (m : Nat) (z : AV) (ps : List (Nat × AB)) : (IOp.slP m z ps).sem P F hp K = Bd (fun k => EE F z.cells.length (List.replicate m z) ps fun es => k (.sl (es.map (AV.pur hp)))) (fun v => K v hp) ⟨⟩ := eqq rfl
theorem Rt (F : Nat → AV) (op : BinOp) (x y : AB) : (IOp.Vc op x y).sem P F hp K = Bd (fun k => KJ op (x.ev F) (y.ev F) k) (fun v => K v hp) ⟨⟩ := eqq rfl
theorem VJ (F : Nat → AV) (m : Nat) (z : AV) (ps : List (Nat × AB)) : (IOp.slF m z ps).sem P F hp K = Bd (fun k => EE F z.cells.length (List.replicate m z) ps fun es => es.all AV.plain = true ∧ k (.sl es)) (fun v => K v hp) ⟨⟩ := eqq rfl
theorem OY : List.all [] AV.plain = true := eqq rfl
theorem MC (x : AV) (r : List AV) : List.all (x :: r) AV.plain = (x.plain && r.all AV.plain) := eqq rfl
theorem OZ (q : IntKind) (n : Int) : (AV.int q n).plain = true := eqq rfl
theorem OX (s : ByteArray) : (AV.str s).plain = true := eqq rfl
theorem MD (b : Bool) : (AV.bool b).plain = true := eqq rfl
theorem VI (F : Nat → AV) (j : Nat) (ty : TypeId) (m : Nat) (z : AV) (ps : List (Nat × AB)) : (IOp.slO j ty m z ps).sem P F hp K = Bd2 (fun k => EE F z.cells.length (List.replicate m z) ps fun es => ∀ v, k (.row j v m) ((j, ⟨v, false, ty, z.cells.length, es⟩) :: hp)) K ⟨⟩ := eqq rfl
def IV (hp : Hp) (j : Nat) (ty : TypeId) (esz bytes : Nat) (s x : AV) (K : AV → Hp → Prop) : Prop := L3 hp j ty esz bytes s ((Ej hp x).map (·.map (AV.pur hp))) K
theorem Ms (F : Nat → AV) (j : Nat) (ty : TypeId) (e b : Nat) (s x : AB) : (IOp.append j ty e b s x).sem P F hp K = Bd2 (fun k => IV hp j ty e b (s.ev F) (x.ev F) k) K ⟨⟩ := eqq rfl
theorem Rv (F : Nat → AV) (j : Nat) (ty : TypeId) (e b : Nat) (s x : AB) : (IOp.QS j ty e b s x).sem P F hp K = Bd2 (fun k => IV hp j ty e b (s.ev F) (x.ev F) k) (fun r hp' => K (r.pur (Nh r hp')) (Nh r hp')) ⟨⟩ := eqq rfl
theorem SL (j v n : Nat) : Nh (.row j v n) hp = GY hp j := eqq rfl
def KK (bx : Option Box) (hp : Hp) (j v n : Nat) (ty : TypeId) (esz bytes : Nat) (es : List AV) (K : AV → Hp → Prop) : Prop :=
 match bx with
 | some b => (b.ver = v ∧ b.frz = false ∧ b.ty = ty ∧ b.esz = esz ∧ n ≤ b.es.length ∧ (∀ e ∈ es, e.cells.length = esz) ∧ (n + es.length) * bytes ≤ 140737488355328 ∧ n + es.length ≤ maxLen) ∧
   ∀ v', K (.row j v' (n + es.length)) ((j, ⟨v', false, ty, esz, b.es.take n ++ es⟩) :: hp)
 | none => False
theorem Xo (i j v n : Nat) (ty : TypeId) (e b : Nat) (es : List AV) : IV hp i ty e b (.row j v n) (.sl es) K = KK (Aw hp j) hp j v n ty e b (es.map (AV.pur hp)) K := by
 unfold IV L3 KK Ej; simp only [Option.map_some]; cases Aw hp j <;> rfl
theorem NM (i j v n : Nat) (ty : TypeId) (e b : Nat) : IV hp i ty e b (.row j v n) .Au K = KK (Aw hp j) hp j v n ty e b [] K := by
 unfold IV L3 KK Ej; simp only [Option.map_some, List.map_nil]; cases Aw hp j <;> rfl
theorem TD (j : Nat) (ty : TypeId) (e b : Nat) (es : List AV) : IV hp j ty e b .Au (.sl es) K = ((((∀ x ∈ es.map (AV.pur hp), x.cells.length = e) ∧ (es.map (AV.pur hp)).length * b ≤ 140737488355328 ∧ (es.map (AV.pur hp)).length ≤ maxLen)) ∧
  ∀ v, K (.row j v (es.map (AV.pur hp)).length) ((j, ⟨v, false, ty, e, es.map (AV.pur hp)⟩) :: hp)) := rfl
theorem PU (b : Box) (j v n : Nat) (ty : TypeId) (esz bytes : Nat) (es : List AV) : KK (some b) hp j v n ty esz bytes es K = ((b.ver = v ∧ b.frz = false ∧ b.ty = ty ∧ b.esz = esz ∧ n ≤ b.es.length ∧ (∀ e ∈ es, e.cells.length = esz) ∧ (n + es.length) * bytes ≤ 140737488355328 ∧ n + es.length ≤ maxLen) ∧
   ∀ v', K (.row j v' (n + es.length)) ((j, ⟨v', false, ty, esz, b.es.take n ++ es⟩) :: hp)) := rfl
def AcH (x : AV) (j : Nat) (ty : TypeId) (bytes : Nat) (z : AV) (hp : Hp) (K : AV → Hp → Prop) : Prop :=
 match x with
 | .int _ n => (0 ≤ n ∧ n * bytes ≤ 140737488355328) ∧ ∀ v, K (.row j v n.toNat) ((j, ⟨v, false, ty, z.cells.length, List.replicate n.toNat z⟩) :: hp)
 | _ => False
theorem YZ (F : Nat → AV) (j : Nat) (ty : TypeId) (b : Nat) (z : AV) (x : AB) : (IOp.mkSlice j ty b z x).sem P F hp K = Bd2 (fun k => AcH (x.ev F) j ty b z hp k) K ⟨⟩ := eqq rfl
theorem Zz (q : IntKind) (n : Int) (j : Nat) (ty : TypeId) (b : Nat) (z : AV) : AcH (.int q n) j ty b z hp K = ((0 ≤ n ∧ n * b ≤ 140737488355328) ∧ ∀ v, K (.row j v n.toNat) ((j, ⟨v, false, ty, z.cells.length, List.replicate n.toNat z⟩) :: hp)) := eqq rfl
def Aap (hp : Hp) (x : AV) (k : AV → Prop) : Prop := Aaq (Ej hp x) k
theorem VQ (F : Nat → AV) (x : AB) : (IOp.b2s x).sem P F hp K = Bd (fun k => Aap hp (x.ev F) k) (fun v => K v hp) ⟨⟩ := eqq rfl
def Aar (s n : AV) (j : Nat) (ty : TypeId) (bytes : Nat) (z : AV) (hp : Hp) (K : AV → Hp → Prop) : Prop := Xv s n bytes fun m => ∀ v, K (.row j v m) ((j, ⟨v, false, ty, z.cells.length, List.replicate m z⟩) :: hp)
theorem Ru (F : Nat → AV) (j : Nat) (ty : TypeId) (b : Nat) (z : AV) (s x : AB) : (IOp.TE j ty b z s x).sem P F hp K = Bd2 (fun k => Aar (s.ev F) (x.ev F) j ty b z hp k) K ⟨⟩ := eqq rfl
theorem PT (q : IntKind) (n : Int) (j : Nat) (ty : TypeId) (b : Nat) (z : AV) : Aar .Au (.int q n) j ty b z hp K = ((0 < n ∧ n * b ≤ 140737488355328 ∧ n ≤ 1099511627776) ∧ ∀ v, K (.row j v n.toNat) ((j, ⟨v, false, ty, z.cells.length, List.replicate n.toNat z⟩) :: hp)) := eqq rfl
def AbE (x : AV) (j : Nat) (ty : TypeId) (hp : Hp) (K : AV → Hp → Prop) : Prop := Abm x fun s => ∀ v, K (.row j v s.size) ((j, ⟨v, false, ty, 1, I9 s⟩) :: hp)
theorem VK (F : Nat → AV) (j : Nat) (ty : TypeId) (x : AB) : (IOp.s2b j ty x).sem P F hp K = Bd2 (fun k => AbE (x.ev F) j ty hp k) K ⟨⟩ := eqq rfl
theorem VS (s : ByteArray) (j : Nat) (ty : TypeId) : AbE (.str s) j ty hp K = ∀ v, K (.row j v s.size) ((j, ⟨v, false, ty, 1, I9 s⟩) :: hp) := eqq rfl
theorem VO (F : Nat → AV) (x : AB) : (IOp.cap x).sem P F hp K = Bd (fun k => Aan (x.ev F) k) (fun v => K v hp) ⟨⟩ := eqq rfl
theorem Tg : Aan .Au k = k (.int .i64 0) := eqq rfl
theorem NI {x : AV} {es : List AV} (l : List UInt8) (h : Ej hp x = some es) (he : es = l.map fun b => .int .u8 b.toNat) (hk : k (.str ⟨l.toArray⟩)) : Aap hp x k := by unfold Aap Aaq; rw [h]; exact ⟨l, he, hk⟩

/-! scrutinees decided -/
theorem O0 (t : Bool) (a b : AV) : TI (.bool t) a b k = Pk t a b k := eqq rfl
theorem Tv (op : BinOp) (q : IntKind) (a b : Int) : KJ op (.int q a) (.int q b) k = G7 op q a b k := by simp [KJ]
theorem Xd (op : BinOp) (kd : EqK) (q : IntKind) (a b : Int) : Fv op kd (.int q a) (.int q b) k = G7 op q a b k := by simp [Fv]
theorem W6 (op : BinOp) (kd : EqK) (a b : ByteArray) : Fv op kd (.str a) (.str b) k = TG op a b k := eqq rfl
theorem Tu (op : BinOp) (a b : Bool) : Fv op .bool (.bool a) (.bool b) k = Df op (a == b) k := by simp [Fv]
theorem Xc (op : BinOp) : Fv op .ptr .Dl .Dl k = Df op true k := by simp [Fv]
theorem Xb (op : BinOp) (cs : List AV) : Fv op .ptr (.obj cs) .Dl k = Df op false k := by simp [Fv]
theorem Xa (op : BinOp) (cs : List AV) : Fv op .ptr .Dl (.obj cs) k = Df op false k := by simp [Fv]
theorem W9 (op : BinOp) (j v i o : Nat) : Fv op .ptr (.ptr j v i o) .Dl k = Df op false k := by simp [Fv]
theorem W8 (op : BinOp) : Fv op .slice .Au .Au k = Df op true k := by simp [Fv]
theorem W7 (op : BinOp) (es : List AV) : Fv op .slice (.sl es) .Au k = (es ≠ [] ∧ Df op false k) := by simp [Fv]
theorem Tt (op : BinOp) (ks : List Nat) (xs ys : List AV) : Fv op (.flat ks) (.agg xs) (.agg ys) k = QW op (DG ks xs ys) k := by simp [Fv, Aam]
theorem Nq (op : BinOp) (b : Bool) : QW op (some b) k = Df op b k := eqq rfl
theorem SR : DG [] [] [] = some true := eqq rfl
theorem SS (q : IntKind) (a b : Int) (ks : List Nat) (xs ys : List AV) : DG (1 :: ks) (.int q a :: xs) (.int q b :: ys) = (DG ks xs ys).map (decide (a = b) && ·) := by simp [DG]
theorem Po (a b : Bool) (ks : List Nat) (xs ys : List AV) : DG (0 :: ks) (.bool a :: xs) (.bool b :: ys) = (DG ks xs ys).map (decide (a = b) && ·) := eqq rfl
theorem SQ (a b : ByteArray) (ks : List Nat) (xs ys : List AV) : DG (2 :: ks) (.str a :: xs) (.str b :: ys) = (DG ks xs ys).map (decide (a = b) && ·) := eqq rfl
theorem WL (q : IntKind) (a b : Int) : G7 .add q a b k = (inR q (a + b) ∧ k (.int q (a + b))) := eqq rfl
theorem Wz (q : IntKind) (a b : Int) : G7 .sub q a b k = (inR q (a - b) ∧ k (.int q (a - b))) := eqq rfl
theorem WD (q : IntKind) (a b : Int) : G7 .mul q a b k = (inR q (a * b) ∧ k (.int q (a * b))) := eqq rfl
theorem WB (q : IntKind) (a b : Int) : G7 .quo q a b k = ((b ≠ 0 ∧ inR q (a.tdiv b)) ∧ k (.int q (a.tdiv b))) := eqq rfl
theorem WA (q : IntKind) (a b : Int) : G7 .rem q a b k = ((b ≠ 0 ∧ inR q (a.tmod b)) ∧ k (.int q (a.tmod b))) := eqq rfl
theorem WK (q : IntKind) (a b : Int) : G7 .eql q a b k = k (.bool (decide (a = b))) := eqq rfl
theorem WC (q : IntKind) (a b : Int) : G7 .neq q a b k = k (.bool (!decide (a = b))) := eqq rfl
theorem WE (q : IntKind) (a b : Int) : G7 .lss q a b k = k (.bool (decide (a < b))) := eqq rfl
theorem WG (q : IntKind) (a b : Int) : G7 .leq q a b k = k (.bool (decide (a ≤ b))) := eqq rfl
theorem WH (q : IntKind) (a b : Int) : G7 .gtr q a b k = k (.bool (decide (b < a))) := eqq rfl
theorem WJ (q : IntKind) (a b : Int) : G7 .geq q a b k = k (.bool (decide (b ≤ a))) := eqq rfl
theorem VE (a b : ByteArray) : TG .add a b k = (a.size + b.size ≤ maxLen ∧ k (.str (a ++ b))) := eqq rfl
theorem VD (a b : ByteArray) : TG .eql a b k = k (.bool (decide (a = b))) := eqq rfl
theorem VB (a b : ByteArray) : TG .neq a b k = k (.bool (!decide (a = b))) := eqq rfl
theorem VC (a b : ByteArray) : TG .lss a b k = k (.bool (Op.bytesLess a.toList b.toList)) := eqq rfl
theorem Tm (b : Bool) : Df .eql b k = k (.bool b) := eqq rfl
theorem Tl (b : Bool) : Df .neq b k = k (.bool (!b)) := eqq rfl
theorem YR (b : Bool) : aUn .not (.bool b) k = k (.bool (!b)) := eqq rfl
theorem YS (q : IntKind) (n : Int) : aUn .neg (.int q n) k = (inR q (-n) ∧ k (.int q (-n))) := eqq rfl
theorem Sg (g : Bool) (n : Nat) (cs : List AV) : ED hp g n (.obj cs) k = EJ g cs 0 n k := eqq rfl
def Vj (bx : Option Box) (g : Bool) (n v i off : Nat) (k : AV → Prop) : Prop :=
 match bx with
 | some b => (b.ver = v ∧ i < b.es.length) ∧ EJ g (b.es.getD i .top).cells off n k
 | none => False
theorem Sf (g : Bool) (n j v i off : Nat) : ED hp g n (.ptr j v i off) k = Vj (Aw hp j) g n v i off k := by cases h : Aw hp j <;> simp [ED, Vj, h]
theorem MU (b : Box) (g : Bool) (n v i off : Nat) : Vj (some b) g n v i off k = ((b.ver = v ∧ i < b.es.length) ∧ EJ g (b.es.getD i .top).cells off n k) := eqq rfl
theorem O2 (cs : List AV) (off n : Nat) : EJ true cs off n k = (off + n ≤ cs.length ∧ k (.agg ((cs.drop off).take n))) := eqq rfl
theorem ME (cs : List AV) (off n : Nat) : EJ false cs off n k = (off < cs.length ∧ k (cs.getD off .top)) := eqq rfl
def QT (bx : Option Box) (hp : Hp) (n j v i off : Nat) (x : AV) (K : Hp → Prop) : Prop :=
 match bx with
 | some b => (b.ver = v ∧ b.frz = false ∧ i < b.es.length ∧ x.ok = true ∧ x.cells.length = n ∧ off + n ≤ (b.es.getD i .top).cells.length) ∧
     K ((j, { b with es := b.es.set i ((b.es.getD i .top).EF off x.cells) }) :: hp)
 | none => False
theorem Ov (n j v i off : Nat) (x : AV) (K : Hp → Prop) : JR hp n (.ptr j v i off) x K = QT (Aw hp j) hp n j v i off x K := by cases h : Aw hp j <;> simp [JR, QT, h]
theorem Lh (b : Box) (n j v i off : Nat) (x : AV) (K : Hp → Prop) : QT (some b) hp n j v i off x K = ((b.ver = v ∧ b.frz = false ∧ i < b.es.length ∧ x.ok = true ∧ x.cells.length = n ∧ off + n ≤ (b.es.getD i .top).cells.length) ∧
     K ((j, { b with es := b.es.set i ((b.es.getD i .top).EF off x.cells) }) :: hp)) := rfl
theorem Pr (off : Nat) (cs : List AV) : Hl off (.obj cs) k = k (.obj (cs.drop off)) := eqq rfl
theorem Pq (off j v i o : Nat) : Hl off (.ptr j v i o) k = k (.ptr j v i (o + off)) := eqq rfl
theorem WW (g : Bool) (off n : Nat) (cs : List AV) : Aal g off n (.agg cs) k = EJ g cs off n k := eqq rfl
theorem Sz (e : Nat) (es : List AV) (q : IntKind) (i : Int) : Cj hp e (.sl es) (.int q i) k = ((0 ≤ i ∧ i < es.length ∧ (es.getD i.toNat .top).cells.length = e) ∧ k (.obj (es.getD i.toNat .top).cells)) := eqq rfl
def QU (bx : Option Box) (e j v n : Nat) (i : Int) (k : AV → Prop) : Prop :=
 match bx with
 | some b => (b.ver = v ∧ b.esz = e ∧ 0 ≤ i ∧ i < n) ∧ k (.ptr j v i.toNat 0)
 | none => False
theorem Pb (e j v n : Nat) (q : IntKind) (i : Int) : Cj hp e (.row j v n) (.int q i) k = QU (Aw hp j) e j v n i k := by cases h : Aw hp j <;> simp [Cj, QU, h]
theorem LB (b : Box) (e j v n : Nat) (i : Int) : QU (some b) e j v n i k = ((b.ver = v ∧ b.esz = e ∧ 0 ≤ i ∧ i < n) ∧ k (.ptr j v i.toNat 0)) := eqq rfl
theorem Rc (s : ByteArray) (q : IntKind) (i : Int) : TH (.str s) (.int q i) k = ((0 ≤ i ∧ i < s.size) ∧ k (.int .u8 (AW s i.toNat).toNat)) := eqq rfl
theorem Wu (s : ByteArray) : Fu true (.str s) k = k (.int .i64 s.size) := by simp [Fu]
theorem ZG (es : List AV) : Fu false (.sl es) k = k (.int .i64 es.length) := by simp [Fu]
theorem Wv (j v n : Nat) : Fu false (.row j v n) k = k (.int .i64 n) := by simp [Fu]
theorem Si : Fu false .Au k = k (.int .i64 0) := by simp [Fu]
theorem Tb (d q : IntKind) (n : Int) : TM d (.int q n) k = (inR d n ∧ k (.int d n)) := eqq rfl
theorem LI (i : Nat) (xs : List AV) : F4 i (.tup xs) k = (i < xs.length ∧ k (xs.getD i .top)) := eqq rfl
theorem MO (cs : List AV) : Ft (.obj cs) k = k (.obj cs) := eqq rfl
theorem MN (j v i o : Nat) : Ft (.ptr j v i o) k = k (.ptr j v i o) := eqq rfl
theorem O6 (f : FuncId) (cs : List AV) : Ft (.fn f cs) k = k (.fn f cs) := eqq rfl
theorem VT (F : Nat → AV) (k : List AV → Prop) : BH hp F [] k = k [] := eqq rfl
theorem Abv (F : Nat → AV) (i : Nat) (rs : List E5) (k : List AV → Prop) : BH hp F (.t i :: rs) k = BH hp F rs fun xs => k (F i :: xs) := eqq rfl
theorem Abw (F : Nat → AV) (g : Bool) (n i : Nat) (rs : List E5) (k : List AV → Prop) : BH hp F (.c g n i :: rs) k = ED hp g n (F i) fun x => BH hp F rs fun xs => k (x :: xs) := eqq rfl
theorem Pt (i : Nat) : entry i [] = [] := eqq rfl
theorem Nv (i : Nat) (x : AV) (xs : List AV) : entry i (x :: xs) = (i, x) :: entry (i + 1) xs := eqq rfl

/-! reading own rows for Oc -/
theorem V0 (q : IntKind) (n : Int) : (AV.int q n).pur hp = .int q n := eqq rfl
theorem RG (b : Bool) : (AV.bool b).pur hp = .bool b := eqq rfl
theorem VW (s : ByteArray) : (AV.str s).pur hp = .str s := eqq rfl
theorem Y9 (es : List AV) : (AV.sl es).pur hp = .sl es := eqq rfl
theorem VZ (cs : List AV) : (AV.obj cs).pur hp = .obj cs := eqq rfl
theorem RE : AV.Au.pur hp = .Au := eqq rfl
theorem RF : AV.Dl.pur hp = .Dl := eqq rfl
theorem Zb (f : FuncId) (cs : List AV) : (AV.fn f cs).pur hp = .fn f cs := eqq rfl
theorem V1 (cs : List AV) : (AV.agg cs).pur hp = .agg (cs.map (AV.Bs hp)) := eqq rfl
theorem VV (cs : List AV) : (AV.tup cs).pur hp = .tup (cs.map (AV.Bs hp)) := eqq rfl
theorem VX (j v n : Nat) : (AV.row j v n).pur hp = (AV.row j v n).Bs hp := eqq rfl
theorem VY (j v i o : Nat) : (AV.ptr j v i o).pur hp = (AV.ptr j v i o).Bs hp := eqq rfl
theorem RW (q : IntKind) (n : Int) : (AV.int q n).Bs hp = .int q n := eqq rfl
theorem OW (b : Bool) : (AV.bool b).Bs hp = .bool b := eqq rfl
theorem RR (s : ByteArray) : (AV.str s).Bs hp = .str s := eqq rfl
theorem V4 (es : List AV) : (AV.sl es).Bs hp = .sl es := eqq rfl
theorem RV (cs : List AV) : (AV.obj cs).Bs hp = .obj cs := eqq rfl
theorem OU : AV.Au.Bs hp = .Au := eqq rfl
theorem OV : AV.Dl.Bs hp = .Dl := eqq rfl
theorem V5 (f : FuncId) (cs : List AV) : (AV.fn f cs).Bs hp = .fn f cs := eqq rfl
theorem RX (cs : List AV) : (AV.agg cs).Bs hp = .agg cs := eqq rfl
def RH (bx : Option Box) (j v n : Nat) : AV :=
 match bx with
 | some b => if b.ver = v ∧ b.frz = true ∧ n ≤ b.es.length then .sl (b.es.take n) else .row j v n
 | none => .row j v n
theorem RT (j v n : Nat) : (AV.row j v n).Bs hp = RH (Aw hp j) j v n := eqq rfl
theorem OP (b : Box) (j v n : Nat) : RH (some b) j v n = if b.ver = v ∧ b.frz = true ∧ n ≤ b.es.length then .sl (b.es.take n) else .row j v n := eqq rfl
theorem OQ (j v n : Nat) : RH none j v n = .row j v n := eqq rfl
def Zc (bx : Option Box) (j v i o : Nat) : AV :=
 match bx with
 | some b => if b.ver = v ∧ b.frz = true ∧ i < b.es.length then .obj ((b.es.getD i .top).cells.drop o) else .ptr j v i o
 | none => .ptr j v i o
theorem RU (j v i o : Nat) : (AV.ptr j v i o).Bs hp = Zc (Aw hp j) j v i o := eqq rfl
theorem Mw (b : Box) (j v i o : Nat) : Zc (some b) j v i o = if b.ver = v ∧ b.frz = true ∧ i < b.es.length then .obj ((b.es.getD i .top).cells.drop o) else .ptr j v i o := eqq rfl
theorem Mx (j v i o : Nat) : Zc none j v i o = .ptr j v i o := eqq rfl
theorem My (x : AV) : AV.Bs [] x = x := by cases x <;> rfl
theorem Dj (l : List AV) : l.map (AV.Bs []) = l := by
 have : AV.Bs [] = id := funext My
 rw [this, List.map_id]
theorem L8 (x : AV) : AV.pur [] x = x := by cases x <;> first | rfl | exact congrArg AV.agg (Dj _) | exact congrArg AV.tup (Dj _)
theorem Lu (l : List AV) : l.map (AV.pur []) = l := by
 have : AV.pur [] = id := funext L8
 rw [this, List.map_id]
theorem RN (x : AV) : AV.BN [] x = x := by cases x <;> first | rfl | exact L8 _ | exact congrArg (AV.fn _) (Dj _) | exact congrArg AV.agg (Dj _) | exact congrArg AV.tup (Dj _)
theorem V3 (f : FuncId) (cs : List AV) : (AV.fn f cs).BN hp = .fn f (cs.map (AV.Bs hp)) := eqq rfl
theorem RO (q : IntKind) (n : Int) : (AV.int q n).BN hp = .int q n := eqq rfl
theorem OT (b : Bool) : (AV.bool b).BN hp = .bool b := eqq rfl
theorem RI (s : ByteArray) : (AV.str s).BN hp = .str s := eqq rfl
theorem V2 (es : List AV) : (AV.sl es).BN hp = .sl es := eqq rfl
theorem RM (cs : List AV) : (AV.obj cs).BN hp = .obj cs := eqq rfl
theorem OR : AV.Au.BN hp = .Au := eqq rfl
theorem OS : AV.Dl.BN hp = .Dl := eqq rfl
theorem RQ (cs : List AV) : (AV.agg cs).BN hp = .agg (cs.map (AV.Bs hp)) := eqq rfl
theorem RJ (j v n : Nat) : (AV.row j v n).BN hp = (AV.row j v n).Bs hp := eqq rfl
theorem RL (j v i o : Nat) : (AV.ptr j v i o).BN hp = (AV.ptr j v i o).Bs hp := eqq rfl
theorem PI (cs : List AV) : (AV.agg cs).cells = cs := eqq rfl
theorem Wf (q : IntKind) (n : Int) : AV.one (.int q n) = true := eqq rfl
theorem ok_int (q : IntKind) (n : Int) : AV.ok (.int q n) = true := eqq rfl
theorem PH (q : IntKind) (n : Int) : AV.cells (.int q n) = [.int q n] := eqq rfl
theorem Ri (q : IntKind) (n : Int) (x : AV) : AV.EF (.int q n) 0 [x] = x := eqq rfl
theorem R7 (b : Bool) : AV.one (.bool b) = true := eqq rfl
theorem Wk (b : Bool) : AV.ok (.bool b) = true := eqq rfl
theorem NF (b : Bool) : AV.cells (.bool b) = [.bool b] := eqq rfl
theorem OC (b : Bool) (x : AV) : AV.EF (.bool b) 0 [x] = x := eqq rfl
theorem Wb (s : ByteArray) : AV.one (.str s) = true := eqq rfl
theorem Zp (s : ByteArray) : AV.ok (.str s) = true := eqq rfl
theorem PD (s : ByteArray) : AV.cells (.str s) = [.str s] := eqq rfl
theorem Re (s : ByteArray) (x : AV) : AV.EF (.str s) 0 [x] = x := eqq rfl
theorem Zn (es : List AV) : AV.one (.sl es) = true := eqq rfl
theorem AbA (es : List AV) : AV.ok (.sl es) = true := eqq rfl
theorem Te (es : List AV) : AV.cells (.sl es) = [.sl es] := eqq rfl
theorem VF (es : List AV) (x : AV) : AV.EF (.sl es) 0 [x] = x := eqq rfl
theorem We (cs : List AV) : AV.one (.obj cs) = true := eqq rfl
theorem Zs (cs : List AV) : AV.ok (.obj cs) = true := eqq rfl
theorem PG (cs : List AV) : AV.cells (.obj cs) = [.obj cs] := eqq rfl
theorem Rh (cs : List AV) (x : AV) : AV.EF (.obj cs) 0 [x] = x := eqq rfl
theorem R4  : AV.one (.Au) = true := eqq rfl
theorem Wh  : AV.ok (.Au) = true := eqq rfl
theorem NB  : AV.cells (.Au) = [.Au] := eqq rfl
theorem Oz  (x : AV) : AV.EF (.Au) 0 [x] = x := eqq rfl
theorem R5  : AV.one (.Dl) = true := eqq rfl
theorem Wi  : AV.ok (.Dl) = true := eqq rfl
theorem NC  : AV.cells (.Dl) = [.Dl] := eqq rfl
theorem OA  (x : AV) : AV.EF (.Dl) 0 [x] = x := eqq rfl
theorem R6  : AV.one (.Hb) = true := eqq rfl
theorem Wj  : AV.ok (.Hb) = true := eqq rfl
theorem ND  : AV.cells (.Hb) = [.Hb] := eqq rfl
theorem OB  (x : AV) : AV.EF (.Hb) 0 [x] = x := eqq rfl
theorem Zo (f : FuncId) (cs : List AV) : AV.one (.fn f cs) = true := eqq rfl
theorem AbB (f : FuncId) (cs : List AV) : AV.ok (.fn f cs) = true := eqq rfl
theorem Tf (f : FuncId) (cs : List AV) : AV.cells (.fn f cs) = [.fn f cs] := eqq rfl
theorem VG (f : FuncId) (cs : List AV) (x : AV) : AV.EF (.fn f cs) 0 [x] = x := eqq rfl
theorem Wc (j v n : Nat) : AV.one (.row j v n) = true := eqq rfl
theorem Zq (j v n : Nat) : AV.ok (.row j v n) = true := eqq rfl
theorem PE (j v n : Nat) : AV.cells (.row j v n) = [.row j v n] := eqq rfl
theorem Rf (j v n : Nat) (x : AV) : AV.EF (.row j v n) 0 [x] = x := eqq rfl
theorem Wd (j v i o : Nat) : AV.one (.ptr j v i o) = true := eqq rfl
theorem Zr (j v i o : Nat) : AV.ok (.ptr j v i o) = true := eqq rfl
theorem PF (j v i o : Nat) : AV.cells (.ptr j v i o) = [.ptr j v i o] := eqq rfl
theorem Rg (j v i o : Nat) (x : AV) : AV.EF (.ptr j v i o) 0 [x] = x := eqq rfl
theorem Zt (cs : List AV) : AV.ok (.agg cs) = true := eqq rfl
theorem Rj (cs : List AV) (o : Nat) (xs : List AV) : AV.EF (.agg cs) o xs = .agg (lay cs o xs) := eqq rfl
theorem ZI (cs : List AV) (o : Nat) (xs : List AV) : lay cs o xs = cs.take o ++ xs ++ cs.drop (o + xs.length) := eqq rfl
theorem SW (x : AV) : HT hp [x] = x.pur hp := eqq rfl
theorem SV (x y : AV) : HT hp [x, y] = .tup [x.pur hp, y.pur hp] := eqq rfl
theorem Ns (x y z : AV) : HT hp [x, y, z] = .tup [x.pur hp, y.pur hp, z.pur hp] := eqq rfl
theorem Pp : HT hp [] = .tup [] := eqq rfl
theorem WM (n : Int) : inR .i64 n = (-9223372036854775808 ≤ n ∧ n ≤ 9223372036854775807) := eqq rfl
theorem ZQ (n : Int) : inR .u8 n = (0 ≤ n ∧ n ≤ 255) := eqq rfl
end

theorem zA.{u} {p : Prop} (α : Sort u) [Nonempty α] : (α → p) ↔ p := forall_const α
theorem zI.{u} (α : Sort u) : (α → True) = True := implies_true α
theorem zN.{u} {α : Sort u} (a b : α) : (a ≠ b) = ¬(a = b) := ne_eq a b
theorem zE.{u} {α : Sort u} {p : α → Prop} {a' : α} : (∀ a, a = a' → p a) ↔ p a' := forall_eq
theorem SD : type_of% (And.intro (And.intro (And.intro (And.intro (And.intro (And.intro @Tw @NJ) (And.intro @TA (And.intro @TC @Xe))) (And.intro (And.intro @MI @MJ) (And.intro @MH (And.intro @brt @brf)))) (And.intro (And.intro (And.intro @bnt @bnf) (And.intro @pkt (And.intro @pkf @TB))) (And.intro (And.intro @PN (And.intro @Kg @Ke)) (And.intro @Kh (And.intro @Kf @Tz))))) (And.intro (And.intro (And.intro (And.intro @PM @Kc) (And.intro @Kb (And.intro @Kd @Xf))) (And.intro (And.intro @Lr (And.intro @Ls @Lq)) (And.intro @Hr (And.intro @Ki @Tx)))) (And.intro (And.intro (And.intro @OL @Mr) (And.intro @Ig (And.intro @Lt @Wa))) (And.intro (And.intro @V9 (And.intro @R3 @O3)) (And.intro @MK (And.intro @Acz @AcB)))))) (And.intro (And.intro (And.intro (And.intro (And.intro @AcA @WY) (And.intro @WX (And.intro @WQ @WO))) (And.intro (And.intro @SE (And.intro @VL @Rl)) (And.intro @VP (And.intro @Rs @YX)))) (And.intro (And.intro (And.intro @Rq @Rr) (And.intro @ON (And.intro @OG @Rn))) (And.intro (And.intro @OD (And.intro @OJ @VN)) (And.intro @OI (And.intro @Mq @Rk))))) (And.intro (And.intro (And.intro (And.intro @VM @Ro) (And.intro @Ln (And.intro @Mo @OH))) (And.intro (And.intro @Rm (And.intro @Rp @OM)) (And.intro @OK (And.intro @YY @OE)))) (And.intro (And.intro (And.intro @VH @Rt) (And.intro @VJ (And.intro @VI @Ms))) (And.intro (And.intro @Rv (And.intro @YZ @VQ)) (And.intro @Ru (And.intro @VK @VO))))))) := (And.intro (And.intro (And.intro (And.intro (And.intro (And.intro @Tw @NJ) (And.intro @TA (And.intro @TC @Xe))) (And.intro (And.intro @MI @MJ) (And.intro @MH (And.intro @brt @brf)))) (And.intro (And.intro (And.intro @bnt @bnf) (And.intro @pkt (And.intro @pkf @TB))) (And.intro (And.intro @PN (And.intro @Kg @Ke)) (And.intro @Kh (And.intro @Kf @Tz))))) (And.intro (And.intro (And.intro (And.intro @PM @Kc) (And.intro @Kb (And.intro @Kd @Xf))) (And.intro (And.intro @Lr (And.intro @Ls @Lq)) (And.intro @Hr (And.intro @Ki @Tx)))) (And.intro (And.intro (And.intro @OL @Mr) (And.intro @Ig (And.intro @Lt @Wa))) (And.intro (And.intro @V9 (And.intro @R3 @O3)) (And.intro @MK (And.intro @Acz @AcB)))))) (And.intro (And.intro (And.intro (And.intro (And.intro @AcA @WY) (And.intro @WX (And.intro @WQ @WO))) (And.intro (And.intro @SE (And.intro @VL @Rl)) (And.intro @VP (And.intro @Rs @YX)))) (And.intro (And.intro (And.intro @Rq @Rr) (And.intro @ON (And.intro @OG @Rn))) (And.intro (And.intro @OD (And.intro @OJ @VN)) (And.intro @OI (And.intro @Mq @Rk))))) (And.intro (And.intro (And.intro (And.intro @VM @Ro) (And.intro @Ln (And.intro @Mo @OH))) (And.intro (And.intro @Rm (And.intro @Rp @OM)) (And.intro @OK (And.intro @YY @OE)))) (And.intro (And.intro (And.intro @VH @Rt) (And.intro @VJ (And.intro @VI @Ms))) (And.intro (And.intro @Rv (And.intro @YZ @VQ)) (And.intro @Ru (And.intro @VK @VO)))))))
theorem SU0 : type_of% (And.intro (And.intro (And.intro (And.intro (And.intro (And.intro (And.intro @AcW (And.intro @AaA @Aaz)) (And.intro (And.intro @Uf @AbK) (And.intro @XA @Xz))) (And.intro (And.intro (And.intro @XB @P8) (And.intro @Z8 @Aaa)) (And.intro (And.intro @Zg @NV) (And.intro @Nj @Pm)))) (And.intro (And.intro (And.intro (And.intro @Na @LD) (And.intro @Ni @FB)) (And.intro (And.intro @WR @Nc) (And.intro @Nd @SN))) (And.intro (And.intro (And.intro @Pn @SC) (And.intro @KZ @SA)) (And.intro (And.intro @Pc @M7) (And.intro @M8 @Pf))))) (And.intro (And.intro (And.intro (And.intro @JJ (And.intro @LQ @LO)) (And.intro (And.intro @KG @NS) (And.intro @VA @Ts))) (And.intro (And.intro (And.intro @To @Tr) (And.intro @Tq @Tp)) (And.intro (And.intro @TV @TU) (And.intro @P0 @TP)))) (And.intro (And.intro (And.intro (And.intro @Xt @TR) (And.intro @PY @PZ)) (And.intro (And.intro @Xu @P4) (And.intro @P3 @N0))) (And.intro (And.intro (And.intro @LS @LV) (And.intro @LU @Xr)) (And.intro (And.intro @PV @NW) (And.intro @TK @TJ)))))) (And.intro (And.intro (And.intro (And.intro (And.intro @J2 (And.intro @Lj @Lk)) (And.intro (And.intro @Ll @Mj) (And.intro @Mm @J3))) (And.intro (And.intro (And.intro @Lm @Pu) (And.intro @Nx @Pw)) (And.intro (And.intro @Pv @OY) (And.intro @MC @OZ)))) (And.intro (And.intro (And.intro (And.intro @OX @MD) (And.intro @SL @Xo)) (And.intro (And.intro @NM @TD) (And.intro @PU @Zz))) (And.intro (And.intro (And.intro @PT @VS) (And.intro @Tg @O0)) (And.intro (And.intro @Tv @Xd) (And.intro @W6 @Tu))))) (And.intro (And.intro (And.intro (And.intro @Xc (And.intro @Xb @Xa)) (And.intro (And.intro @W9 @W8) (And.intro @W7 @Tt))) (And.intro (And.intro (And.intro @Nq @SR) (And.intro @SS @Po)) (And.intro (And.intro @SQ @WL) (And.intro @Wz @WD)))) (And.intro (And.intro (And.intro (And.intro @WB @WA) (And.intro @WK @WC)) (And.intro (And.intro @WE @WG) (And.intro @WH @WJ))) (And.intro (And.intro (And.intro @VE @VD) (And.intro @VB @VC)) (And.intro (And.intro @Tm @Tl) (And.intro @YR @YS))))))) (And.intro (And.intro (And.intro (And.intro (And.intro (And.intro @Sg (And.intro @Sf @MU)) (And.intro (And.intro @O2 @ME) (And.intro @Ov @Lh))) (And.intro (And.intro (And.intro @Pr @Pq) (And.intro @WW @Sz)) (And.intro (And.intro @Pb @LB) (And.intro @Rc @Wu)))) (And.intro (And.intro (And.intro (And.intro @ZG @Wv) (And.intro @Si @Tb)) (And.intro (And.intro @LI @MO) (And.intro @MN @O6))) (And.intro (And.intro (And.intro @VT @Abv) (And.intro @Abw @Pt)) (And.intro (And.intro @Nv @V0) (And.intro @RG @VW))))) (And.intro (And.intro (And.intro (And.intro @Y9 (And.intro @VZ @RE)) (And.intro (And.intro @RF @Zb) (And.intro @V1 @VV))) (And.intro (And.intro (And.intro @VX @VY) (And.intro @RW @OW)) (And.intro (And.intro @RR @V4) (And.intro @RV @OU)))) (And.intro (And.intro (And.intro (And.intro @OV @V5) (And.intro @RX @RT)) (And.intro (And.intro @OP @OQ) (And.intro @RU @Mw))) (And.intro (And.intro (And.intro @Mx @My) (And.intro @Dj @L8)) (And.intro (And.intro @Lu @RN) (And.intro @V3 @RO)))))) (And.intro (And.intro (And.intro (And.intro (And.intro @OT (And.intro @RI @V2)) (And.intro (And.intro @RM @OR) (And.intro @OS @RQ))) (And.intro (And.intro (And.intro @RJ @RL) (And.intro @PI @Wf)) (And.intro (And.intro @ok_int @PH) (And.intro @Ri @R7)))) (And.intro (And.intro (And.intro (And.intro @Wk @NF) (And.intro @OC @Wb)) (And.intro (And.intro @Zp @PD) (And.intro @Re @Zn))) (And.intro (And.intro (And.intro @AbA @Te) (And.intro @VF @We)) (And.intro (And.intro @Zs @PG) (And.intro @Rh @R4))))) (And.intro (And.intro (And.intro (And.intro (And.intro @Wh @NB) (And.intro @Oz @R5)) (And.intro (And.intro @Wi @NC) (And.intro @OA @R6))) (And.intro (And.intro (And.intro @Wj @ND) (And.intro @OB @Zo)) (And.intro (And.intro @AbB @Tf) (And.intro @VG @Wc)))) (And.intro (And.intro (And.intro (And.intro @Zq @PE) (And.intro @Rf @Wd)) (And.intro (And.intro @Zr @PF) (And.intro @Rg @Zt))) (And.intro (And.intro (And.intro @Rj @ZI) (And.intro @SW @SV)) (And.intro (And.intro @Ns @Pp) (And.intro @WM @ZQ)))))))) := (And.intro (And.intro (And.intro (And.intro (And.intro (And.intro (And.intro @AcW (And.intro @AaA @Aaz)) (And.intro (And.intro @Uf @AbK) (And.intro @XA @Xz))) (And.intro (And.intro (And.intro @XB @P8) (And.intro @Z8 @Aaa)) (And.intro (And.intro @Zg @NV) (And.intro @Nj @Pm)))) (And.intro (And.intro (And.intro (And.intro @Na @LD) (And.intro @Ni @FB)) (And.intro (And.intro @WR @Nc) (And.intro @Nd @SN))) (And.intro (And.intro (And.intro @Pn @SC) (And.intro @KZ @SA)) (And.intro (And.intro @Pc @M7) (And.intro @M8 @Pf))))) (And.intro (And.intro (And.intro (And.intro @JJ (And.intro @LQ @LO)) (And.intro (And.intro @KG @NS) (And.intro @VA @Ts))) (And.intro (And.intro (And.intro @To @Tr) (And.intro @Tq @Tp)) (And.intro (And.intro @TV @TU) (And.intro @P0 @TP)))) (And.intro (And.intro (And.intro (And.intro @Xt @TR) (And.intro @PY @PZ)) (And.intro (And.intro @Xu @P4) (And.intro @P3 @N0))) (And.intro (And.intro (And.intro @LS @LV) (And.intro @LU @Xr)) (And.intro (And.intro @PV @NW) (And.intro @TK @TJ)))))) (And.intro (And.intro (And.intro (And.intro (And.intro @J2 (And.intro @Lj @Lk)) (And.intro (And.intro @Ll @Mj) (And.intro @Mm @J3))) (And.intro (And.intro (And.intro @Lm @Pu) (And.intro @Nx @Pw)) (And.intro (And.intro @Pv @OY) (And.intro @MC @OZ)))) (And.intro (And.intro (And.intro (And.intro @OX @MD) (And.intro @SL @Xo)) (And.intro (And.intro @NM @TD) (And.intro @PU @Zz))) (And.intro (And.intro (And.intro @PT @VS) (And.intro @Tg @O0)) (And.intro (And.intro @Tv @Xd) (And.intro @W6 @Tu))))) (And.intro (And.intro (And.intro (And.intro @Xc (And.intro @Xb @Xa)) (And.intro (And.intro @W9 @W8) (And.intro @W7 @Tt))) (And.intro (And.intro (And.intro @Nq @SR) (And.intro @SS @Po)) (And.intro (And.intro @SQ @WL) (And.intro @Wz @WD)))) (And.intro (And.intro (And.intro (And.intro @WB @WA) (And.intro @WK @WC)) (And.intro (And.intro @WE @WG) (And.intro @WH @WJ))) (And.intro (And.intro (And.intro @VE @VD) (And.intro @VB @VC)) (And.intro (And.intro @Tm @Tl) (And.intro @YR @YS))))))) (And.intro (And.intro (And.intro (And.intro (And.intro (And.intro @Sg (And.intro @Sf @MU)) (And.intro (And.intro @O2 @ME) (And.intro @Ov @Lh))) (And.intro (And.intro (And.intro @Pr @Pq) (And.intro @WW @Sz)) (And.intro (And.intro @Pb @LB) (And.intro @Rc @Wu)))) (And.intro (And.intro (And.intro (And.intro @ZG @Wv) (And.intro @Si @Tb)) (And.intro (And.intro @LI @MO) (And.intro @MN @O6))) (And.intro (And.intro (And.intro @VT @Abv) (And.intro @Abw @Pt)) (And.intro (And.intro @Nv @V0) (And.intro @RG @VW))))) (And.intro (And.intro (And.intro (And.intro @Y9 (And.intro @VZ @RE)) (And.intro (And.intro @RF @Zb) (And.intro @V1 @VV))) (And.intro (And.intro (And.intro @VX @VY) (And.intro @RW @OW)) (And.intro (And.intro @RR @V4) (And.intro @RV @OU)))) (And.intro (And.intro (And.intro (And.intro @OV @V5) (And.intro @RX @RT)) (And.intro (And.intro @OP @OQ) (And.intro @RU @Mw))) (And.intro (And.intro (And.intro @Mx @My) (And.intro @Dj @L8)) (And.intro (And.intro @Lu @RN) (And.intro @V3 @RO)))))) (And.intro (And.intro (And.intro (And.intro (And.intro @OT (And.intro @RI @V2)) (And.intro (And.intro @RM @OR) (And.intro @OS @RQ))) (And.intro (And.intro (And.intro @RJ @RL) (And.intro @PI @Wf)) (And.intro (And.intro @ok_int @PH) (And.intro @Ri @R7)))) (And.intro (And.intro (And.intro (And.intro @Wk @NF) (And.intro @OC @Wb)) (And.intro (And.intro @Zp @PD) (And.intro @Re @Zn))) (And.intro (And.intro (And.intro @AbA @Te) (And.intro @VF @We)) (And.intro (And.intro @Zs @PG) (And.intro @Rh @R4))))) (And.intro (And.intro (And.intro (And.intro (And.intro @Wh @NB) (And.intro @Oz @R5)) (And.intro (And.intro @Wi @NC) (And.intro @OA @R6))) (And.intro (And.intro (And.intro @Wj @ND) (And.intro @OB @Zo)) (And.intro (And.intro @AbB @Tf) (And.intro @VG @Wc)))) (And.intro (And.intro (And.intro (And.intro @Zq @PE) (And.intro @Rf @Wd)) (And.intro (And.intro @Zr @PF) (And.intro @Rg @Zt))) (And.intro (And.intro (And.intro @Rj @ZI) (And.intro @SW @SV)) (And.intro (And.intro @Ns @Pp) (And.intro @WM @ZQ))))))))
theorem SB : type_of% (And.intro (And.intro (And.intro (And.intro (And.intro (And.intro @List.map_cons.{0,0} @List.map_nil.{0,0}) (And.intro @List.drop_succ_cons.{0} @List.drop_zero.{0})) (And.intro (And.intro @List.take_succ_cons.{0} @List.take_zero.{0}) (And.intro @List.take_nil.{0} @List.drop_nil.{0}))) (And.intro (And.intro (And.intro @List.getD_cons_zero.{0} @List.getD_cons_succ.{0}) (And.intro @List.length_cons.{0} @List.length_nil.{0})) (And.intro (And.intro @List.cons_append.{0} @List.nil_append.{0}) (And.intro @List.append_nil.{0} (And.intro @List.replicate_succ.{0} @List.replicate_zero.{0}))))) (And.intro (And.intro (And.intro (And.intro @List.set_cons_zero.{0} @List.set_cons_succ.{0}) (And.intro @Option.map_some.{0,0} @Option.map_none.{0,0})) (And.intro (And.intro @Nat.add_zero @Nat.zero_add) (And.intro @decide_eq_true_eq (And.intro @decide_eq_false_iff_not @Bool.not_eq_true')))) (And.intro (And.intro (And.intro @Bool.not_eq_false' @Bool.not_true) (And.intro @Bool.not_false @true_and)) (And.intro (And.intro @and_true @not_false_eq_true) (And.intro @not_true_eq_false (And.intro @Int.toNat_natCast @Nat.lt_add_one)))))) (And.intro (And.intro (And.intro (And.intro (And.intro @Bool.decide_eq_true @Bool.true_eq_false) (And.intro @Bool.false_eq_true @false_implies)) (And.intro (And.intro @true_implies @List.mem_cons.{0}) (And.intro @List.not_mem_nil.{0} @or_false))) (And.intro (And.intro (And.intro @Int.ofNat_lt @Int.ofNat_le) (And.intro @Int.natCast_inj @Int.natCast_zero)) (And.intro (And.intro @Int.natCast_one @Int.cast_ofNat_Int) (And.intro @Int.natCast_nonneg (And.intro @Nat.zero_le @Nat.le_refl))))) (And.intro (And.intro (And.intro (And.intro @List.contains_nil.{0} @List.contains_cons.{0}) (And.intro @Bool.or_false @Bool.or_true)) (And.intro (And.intro @Bool.false_or @Bool.true_or) (And.intro @decide_true (And.intro @decide_false @Bool.false_and)))) (And.intro (And.intro (And.intro @Bool.true_and @Bool.and_true) (And.intro @Bool.and_false @zA.{0})) (And.intro (And.intro @zA.{1} @zI.{0}) (And.intro @zI.{1} (And.intro @zN.{1} @zE.{1}))))))) := (And.intro (And.intro (And.intro (And.intro (And.intro (And.intro @List.map_cons.{0,0} @List.map_nil.{0,0}) (And.intro @List.drop_succ_cons.{0} @List.drop_zero.{0})) (And.intro (And.intro @List.take_succ_cons.{0} @List.take_zero.{0}) (And.intro @List.take_nil.{0} @List.drop_nil.{0}))) (And.intro (And.intro (And.intro @List.getD_cons_zero.{0} @List.getD_cons_succ.{0}) (And.intro @List.length_cons.{0} @List.length_nil.{0})) (And.intro (And.intro @List.cons_append.{0} @List.nil_append.{0}) (And.intro @List.append_nil.{0} (And.intro @List.replicate_succ.{0} @List.replicate_zero.{0}))))) (And.intro (And.intro (And.intro (And.intro @List.set_cons_zero.{0} @List.set_cons_succ.{0}) (And.intro @Option.map_some.{0,0} @Option.map_none.{0,0})) (And.intro (And.intro @Nat.add_zero @Nat.zero_add) (And.intro @decide_eq_true_eq (And.intro @decide_eq_false_iff_not @Bool.not_eq_true')))) (And.intro (And.intro (And.intro @Bool.not_eq_false' @Bool.not_true) (And.intro @Bool.not_false @true_and)) (And.intro (And.intro @and_true @not_false_eq_true) (And.intro @not_true_eq_false (And.intro @Int.toNat_natCast @Nat.lt_add_one)))))) (And.intro (And.intro (And.intro (And.intro (And.intro @Bool.decide_eq_true @Bool.true_eq_false) (And.intro @Bool.false_eq_true @false_implies)) (And.intro (And.intro @true_implies @List.mem_cons.{0}) (And.intro @List.not_mem_nil.{0} @or_false))) (And.intro (And.intro (And.intro @Int.ofNat_lt @Int.ofNat_le) (And.intro @Int.natCast_inj @Int.natCast_zero)) (And.intro (And.intro @Int.natCast_one @Int.cast_ofNat_Int) (And.intro @Int.natCast_nonneg (And.intro @Nat.zero_le @Nat.le_refl))))) (And.intro (And.intro (And.intro (And.intro @List.contains_nil.{0} @List.contains_cons.{0}) (And.intro @Bool.or_false @Bool.or_true)) (And.intro (And.intro @Bool.false_or @Bool.true_or) (And.intro @decide_true (And.intro @decide_false @Bool.false_and)))) (And.intro (And.intro (And.intro @Bool.true_and @Bool.and_true) (And.intro @Bool.and_false @zA.{0})) (And.intro (And.intro @zA.{1} @zI.{0}) (And.intro @zI.{1} (And.intro @zN.{1} @zE.{1})))))))

theorem SU : type_of% (And.intro SU0 SB) := And.intro SU0 SB
end Go.Proofs.YteeiaaogmjbcjaaGreat.Av
