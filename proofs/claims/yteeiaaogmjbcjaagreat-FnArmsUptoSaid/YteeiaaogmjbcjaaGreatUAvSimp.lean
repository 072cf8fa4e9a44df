/-
 THE RULES BY WHICH AN ABSTRACT TEXT IS CARRIED OUT: for simp. Conditions: none.
-/
import Derived.Test.YteeiaaogmjbcjaaGreatUAvDraw
set_option linter.unusedVariables false
namespace Go.Proofs.YteeiaaogmjbcjaaGreat.Av
open Go.RowKit

theorem eqq {α : Sort _} {a b : α} (h : a = b) : a = b := h
structure CU {α : Type} (a : α) : Type where
 mk ::
def Bd {α : Type} (m : (α → Prop) → Prop) (k : α → Prop) (h : CU k) : Prop := m k
def Bd2 (m : (AV → Hp → Prop) → Prop) (k : AV → Hp → Prop) (h : CU k) : Prop := m k
theorem Ac1 {α : Type} (v : α) (K : α → Prop) (h : CU K) : Bd (fun k => k v) K h = K v := eqq rfl
theorem AaD {α : Type} (A B : (α → Prop) → Prop) (K : α → Prop) (h : CU K) : Bd (fun k => A k ∧ B k) K h = (Bd A K h ∧ Bd B K h) := eqq rfl
theorem AaC {α : Type} (c : Prop) (B : (α → Prop) → Prop) (K : α → Prop) (h : CU K) : Bd (fun k => c → B k) K h = (c → Bd B K h) := eqq rfl
theorem Uh {α : Type} (c : Prop) (K : α → Prop) (h : CU K) : Bd (fun _ => c) K h = c := eqq rfl
theorem AbO (v : AV) (hp : Hp) (K : AV → Hp → Prop) (h : CU K) : Bd2 (fun k => k v hp) K h = K v hp := eqq rfl
theorem XC (A B : (AV → Hp → Prop) → Prop) (K : AV → Hp → Prop) (h : CU K) : Bd2 (fun k => A k ∧ B k) K h = (Bd2 A K h ∧ Bd2 B K h) := eqq rfl
theorem XB (c : Prop) (B : (AV → Hp → Prop) → Prop) (K : AV → Hp → Prop) (h : CU K) : Bd2 (fun k => c → B k) K h = (c → Bd2 B K h) := eqq rfl
theorem XD {β : Type} (B : β → (AV → Hp → Prop) → Prop) (K : AV → Hp → Prop) (h : CU K) : Bd2 (fun k => ∀ v, B v k) K h = ∀ v, Bd2 (B v) K h := eqq rfl
theorem Qa (c : Prop) (K : AV → Hp → Prop) (h : CU K) : Bd2 (fun _ => c) K h = c := eqq rfl

section
variable (P : Program) (Q : Exit → St → Prop) (fr : List (Nat × AV)) (hp : Hp) (K : AV → Hp → Prop) (k : AV → Prop)

theorem Tz (s : St) : awp P .skip Q s = Q .normal s := eqq rfl
theorem NM (l : List BC) (s : St) : awp P (.region l) Q s = Bh P (Q .normal) l s := eqq rfl
theorem TC (l : List BC) (s : St) : awp P (.draw l) Q s = Bh P (Q .normal) l s := eqq rfl
theorem TE (a b : Bt) (s : St) : awp P (.both a b) Q s = (awp P a Q s ∧ awp P b Q s) := eqq rfl
def Abu (P : Program) (b : Bt) (Q : Exit → St → Prop) : Exit → St → Prop := fun e s' => match e with | .normal => awp P b Q s' | e => Q e s'
theorem Xg (a b : Bt) (s : St) : awp P (.seq a b) Q s = awp P a (Abu P b Q) s := eqq rfl
theorem MM (b : Bt) (s : St) : Abu P b Q .normal s = awp P b Q s := eqq rfl
theorem MN (b : Bt) (i : Nat) (s : St) : Abu P b Q (.exit i) s = Q (.exit i) s := eqq rfl
theorem ML (b : Bt) (s : St) : Abu P b Q .ret s = Q .ret s := eqq rfl
def Br (b : Bool) (A B : Prop) (h : CU A) (h' : CU B) : Prop := (b = true → A) ∧ (b = false → B)
theorem brt (A B : Prop) (h : CU A) (h' : CU B) : Br true A B h h' = A := propext ⟨fun x => x.1 (eqq rfl), fun x => ⟨fun _ => x, fun e => by cases e⟩⟩
theorem brf (A B : Prop) (h : CU A) (h' : CU B) : Br false A B h h' = B := propext ⟨fun x => x.2 (eqq rfl), fun x => ⟨fun e => (by cases e), fun _ => x⟩⟩
theorem Aab (b : Bool) (A B : Prop) (h : CU A) (h' : CU B) : Br b A B h h' = ((b = true → A) ∧ (b = false → B)) := eqq rfl
def Bn (b : Bool) (A B : Prop) (h : CU A) (h' : CU B) : Prop := (b = false → A) ∧ (b = true → B)
theorem bnt (A B : Prop) (h : CU A) (h' : CU B) : Bn true A B h h' = B := propext ⟨fun x => x.2 (eqq rfl), fun x => ⟨fun e => (by cases e), fun _ => x⟩⟩
theorem bnf (A B : Prop) (h : CU A) (h' : CU B) : Bn false A B h h' = A := propext ⟨fun x => x.1 (eqq rfl), fun x => ⟨fun _ => x, fun e => by cases e⟩⟩
theorem Aad (b : Bool) (A B : Prop) (h : CU A) (h' : CU B) : Bn b A B h h' = ((b = false → A) ∧ (b = true → B)) := eqq rfl
def Pk (t : Bool) (a b : AV) (k : AV → Prop) : Prop := (t = true → k a) ∧ (t = false → k b)
theorem pkt (a b : AV) (k : AV → Prop) : Pk true a b k = k a := propext ⟨fun x => x.1 (eqq rfl), fun x => ⟨fun _ => x, fun e => by cases e⟩⟩
theorem pkf (a b : AV) (k : AV → Prop) : Pk false a b k = k b := propext ⟨fun x => x.2 (eqq rfl), fun x => ⟨fun e => (by cases e), fun _ => x⟩⟩
theorem Zj (t : Bool) (a b : AV) (k : AV → Prop) : Pk t a b k = ((t = true → k a) ∧ (t = false → k b)) := eqq rfl
def AbJ (x : AV) (A B : Prop) (h : CU A) (h' : CU B) : Prop :=
 match x with
 | .bool t => (t = true → A) ∧ (t = false → B)
 | _ => False
theorem TD (c : AB) (a b : Bt) (s : St) : awp P (.cond c a b) Q s = AbJ (c.ev (Ba s.fr)) (awp P a Q s) (awp P b Q s) ⟨⟩ ⟨⟩ := eqq rfl
theorem NY (t : Bool) (A B : Prop) (h : CU A) (h' : CU B) : AbJ (.bool t) A B h h' = Br t A B h h' := eqq rfl
def JY (id : Nat) (Q : Exit → St → Prop) : Exit → St → Prop := fun e s' => match e with | .exit id' => if id' = id then Q .normal s' else Q (.exit id') s' | e => Q e s'
theorem PQ (id : Nat) (a : Bt) (s : St) : awp P (.block id a) Q s = awp P a (JY id Q) s := eqq rfl
theorem Kk (id : Nat) (s : St) : JY id Q .normal s = Q .normal s := eqq rfl
theorem Ki (id : Nat) (s : St) : JY id Q .ret s = Q .ret s := eqq rfl
theorem Kl (id : Nat) (s : St) : JY id Q (.exit id) s = Q .normal s := by simp [JY]
theorem Kj {i id : Nat} (h : (i == id) = false) (s : St) : JY id Q (.exit i) s = Q (.exit i) s := by simp [JY, beq_eq_false_iff_ne.1 h]
theorem TB (id : Nat) (s : St) : awp P (.exit id) Q s = Q (.exit id) s := eqq rfl
def Q1 (Q : Exit → St → Prop) : Exit → St → Prop := fun e s' => match e with | .goto _ => False | e => Q e s'
theorem PO (a : Bt) (s : St) : awp P (.scope a) Q s = awp P a (Q1 Q) s := eqq rfl
theorem Kg (s : St) : Q1 Q .normal s = Q .normal s := eqq rfl
theorem Kf (s : St) : Q1 Q .ret s = Q .ret s := eqq rfl
theorem Kh (i : Nat) (s : St) : Q1 Q (.exit i) s = Q (.exit i) s := eqq rfl
theorem Xh : awp P .ret Q ⟨fr, hp⟩ = Bd (fun k => k (JO hp)) (fun hp => Q .ret ⟨fr, hp⟩) ⟨⟩ := eqq rfl
theorem Nn : JO [] = [] := eqq rfl
theorem Po (hp : Hp) : JO hp = B9 (Ew hp) (B9 (Ew hp) hp) := eqq rfl
theorem Nf : Ew [] = [] := eqq rfl
theorem LI (j : Nat) (b : Box) (r : Hp) : Ew ((j, b) :: r) = if (Ew r).contains j then Ew r else j :: Ew r := eqq rfl
theorem Nm (hp : Hp) : B9 [] hp = hp := eqq rfl
theorem FD (j : Nat) (r : List Nat) (hp : Hp) : B9 (j :: r) hp = B9 r (G3 hp j) := eqq rfl
def ZX (bx : Option Box) (hp : Hp) (j : Nat) : Hp :=
 match bx with
 | some b => (j, { b with frz := true, es := b.es.map (AV.pur hp) }) :: hp
 | none => hp
theorem WT (hp : Hp) (j : Nat) : G3 hp j = ZX (Aw hp j) hp j := eqq rfl
theorem Nh (ver : Nat) (z : Bool) (ty : TypeId) (esz : Nat) (es : List AV) (hp : Hp) (j : Nat) : ZX (some ⟨ver, z, ty, esz, es⟩) hp j = (j, ⟨ver, true, ty, esz, es.map (AV.pur hp)⟩) :: hp := eqq rfl
theorem Ni (hp : Hp) (j : Nat) : ZX none hp j = hp := eqq rfl
/-! loops -/
def Ua {X : Type} (I : X → St) (pre : X → Prop) (m : X → Nat) (x : X) (Q : Exit → St → Prop) : Exit → St → Prop := fun e s' => match e with | .normal => Ai s' (fun t => ∃ x', (pre x' ∧ m x' < m x) ∧ t = I x') | e => Q e s'
theorem Lv {X : Type} (I : X → St) (pre : X → Prop) (m : X → Nat) (x : X) (s : St) : Ua I pre m x Q .normal s = Ai s (fun t => ∃ x', (pre x' ∧ m x' < m x) ∧ t = I x') := eqq rfl
theorem Lw {X : Type} (I : X → St) (pre : X → Prop) (m : X → Nat) (x : X) (i : Nat) (s : St) : Ua I pre m x Q (.exit i) s = Q (.exit i) s := eqq rfl
theorem Lu {X : Type} (I : X → St) (pre : X → Prop) (m : X → Nat) (x : X) (s : St) : Ua I pre m x Q .ret s = Q .ret s := eqq rfl
theorem AG {P : Program} {Q : Exit → St → Prop} {a : Bt} {s : St} {X : Type} (I : X → St) (pre : X → Prop) (m : X → Nat) (x0 : X) (h0 : pre x0) (h1 : QH s.fr (I x0).fr) (h2 : Bf s.hp (I x0).hp) (hr : ∀ x, pre x → awp P a (Ua I pre m x Q) (I x)) : awp P (.loop a) Q s :=
 ⟨X, I, pre, m, Ai.le ⟨x0, h0, rfl⟩ h1 h2, hr⟩
theorem Cu {P : Program} {Q : Exit → St → Prop} {a : Bt} {s : St} {X : Type} (I : X → St) (pre : X → Prop) (m : X → Nat) (h0 : Ai s (fun t => ∃ x, pre x ∧ t = I x)) (hr : ∀ x, pre x → awp P a (Ua I pre m x Q) (I x)) : awp P (.loop a) Q s :=
 ⟨X, I, pre, m, h0, hr⟩
theorem Aam {X : Type} {I : X → St} {pre : X → Prop} {m : X → Nat} {x : X} {s : St} (x' : X) (h0 : pre x') (hm : m x' < m x) (h1 : QH s.fr (I x').fr) (h2 : Bf s.hp (I x').hp) : Ai s (fun t => ∃ x', (pre x' ∧ m x' < m x) ∧ t = I x') :=
 Ai.le ⟨x', ⟨h0, hm⟩, rfl⟩ h1 h2
theorem BM {P : Program} {Q : Exit → St → Prop} {a : Bt} {s : St} (h : Ai s (fun t => awp P a Q t)) : awp P (.ghost a) Q s := h
theorem Ai.here {s : St} {T : St → Prop} (h : T s) : Ai s T := ⟨fun _ _ a w hr => ⟨s, h, hr⟩⟩
theorem SP (s : List (Nat × AV)) : QH s [] = True := eqq rfl
theorem Pp (s : List (Nat × AV)) (i : Nat) (x : AV) (r : List (Nat × AV)) : QH s ((i, x) :: r) = (Ba s i = x ∧ QH s r) := eqq rfl
theorem SF (s : Hp) : Bf s [] = True := eqq rfl
theorem K3 (s : Hp) (i : Nat) (x : Box) (r : Hp) : Bf s ((i, x) :: r) = (Aw s i = some x ∧ Bf s r) := eqq rfl
/-! a function that is handed own rows -/
def N5 (rs : List E8) (Post : AV → Hp → Prop) (t : St) : Prop := BH t.hp (Ba t.fr) rs fun xs => ∃ hp', Bf t.hp hp' ∧ Post (HX t.hp xs) hp'
theorem Hv (rs : List E8) (Post : AV → Hp → Prop) (s : St) : AaA rs Post .normal s = Ai s (N5 rs Post) := eqq rfl
theorem Km (rs : List E8) (Post : AV → Hp → Prop) (s : St) : AaA rs Post .ret s = Ai s (N5 rs Post) := eqq rfl
theorem Ai.post {rs : List E8} {Post : AV → Hp → Prop} {s : St} (hp' : Hp) (h : BH s.hp (Ba s.fr) rs fun xs => Bf s.hp hp' ∧ Post (HX s.hp xs) hp') : Ai s (N5 rs Post) := by
 refine Ai.here ?_
 have : ∀ {l : List E8} {K K' : List AV → Prop}, (∀ ys, K ys → K' ys) → BH s.hp (Ba s.fr) l K → BH s.hp (Ba s.fr) l K' := by
  intro l
  induction l with
  | nil => intro K K' hk h; exact hk _ h
  | cons r l ih =>
   intro K K' hk h
   unfold BH at h ⊢
   cases r with
   | t i => exact ih (fun ys hy => hk _ hy) h
   | c g n i =>
    simp only [AcL, EE] at h ⊢
    split at h
    ·unfold EK at h ⊢; cases g <;> exact ⟨h.1, ih (fun ys hy => hk _ hy) h.2⟩
    ·split at h
     ·refine ⟨h.1, ?_⟩; have h := h.2; unfold EK at h ⊢; cases g <;> exact ⟨h.1, ih (fun ys hy => hk _ hy) h.2⟩
     ·exact h
    ·exact h
 exact this (fun ys hy => ⟨hp', hy⟩) h
theorem TA (s : St) : awp P .HW Q s = Q .ret s := eqq rfl
theorem SE (hp : Hp) : IP [] hp = [] := eqq rfl
def WQ (bx : Option Box) (j : Nat) (r : Hp) : Hp :=
 match bx with
 | some b => (j, b) :: r
 | none => r
theorem Pg (j : Nat) (r : List Nat) (hp : Hp) : IP (j :: r) hp = WQ (Aw hp j) j (IP r hp) := by
 unfold IP WQ; rw [List.filterMap_cons]; cases Aw hp j <;> rfl
theorem Nb (b : Box) (j : Nat) (r : Hp) : WQ (some b) j r = (j, b) :: r := eqq rfl
theorem Nc (j : Nat) (r : Hp) : WQ none j r = r := eqq rfl
theorem Ph (hs : List Nat) : BS hs [] = [] := eqq rfl
theorem JN (hs : List Nat) (j : Nat) (b : Box) (r : Hp) : BS hs ((j, b) :: r) = if hs.contains j then BS hs r else (j, b) :: BS hs r := by
 unfold BS; rw [List.filter_cons]; cases hs.contains j <;> rfl
def Mh (P : Program) (f : FuncId) (args : List AV) (hp : Hp) (k : AV → Hp → Prop) : Prop := N2 P f args hp k
theorem Ac {P : Program} {f : FuncId} {args : List AV} {hp hp0 : Hp} {k : AV → Hp → Prop} {Post : AV → Hp → Prop} (hs : List Nat) (h : AH P f args hp0 Post) {kp : CU k} (he : IP hs hp = hp0) (hk : ∀ r hp', Post r hp' → k r (hp' ++ BS hs hp)) : Bd2 (fun k => Mh P f args hp k) k kp := ⟨hs, Post, .inl ⟨by rw [he]; exact h, hk⟩⟩
theorem ON (F : Nat → AV) (f : FuncId) (as : List AB) : (IOp.Bi f as).sem P F hp K = Bd2 (fun k => Mh P f (as.map fun x => (x.ev F).BN hp) hp k) K ⟨⟩ := eqq rfl
def TR (P : Program) (x : AV) (args : List AV) (hp : Hp) (k : AV → Hp → Prop) : Prop := KM P x args hp k
theorem Mw (F : Nat → AV) (f : AB) (as : List AB) : (IOp.JS f as).sem P F hp K = Bd2 (fun k => TR P ((f.ev F).BN hp) (as.map fun x => (x.ev F).BN hp) hp k) K ⟨⟩ := eqq rfl
theorem LV (f : FuncId) (caps args : List AV) : TR P (.fn f caps) args hp K = Mh P f (args ++ caps) hp K := eqq rfl
theorem Ik (rs : List E8) (res : AV) (s : St) : Ret rs res .normal s = BH s.hp (Ba s.fr) rs fun xs => HX s.hp xs = res := eqq rfl
theorem Lx (rs : List E8) (res : AV) (s : St) : Ret rs res .ret s = BH s.hp (Ba s.fr) rs fun xs => HX s.hp xs = res := eqq rfl

theorem Wc (R : St → Prop) (s : St) : Bh P R [] s = R s := eqq rfl
theorem Wb (R : St → Prop) (d : Nat) (op : IOp) (l : List BC) : Bh P R (⟨some d, none, op⟩ :: l) ⟨fr, hp⟩ = op.sem P (Ba fr) hp fun v hp => Bh P R l ⟨(d, v) :: fr, hp⟩ := eqq rfl
theorem R6 (R : St → Prop) (op : IOp) (l : List BC) : Bh P R (⟨none, none, op⟩ :: l) ⟨fr, hp⟩ = op.sem P (Ba fr) hp fun v hp => Bh P R l ⟨fr, hp⟩ := eqq rfl
def NW (x : AV) (want : Bool) (A B : Prop) (h : CU A) (h' : CU B) : Prop :=
 match x with
 | .bool b => (b = want → A) ∧ (b = (!want) → B)
 | .tup _ => B
 | _ => False
theorem O5 (R : St → Prop) (d t : Nat) (want : Bool) (op : IOp) (l : List BC) : Bh P R (⟨some d, some (t, want), op⟩ :: l) ⟨fr, hp⟩ = NW (Ba fr t) want (op.sem P (Ba fr) hp fun v hp => Bh P R l ⟨(d, v) :: fr, hp⟩) (Bh P R l ⟨(d, .tup []) :: fr, hp⟩) ⟨⟩ ⟨⟩ := eqq rfl
theorem MO (R : St → Prop) (t : Nat) (want : Bool) (op : IOp) (l : List BC) : Bh P R (⟨none, some (t, want), op⟩ :: l) ⟨fr, hp⟩ = NW (Ba fr t) want (op.sem P (Ba fr) hp fun v hp => Bh P R l ⟨fr, hp⟩) (Bh P R l ⟨fr, hp⟩) ⟨⟩ ⟨⟩ := eqq rfl
theorem LS (b : Bool) (A B : Prop) (h : CU A) (h' : CU B) : NW (.bool b) true A B h h' = Br b A B h h' := eqq rfl
theorem KK (b : Bool) (A B : Prop) (h : CU A) (h' : CU B) : NW (.bool b) false A B h h' = Bn b A B h h' := eqq rfl
theorem NV (xs : List AV) (want : Bool) (A B : Prop) (h : CU A) (h' : CU B) : NW (.tup xs) want A B h h' = B := eqq rfl

theorem AcD (F : Nat → AV) (i : Nat) : AB.ev F (.t i) = F i := eqq rfl
theorem AcF (F : Nat → AV) (x : AV) : AB.ev F (.c x) = x := eqq rfl
theorem AcE (F : Nat → AV) (l : List Nat) : AB.ev F (.s l) = .str (bs l) := eqq rfl
theorem VC : AV.str ⟨⟨[]⟩⟩ = AV.str (bs []) := eqq rfl
theorem W0 (i : Nat) (x : AV) : Ba ((i, x) :: fr) i = x := by simp [Ba]
theorem WZ {i j : Nat} (x : AV) (h : (i == j) = false) : Ba ((i, x) :: fr) j = Ba fr j := by simp [Ba, (beq_eq_false_iff_ne.1 h)]
theorem WS (i : Nat) (x : Box) : Aw ((i, x) :: hp) i = some x := by simp [Aw]
theorem WR {i j : Nat} (x : Box) (h : (i == j) = false) : Aw ((i, x) :: hp) j = Aw hp j := by simp [Aw, (beq_eq_false_iff_ne.1 h)]
theorem SG (i : Nat) : Aw [] i = none := eqq rfl

theorem VN (F : Nat → AV) (x : AB) : (IOp.mov x).sem P F hp K = Bd (fun k => k (x.ev F)) (fun v => K v hp) ⟨⟩ := eqq rfl
theorem Ro (F : Nat → AV) (c a b : AB) : (IOp.pick c a b).sem P F hp K = Bd (fun k => TK (c.ev F) (a.ev F) (b.ev F) k) (fun v => K v hp) ⟨⟩ := eqq rfl
theorem VS (F : Nat → AV) (op : BinOp) (kd : EqK) (x y : AB) : (IOp.bin op kd x y).sem P F hp K = Bd (fun k => Fx op kd (x.ev F) (y.ev F) k) (fun v => K v hp) ⟨⟩ := eqq rfl
theorem Rv (F : Nat → AV) (op : BinOp) (x y : AB) : (IOp.Ab9 op x y).sem P F hp K = Bd (fun k => EM op (x.ev F) (y.ev F) k) (fun v => K v hp) ⟨⟩ := eqq rfl
theorem Tu (q : IntKind) (a b : Int) : EM .add (.int q a) (.int q b) k = k (.int q (q.wrap (a + b))) := by simp [EM]
theorem Tq (q : IntKind) (a b : Int) : EM .sub (.int q a) (.int q b) k = k (.int q (q.wrap (a - b))) := by simp [EM]
theorem Tt (q : IntKind) (a b : Int) : EM .mul (.int q a) (.int q b) k = k (.int q (q.wrap (a * b))) := by simp [EM]
theorem Ts (q r : IntKind) (a b : Int) : EM .shl (.int q a) (.int r b) k = (0 ≤ b ∧ k (.int q (q.wrap (a * 2 ^ (min b.toNat q.bits))))) := by simp [EM]
theorem Tr (q r : IntKind) (a b : Int) : EM .shr (.int q a) (.int r b) k = ((0 ≤ b ∧ inR q (a.fdiv (2 ^ (min b.toNat q.bits)))) ∧ k (.int q (a.fdiv (2 ^ (min b.toNat q.bits))))) := by simp [EM]
theorem Y0 (F : Nat → AV) (op : UnOp) (x : AB) : (IOp.un op x).sem P F hp K = Bd (fun k => aUn op (x.ev F) k) (fun v => K v hp) ⟨⟩ := eqq rfl
def Hq (x : AV) (hp : Hp) (k : AV → Prop) : Prop := x.ok = true ∧ k (.obj (x.pur hp).cells)
theorem Rt (F : Nat → AV) (x : AB) : (IOp.Aac x).sem P F hp K = Bd (fun k => Hq (x.ev F) hp k) (fun v => K v hp) ⟨⟩ := eqq rfl
theorem TX (cs : List AV) : Hq (.agg cs) hp k = k (.obj (cs.map (AV.Bs hp))) := by simp [Hq, AV.ok, AV.one, AV.isAgg, AV.pur, AV.cells]
theorem TW (q : IntKind) (n : Int) : Hq (.int q n) hp k = k (.obj [.int q n]) := by simp [Hq, AV.ok, AV.one, AV.isAgg, AV.pur, AV.Bs, AV.cells]
theorem P4 (b : Bool) : Hq (.bool b) hp k = k (.obj [.bool b]) := by simp [Hq, AV.ok, AV.one, AV.isAgg, AV.pur, AV.Bs, AV.cells]
theorem TU (s : ByteArray) : Hq (.str s) hp k = k (.obj [.str s]) := by simp [Hq, AV.ok, AV.one, AV.isAgg, AV.pur, AV.Bs, AV.cells]
theorem Xv (es : List AV) : Hq (.sl es) hp k = k (.obj [.sl es]) := by simp [Hq, AV.ok, AV.one, AV.isAgg, AV.pur, AV.Bs, AV.cells]
theorem TV (cs : List AV) : Hq (.obj cs) hp k = k (.obj [.obj cs]) := by simp [Hq, AV.ok, AV.one, AV.isAgg, AV.pur, AV.Bs, AV.cells]
theorem P0 : Hq .Au hp k = k (.obj [.Au]) := by simp [Hq, AV.ok, AV.one, AV.isAgg, AV.pur, AV.Bs, AV.cells]
theorem P3 : Hq .Dl hp k = k (.obj [.Dl]) := by simp [Hq, AV.ok, AV.one, AV.isAgg, AV.pur, AV.Bs, AV.cells]
theorem Xw (f : FuncId) (cs : List AV) : Hq (.fn f cs) hp k = k (.obj [.fn f cs]) := by simp [Hq, AV.ok, AV.one, AV.isAgg, AV.pur, AV.Bs, AV.cells]
def TZ (x : AV) (n j : Nat) (ty : TypeId) (hp : Hp) (K : AV → Hp → Prop) : Prop := (x.ok = true ∧ x.cells.length = n) ∧ ∀ v, K (.ptr j v 0 0) ((j, ⟨v, false, ty, n, [x]⟩) :: hp)
theorem Ru (F : Nat → AV) (j : Nat) (ty : TypeId) (n : Nat) (x : AB) : (IOp.F6 j ty n x).sem P F hp K = Bd2 (fun k => TZ (x.ev F) n j ty hp k) K ⟨⟩ := eqq rfl
theorem P8 (cs : List AV) (n j : Nat) (ty : TypeId) : TZ (.agg cs) n j ty hp K = (cs.length = n ∧ ∀ v, K (.ptr j v 0 0) ((j, ⟨v, false, ty, n, [.agg cs]⟩) :: hp)) := by simp [TZ, AV.ok, AV.one, AV.isAgg, AV.cells]
theorem P7 (x : AV) (h : x.one = true) (n j : Nat) (ty : TypeId) : TZ x n j ty hp K = (1 = n ∧ ∀ v, K (.ptr j v 0 0) ((j, ⟨v, false, ty, n, [x]⟩) :: hp)) := by simp [TZ, AV.ok, h, FG h]
theorem OP (F : Nat → AV) (z : List AV) (ps : List (Nat × Nat × AB)) : (IOp.build z ps).sem P F hp K = Bd (fun k => F9 F z ps fun cs => k (.agg cs)) (fun v => K v hp) ⟨⟩ := eqq rfl
theorem N3 (F : Nat → AV) (z : List AV) (k : List AV → Prop) : F9 F z [] k = k z := eqq rfl
def KN (x : AV) (F : Nat → AV) (z : List AV) (off n : Nat) (ps : List (Nat × Nat × AB)) (k : List AV → Prop) : Prop := (x.ok = true ∧ x.cells.length = n ∧ off + n ≤ z.length) ∧ F9 F (lay z off x.cells) ps k
theorem LX (F : Nat → AV) (z : List AV) (off n : Nat) (x : AB) (ps : List (Nat × Nat × AB)) (k : List AV → Prop) : F9 F z ((off, n, x) :: ps) k = KN (x.ev F) F z off n ps k := eqq rfl
theorem LZ (cs : List AV) (F : Nat → AV) (z : List AV) (off n : Nat) (ps : List (Nat × Nat × AB)) (k : List AV → Prop) : KN (.agg cs) F z off n ps k = ((cs.length = n ∧ off + n ≤ z.length) ∧ F9 F (z.take off ++ (cs ++ z.drop (off + cs.length))) ps k) := by simp [KN, AV.ok, AV.one, AV.isAgg, AV.cells, lay]
theorem LY (x : AV) (h : x.one = true) (F : Nat → AV) (z : List AV) (off n : Nat) (ps : List (Nat × Nat × AB)) (k : List AV → Prop) : KN x F z off n ps k = ((1 = n ∧ off + n ≤ z.length) ∧ F9 F (z.take off ++ (x :: z.drop (off + 1))) ps k) := by simp [KN, AV.ok, h, FG h, lay]
theorem OI (F : Nat → AV) (g : Bool) (n : Nat) (a : AB) : (IOp.Io g n a).sem P F hp K = Bd (fun k => EE [] g n (a.ev F) k) (fun v => K v hp) ⟨⟩ := eqq rfl
theorem Rq (F : Nat → AV) (g : Bool) (n : Nat) (a : AB) : (IOp.load g n a).sem P F hp K = Bd (fun k => EE hp g n (a.ev F) k) (fun v => K v hp) ⟨⟩ := eqq rfl
theorem OG (F : Nat → AV) (n : Nat) (a x : AB) : (IOp.store n a x).sem P F hp K = Bd (fun k => JV hp n (a.ev F) (x.ev F) k) (fun hp => K (.tup []) hp) ⟨⟩ := eqq rfl
theorem OL (F : Nat → AV) (off : Nat) (x : AB) : (IOp.Ca off x).sem P F hp K = Bd (fun k => Ho off (x.ev F) k) (fun v => K v hp) ⟨⟩ := eqq rfl
theorem VP (F : Nat → AV) (g : Bool) (off n : Nat) (x : AB) : (IOp.fld g off n x).sem P F hp K = Bd (fun k => Aao g off n (x.ev F) k) (fun v => K v hp) ⟨⟩ := eqq rfl
theorem OK (F : Nat → AV) (e : Nat) (x i : AB) : (IOp.LH e x i).sem P F hp K = Bd (fun k => Cj hp e (x.ev F) (i.ev F) k) (fun v => K v hp) ⟨⟩ := eqq rfl
theorem Mv (F : Nat → AV) (e : Nat) (x i : AB) : (IOp.Na e x i).sem P F hp K = Bd (fun k => Cj [] e (x.ev F) (i.ev F) k) (fun v => K v hp) ⟨⟩ := eqq rfl
theorem Rn (F : Nat → AV) (x i : AB) : (IOp.AbR x i).sem P F hp K = Bd (fun k => TJ (x.ev F) (i.ev F) k) (fun v => K v hp) ⟨⟩ := eqq rfl
theorem VO (F : Nat → AV) (g : Bool) (x : AB) : (IOp.len g x).sem P F hp K = Bd (fun k => Fw g (x.ev F) k) (fun v => K v hp) ⟨⟩ := eqq rfl
theorem Rr (F : Nat → AV) (d : IntKind) (x : AB) : (IOp.conv d x).sem P F hp K = Bd (fun k => TP d (x.ev F) k) (fun v => K v hp) ⟨⟩ := eqq rfl
theorem Lr (F : Nat → AV) (i : Nat) (x : AB) : (IOp.extract i x).sem P F hp K = Bd (fun k => F7 i (x.ev F) k) (fun v => K v hp) ⟨⟩ := eqq rfl
theorem Ms (F : Nat → AV) (x : AB) : (IOp.C7 x).sem P F hp K = Bd (fun k => Fv (x.ev F) k) (fun v => K v hp) ⟨⟩ := eqq rfl
def Acb (neg : Bool) (x : AV) (hp : Hp) (K : AV → Hp → Prop) : Prop :=
 match x with
 | .sl es => (es = [] → K (.bool (!neg)) hp) ∧ K (.bool neg) hp
 | .Au => K (.bool (!neg)) hp
 | _ => False
theorem OJ (F : Nat → AV) (neg : Bool) (x : AB) : (IOp.Ks neg x).sem P F hp K = Bd2 (fun k => Acb neg (x.ev F) hp k) K ⟨⟩ := eqq rfl
theorem Xt (neg : Bool) (es : List AV) : Acb neg (.sl es) hp K = ((es = [] → K (.bool (!neg)) hp) ∧ K (.bool neg) hp) := eqq rfl
theorem PX (neg : Bool) : Acb neg .Au hp K = K (.bool (!neg)) hp := eqq rfl
theorem Rp (F : Nat → AV) (f : FuncId) (cs : List AB) : (IOp.Ab5 f cs).sem P F hp K = Bd (fun k => k (.fn f (cs.map fun x => x.ev F))) (fun v => K v hp) ⟨⟩ := eqq rfl
def N1 (P : Program) (f : FuncId) (args : List AV) (hp : Hp) (k : AV → Prop) : Prop := LW P f args hp k
theorem Ag {P : Program} {f : FuncId} {args : List AV} {hp : Hp} {k : AV → Prop} (r : AV) (h : AJ P f args r) {kp : CU k} (hk : k r) : Bd (fun k => N1 P f args hp k) k kp := ⟨r, .inl h, hk⟩
theorem YB {P : Program} {f : FuncId} {args args' : List AV} {hp : Hp} {k : AV → Prop} {r : AV} (ks : List Nat) (h : AJ P f args' r) (hs : r.Uu = true) {kp : CU k} (he : args.map (AV.BN (B9 ks hp)) = args') (hk : k r) : Bd (fun k => N1 P f args hp k) k kp := ⟨r, .inr ⟨ks, by rw [he]; exact h, hs⟩, hk⟩
theorem Rs (F : Nat → AV) (f : FuncId) (as : List AB) : (IOp.call f as).sem P F hp K = Bd (fun k => N1 P f (as.map fun x => (x.ev F).BN hp) hp k) (fun v => K v hp) ⟨⟩ := eqq rfl
theorem OO (F : Nat → AV) (f : FuncId) (as : List AB) : (IOp.Tl f as).sem P F hp K = ((∀ hp, (as.map fun x => (x.ev F).BN hp) = as.map fun x => x.ev F) ∧ Bd (fun k => N1 P f (as.map fun x => x.ev F) [] k) (fun v => K v hp) ⟨⟩) := eqq rfl
def Xu (P : Program) (x : AV) (args : List AV) (hp : Hp) (k : AV → Prop) : Prop := Q0 P x args hp k
theorem OM (F : Nat → AV) (f : AB) (as : List AB) : (IOp.Aaa f as).sem P F hp K = Bd (fun k => Xu P ((f.ev F).BN hp) (as.map fun x => (x.ev F).BN hp) hp k) (fun v => K v hp) ⟨⟩ := eqq rfl
theorem NZ (f : FuncId) (caps args : List AV) : Xu P (.fn f caps) args hp k = N1 P f (args ++ caps) hp k := eqq rfl
def Aan (mx : Bool) (xs : List AV) (k : AV → Prop) : Prop := aMm mx xs k
theorem Y1 (F : Nat → AV) (mx : Bool) (xs : List AB) : (IOp.mm mx xs).sem P F hp K = Bd (fun k => Aan mx (xs.map fun x => x.ev F) k) (fun v => K v hp) ⟨⟩ := eqq rfl
theorem TM (q : IntKind) (a b : Int) : Aan true [.int q a, .int q b] k = k (.int q (max a b)) := by simp [Aan, aMm]
theorem TL (q : IntKind) (a b : Int) : Aan false [.int q a, .int q b] k = k (.int q (min a b)) := by simp [Aan, aMm]
def Ci (x : AV) (esz : Nat) (lo hi : Option AV) (k : AV → Prop) : Prop := ED (fun i => if i = 0 then lo.getD .top else hi.getD .top) esz (lo.map fun _ => .t 0) (hi.map fun _ => .t 1) x k
theorem YA (F : Nat → AV) (x : AV) (esz : Nat) (lo hi : Option AB) : ED F esz lo hi x k = Ci x esz (lo.map fun x => x.ev F) (hi.map fun x => x.ev F) k := by
 unfold Ci ED
 have h1 : C5 F lo = C5 (fun i => if i = 0 then (lo.map fun x => x.ev F).getD .top else (hi.map fun x => x.ev F).getD .top) ((lo.map fun x => x.ev F).map fun _ => AB.t 0) := by cases lo <;> rfl
 have h2 : C5 F hi = C5 (fun i => if i = 0 then (lo.map fun x => x.ev F).getD .top else (hi.map fun x => x.ev F).getD .top) ((hi.map fun x => x.ev F).map fun _ => AB.t 1) := by cases hi <;> rfl
 have h3 : ∀ d, AU F d lo = AU (fun i => if i = 0 then (lo.map fun x => x.ev F).getD .top else (hi.map fun x => x.ev F).getD .top) d ((lo.map fun x => x.ev F).map fun _ => AB.t 0) := by intro d; cases lo <;> rfl
 have h4 : ∀ d, AU F d hi = AU (fun i => if i = 0 then (lo.map fun x => x.ev F).getD .top else (hi.map fun x => x.ev F).getD .top) d ((hi.map fun x => x.ev F).map fun _ => AB.t 1) := by intro d; cases hi <;> rfl
 have h5 : (lo = none) = (((lo.map fun x => x.ev F).map fun _ => AB.t 0) = none) := by cases lo <;> simp
 simp only [h1, h2, h3, h4, h5]
theorem OH (F : Nat → AV) (e : Nat) (x : AB) (lo hi : Option AB) : (IOp.slice e x lo hi).sem P F hp K = Bd (fun k => Ci (x.ev F) e (lo.map fun x => x.ev F) (hi.map fun x => x.ev F) k) (fun v => K v hp) ⟨⟩ := by simp only [IOp.sem]; exact YA _ _ _ _ _ _
theorem J6 (s : ByteArray) (q r : IntKind) (a b : Int) : Ci (.str s) 0 (some (.int q a)) (some (.int r b)) k = ((0 ≤ a ∧ a ≤ b ∧ b ≤ s.size) ∧ k (.str (s.extract a.toNat b.toNat))) := by simp [Ci, ED, C5, AU, AB.ev, AV.isInt, AV.num]
theorem Ln (s : ByteArray) (q : IntKind) (a : Int) : Ci (.str s) 0 (some (.int q a)) none k = ((0 ≤ a ∧ a ≤ s.size) ∧ k (.str (s.extract a.toNat s.size))) := by simp [Ci, ED, C5, AU, AB.ev, AV.isInt, AV.num, and_assoc]
theorem Lo (s : ByteArray) (r : IntKind) (b : Int) : Ci (.str s) 0 none (some (.int r b)) k = ((0 ≤ b ∧ b ≤ s.size) ∧ k (.str (s.extract 0 b.toNat))) := by simp [Ci, ED, C5, AU, AB.ev, AV.isInt, AV.num]
theorem Lp (es : List AV) (e : Nat) (q r : IntKind) (a b : Int) : Ci (.sl es) e (some (.int q a)) (some (.int r b)) k = ((e ≠ 0 ∧ 0 ≤ a ∧ a ≤ b ∧ b ≤ es.length ∧ ∀ x ∈ es, x.cells.length = e) ∧ k (.sl ((es.drop a.toNat).take (b.toNat - a.toNat)))) := by simp [Ci, ED, C5, AU, AB.ev, AV.isInt, AV.num]
theorem Mp (es : List AV) (e : Nat) (q : IntKind) (a : Int) : Ci (.sl es) e (some (.int q a)) none k = ((e ≠ 0 ∧ 0 ≤ a ∧ a ≤ es.length ∧ ∀ x ∈ es, x.cells.length = e) ∧ k (.sl ((es.drop a.toNat).take (es.length - a.toNat)))) := by simp [Ci, ED, C5, AU, AB.ev, AV.isInt, AV.num]
theorem Mq (es : List AV) (e : Nat) (r : IntKind) (b : Int) : Ci (.sl es) e none (some (.int r b)) k = ((e ≠ 0 ∧ 0 ≤ b ∧ b ≤ es.length) ∧ k (.sl (es.take b.toNat))) := by simp [Ci, ED, C5, AU, AB.ev, AV.isInt, AV.num]
theorem J7 (e : Nat) (r : IntKind) (b : Int) : Ci .Au e none (some (.int r b)) k = ((e ≠ 0 ∧ b = 0) ∧ k .Au) := by simp [Ci, ED, C5, AU, AB.ev, AV.isInt, AV.num]
theorem Lq (j v n e : Nat) (r : IntKind) (b : Int) : Ci (.row j v n) e none (some (.int r b)) k = ((e ≠ 0 ∧ 0 ≤ b ∧ b ≤ n) ∧ k (.row j v b.toNat)) := by simp [Ci, ED, C5, AU, AB.ev, AV.isInt, AV.num]

/-! slices made, appends -/
def EF (F : Nat → AV) (esz : Nat) (es : List AV) (ps : List (Nat × AB)) (k : List AV → Prop) : Prop := De F esz es ps k
theorem Pw (F : Nat → AV) (esz : Nat) (es : List AV) (k : List AV → Prop) : EF F esz es [] k = k es := eqq rfl
def F8 (x : AV) (F : Nat → AV) (esz i : Nat) (es : List AV) (ps : List (Nat × AB)) (k : List AV → Prop) : Prop := (x.ok = true ∧ x.cells.length = esz ∧ i < es.length) ∧ EF F esz (es.set i x) ps k
theorem NA (F : Nat → AV) (esz i : Nat) (x : AB) (es : List AV) (ps : List (Nat × AB)) (k : List AV → Prop) : EF F esz es ((i, x) :: ps) k = F8 (x.ev F) F esz i es ps k := eqq rfl
theorem Pz (cs : List AV) (F : Nat → AV) (esz i : Nat) (es : List AV) (ps : List (Nat × AB)) (k : List AV → Prop) : F8 (.agg cs) F esz i es ps k = ((cs.length = esz ∧ i < es.length) ∧ EF F esz (es.set i (.agg cs)) ps k) := by simp [F8, AV.ok, AV.one, AV.isAgg, AV.cells]
theorem Py (x : AV) (h : x.one = true) (F : Nat → AV) (esz i : Nat) (es : List AV) (ps : List (Nat × AB)) (k : List AV → Prop) : F8 x F esz i es ps k = ((1 = esz ∧ i < es.length) ∧ EF F esz (es.set i x) ps k) := by simp [F8, AV.ok, h, FG h]
theorem VJ (F : Nat → AV) (m : Nat) (z : AV) (ps : List (Nat × AB)) : (IOp.slP m z ps).sem P F hp K = Bd (fun k => EF F z.cells.length (List.replicate m z) ps fun es => k (.sl (es.map (AV.pur hp)))) (fun v => K v hp) ⟨⟩ := eqq rfl
theorem Rw (F : Nat → AV) (op : BinOp) (x y : AB) : (IOp.Ve op x y).sem P F hp K = Bd (fun k => KO op (x.ev F) (y.ev F) k) (fun v => K v hp) ⟨⟩ := eqq rfl
theorem VL (F : Nat → AV) (m : Nat) (z : AV) (ps : List (Nat × AB)) : (IOp.slF m z ps).sem P F hp K = Bd (fun k => EF F z.cells.length (List.replicate m z) ps fun es => es.all AV.plain = true ∧ k (.sl es)) (fun v => K v hp) ⟨⟩ := eqq rfl
theorem O0 : List.all [] AV.plain = true := eqq rfl
theorem MG (x : AV) (r : List AV) : List.all (x :: r) AV.plain = (x.plain && r.all AV.plain) := eqq rfl
theorem O1 (q : IntKind) (n : Int) : (AV.int q n).plain = true := eqq rfl
theorem OZ (s : ByteArray) : (AV.str s).plain = true := eqq rfl
theorem MH (b : Bool) : (AV.bool b).plain = true := eqq rfl
theorem VK (F : Nat → AV) (j : Nat) (ty : TypeId) (m : Nat) (z : AV) (ps : List (Nat × AB)) : (IOp.slO j ty m z ps).sem P F hp K = Bd2 (fun k => EF F z.cells.length (List.replicate m z) ps fun es => ∀ v, k (.row j v m) ((j, ⟨v, false, ty, z.cells.length, es⟩) :: hp)) K ⟨⟩ := eqq rfl
def IZ (hp : Hp) (j : Nat) (ty : TypeId) (esz bytes : Nat) (s x : AV) (K : AV → Hp → Prop) : Prop := L7 hp j ty esz bytes s ((Ek hp x).map (·.map (AV.pur hp))) K
theorem Mx (F : Nat → AV) (j : Nat) (ty : TypeId) (e b : Nat) (s x : AB) : (IOp.append j ty e b s x).sem P F hp K = Bd2 (fun k => IZ hp j ty e b (s.ev F) (x.ev F) k) K ⟨⟩ := eqq rfl
theorem Ry (F : Nat → AV) (j : Nat) (ty : TypeId) (e b : Nat) (s x : AB) : (IOp.QW j ty e b s x).sem P F hp K = Bd2 (fun k => IZ hp j ty e b (s.ev F) (x.ev F) k) (fun r hp' => K (r.pur (Nl r hp')) (Nl r hp')) ⟨⟩ := eqq rfl
theorem SN (j v n : Nat) : Nl (.row j v n) hp = G3 hp j := eqq rfl
def KQ (bx : Option Box) (hp : Hp) (j v n : Nat) (ty : TypeId) (esz bytes : Nat) (es : List AV) (K : AV → Hp → Prop) : Prop :=
 match bx with
 | some b => (b.ver = v ∧ b.frz = false ∧ b.ty = ty ∧ b.esz = esz ∧ n ≤ b.es.length ∧ (∀ e ∈ es, e.cells.length = esz) ∧ (n + es.length) * bytes ≤ 140737488355328 ∧ n + es.length ≤ maxLen) ∧
   ∀ v', K (.row j v' (n + es.length)) ((j, ⟨v', false, ty, esz, b.es.take n ++ es⟩) :: hp)
 | none => False
theorem Xq (i j v n : Nat) (ty : TypeId) (e b : Nat) (es : List AV) : IZ hp i ty e b (.row j v n) (.sl es) K = KQ (Aw hp j) hp j v n ty e b (es.map (AV.pur hp)) K := by
 unfold IZ L7 KQ Ek; simp only [Option.map_some]; cases Aw hp j <;> rfl
theorem NP (i j v n : Nat) (ty : TypeId) (e b : Nat) : IZ hp i ty e b (.row j v n) .Au K = KQ (Aw hp j) hp j v n ty e b [] K := by
 unfold IZ L7 KQ Ek; simp only [Option.map_some, List.map_nil]; cases Aw hp j <;> rfl
theorem TF (j : Nat) (ty : TypeId) (e b : Nat) (es : List AV) : IZ hp j ty e b .Au (.sl es) K = ((((∀ x ∈ es.map (AV.pur hp), x.cells.length = e) ∧ (es.map (AV.pur hp)).length * b ≤ 140737488355328 ∧ (es.map (AV.pur hp)).length ≤ maxLen)) ∧
  ∀ v, K (.row j v (es.map (AV.pur hp)).length) ((j, ⟨v, false, ty, e, es.map (AV.pur hp)⟩) :: hp)) := rfl
theorem PW (b : Box) (j v n : Nat) (ty : TypeId) (esz bytes : Nat) (es : List AV) : KQ (some b) hp j v n ty esz bytes es K = ((b.ver = v ∧ b.frz = false ∧ b.ty = ty ∧ b.esz = esz ∧ n ≤ b.es.length ∧ (∀ e ∈ es, e.cells.length = esz) ∧ (n + es.length) * bytes ≤ 140737488355328 ∧ n + es.length ≤ maxLen) ∧
   ∀ v', K (.row j v' (n + es.length)) ((j, ⟨v', false, ty, esz, b.es.take n ++ es⟩) :: hp)) := rfl
def AcM (x : AV) (j : Nat) (ty : TypeId) (bytes : Nat) (z : AV) (hp : Hp) (K : AV → Hp → Prop) : Prop :=
 match x with
 | .int _ n => (0 ≤ n ∧ n * bytes ≤ 140737488355328) ∧ ∀ v, K (.row j v n.toNat) ((j, ⟨v, false, ty, z.cells.length, List.replicate n.toNat z⟩) :: hp)
 | _ => False
theorem Y2 (F : Nat → AV) (j : Nat) (ty : TypeId) (b : Nat) (z : AV) (x : AB) : (IOp.mkSlice j ty b z x).sem P F hp K = Bd2 (fun k => AcM (x.ev F) j ty b z hp k) K ⟨⟩ := eqq rfl
theorem ZC (q : IntKind) (n : Int) (j : Nat) (ty : TypeId) (b : Nat) (z : AV) : AcM (.int q n) j ty b z hp K = ((0 ≤ n ∧ n * b ≤ 140737488355328) ∧ ∀ v, K (.row j v n.toNat) ((j, ⟨v, false, ty, z.cells.length, List.replicate n.toNat z⟩) :: hp)) := eqq rfl
def Aas (hp : Hp) (x : AV) (k : AV → Prop) : Prop := Aat (Ek hp x) k
theorem VT (F : Nat → AV) (x : AB) : (IOp.b2s x).sem P F hp K = Bd (fun k => Aas hp (x.ev F) k) (fun v => K v hp) ⟨⟩ := eqq rfl
def Aau (s n : AV) (j : Nat) (ty : TypeId) (bytes : Nat) (z : AV) (hp : Hp) (K : AV → Hp → Prop) : Prop := Xx s n bytes fun m => ∀ v, K (.row j v m) ((j, ⟨v, false, ty, z.cells.length, List.replicate m z⟩) :: hp)
theorem Rx (F : Nat → AV) (j : Nat) (ty : TypeId) (b : Nat) (z : AV) (s x : AB) : (IOp.TG j ty b z s x).sem P F hp K = Bd2 (fun k => Aau (s.ev F) (x.ev F) j ty b z hp k) K ⟨⟩ := eqq rfl
theorem PV (q : IntKind) (n : Int) (j : Nat) (ty : TypeId) (b : Nat) (z : AV) : Aau .Au (.int q n) j ty b z hp K = ((0 < n ∧ n * b ≤ 140737488355328 ∧ n ≤ 1099511627776) ∧ ∀ v, K (.row j v n.toNat) ((j, ⟨v, false, ty, z.cells.length, List.replicate n.toNat z⟩) :: hp)) := eqq rfl
def AbI (x : AV) (j : Nat) (ty : TypeId) (hp : Hp) (K : AV → Hp → Prop) : Prop := Abq x fun s => ∀ v, K (.row j v s.size) ((j, ⟨v, false, ty, 1, Jd s⟩) :: hp)
theorem VM (F : Nat → AV) (j : Nat) (ty : TypeId) (x : AB) : (IOp.s2b j ty x).sem P F hp K = Bd2 (fun k => AbI (x.ev F) j ty hp k) K ⟨⟩ := eqq rfl
theorem VU (s : ByteArray) (j : Nat) (ty : TypeId) : AbI (.str s) j ty hp K = ∀ v, K (.row j v s.size) ((j, ⟨v, false, ty, 1, Jd s⟩) :: hp) := eqq rfl
theorem VQ (F : Nat → AV) (x : AB) : (IOp.cap x).sem P F hp K = Bd (fun k => Aaq (x.ev F) k) (fun v => K v hp) ⟨⟩ := eqq rfl
theorem Ti : Aaq .Au k = k (.int .i64 0) := eqq rfl
theorem NL {x : AV} {es : List AV} (l : List UInt8) (h : Ek hp x = some es) (he : es = l.map fun b => .int .u8 b.toNat) (hk : k (.str ⟨l.toArray⟩)) : Aas hp x k := by unfold Aas Aat; rw [h]; exact ⟨l, he, hk⟩

/-! scrutinees decided -/
theorem O2 (t : Bool) (a b : AV) : TK (.bool t) a b k = Pk t a b k := eqq rfl
theorem Tx (op : BinOp) (q : IntKind) (a b : Int) : KO op (.int q a) (.int q b) k = Ha op q a b k := by simp [KO]
theorem Xf (op : BinOp) (kd : EqK) (q : IntKind) (a b : Int) : Fx op kd (.int q a) (.int q b) k = Ha op q a b k := by simp [Fx]
theorem W8 (op : BinOp) (kd : EqK) (a b : ByteArray) : Fx op kd (.str a) (.str b) k = TI op a b k := eqq rfl
theorem Tw (op : BinOp) (a b : Bool) : Fx op .bool (.bool a) (.bool b) k = Df op (a == b) k := by simp [Fx]
theorem Xe (op : BinOp) : Fx op .ptr .Dl .Dl k = Df op true k := by simp [Fx]
theorem Xd (op : BinOp) (cs : List AV) : Fx op .ptr (.obj cs) .Dl k = Df op false k := by simp [Fx]
theorem Xc (op : BinOp) (cs : List AV) : Fx op .ptr .Dl (.obj cs) k = Df op false k := by simp [Fx]
theorem Xb (op : BinOp) (j v i o : Nat) : Fx op .ptr (.ptr j v i o) .Dl k = Df op false k := by simp [Fx]
theorem Xa (op : BinOp) : Fx op .slice .Au .Au k = Df op true k := by simp [Fx]
theorem W9 (op : BinOp) (es : List AV) : Fx op .slice (.sl es) .Au k = (es ≠ [] ∧ Df op false k) := by simp [Fx]
theorem Tv (op : BinOp) (ks : List Nat) (xs ys : List AV) : Fx op (.flat ks) (.agg xs) (.agg ys) k = QZ op (DG ks xs ys) k := by simp [Fx, Aap]
theorem Nt (op : BinOp) (b : Bool) : QZ op (some b) k = Df op b k := eqq rfl
theorem SV : DG [] [] [] = some true := eqq rfl
theorem SW (q : IntKind) (a b : Int) (ks : List Nat) (xs ys : List AV) : DG (1 :: ks) (.int q a :: xs) (.int q b :: ys) = (DG ks xs ys).map (decide (a = b) && ·) := by simp [DG]
theorem Pq (a b : Bool) (ks : List Nat) (xs ys : List AV) : DG (0 :: ks) (.bool a :: xs) (.bool b :: ys) = (DG ks xs ys).map (decide (a = b) && ·) := eqq rfl
theorem SS (a b : ByteArray) (ks : List Nat) (xs ys : List AV) : DG (2 :: ks) (.str a :: xs) (.str b :: ys) = (DG ks xs ys).map (decide (a = b) && ·) := eqq rfl
theorem WN (q : IntKind) (a b : Int) : Ha .add q a b k = (inR q (a + b) ∧ k (.int q (a + b))) := eqq rfl
theorem WB (q : IntKind) (a b : Int) : Ha .sub q a b k = (inR q (a - b) ∧ k (.int q (a - b))) := eqq rfl
theorem WG (q : IntKind) (a b : Int) : Ha .mul q a b k = (inR q (a * b) ∧ k (.int q (a * b))) := eqq rfl
theorem WD (q : IntKind) (a b : Int) : Ha .quo q a b k = ((b ≠ 0 ∧ inR q (a.tdiv b)) ∧ k (.int q (a.tdiv b))) := eqq rfl
theorem WC (q : IntKind) (a b : Int) : Ha .rem q a b k = ((b ≠ 0 ∧ inR q (a.tmod b)) ∧ k (.int q (a.tmod b))) := eqq rfl
theorem WM (q : IntKind) (a b : Int) : Ha .eql q a b k = k (.bool (decide (a = b))) := eqq rfl
theorem WE (q : IntKind) (a b : Int) : Ha .neq q a b k = k (.bool (!decide (a = b))) := eqq rfl
theorem WH (q : IntKind) (a b : Int) : Ha .lss q a b k = k (.bool (decide (a < b))) := eqq rfl
theorem WJ (q : IntKind) (a b : Int) : Ha .leq q a b k = k (.bool (decide (a ≤ b))) := eqq rfl
theorem WK (q : IntKind) (a b : Int) : Ha .gtr q a b k = k (.bool (decide (b < a))) := eqq rfl
theorem WL (q : IntKind) (a b : Int) : Ha .geq q a b k = k (.bool (decide (b ≤ a))) := eqq rfl
theorem VG (a b : ByteArray) : TI .add a b k = (a.size + b.size ≤ maxLen ∧ k (.str (a ++ b))) := eqq rfl
theorem VF (a b : ByteArray) : TI .eql a b k = k (.bool (decide (a = b))) := eqq rfl
theorem VD (a b : ByteArray) : TI .neq a b k = k (.bool (!decide (a = b))) := eqq rfl
theorem VE (a b : ByteArray) : TI .lss a b k = k (.bool (Op.bytesLess a.toList b.toList)) := eqq rfl
theorem To (b : Bool) : Df .eql b k = k (.bool b) := eqq rfl
theorem Tn (b : Bool) : Df .neq b k = k (.bool (!b)) := eqq rfl
theorem YT (b : Bool) : aUn .not (.bool b) k = k (.bool (!b)) := eqq rfl
theorem YU (q : IntKind) (n : Int) : aUn .neg (.int q n) k = (inR q (-n) ∧ k (.int q (-n))) := eqq rfl
theorem Sj (g : Bool) (n : Nat) (cs : List AV) : EE hp g n (.obj cs) k = EK g cs 0 n k := eqq rfl
def Vl (bx : Option Box) (g : Bool) (n v i off : Nat) (k : AV → Prop) : Prop :=
 match bx with
 | some b => (b.ver = v ∧ i < b.es.length) ∧ EK g (b.es.getD i .top).cells off n k
 | none => False
theorem Si (g : Bool) (n j v i off : Nat) : EE hp g n (.ptr j v i off) k = Vl (Aw hp j) g n v i off k := by cases h : Aw hp j <;> simp [EE, Vl, h]
theorem MY (b : Box) (g : Bool) (n v i off : Nat) : Vl (some b) g n v i off k = ((b.ver = v ∧ i < b.es.length) ∧ EK g (b.es.getD i .top).cells off n k) := eqq rfl
theorem O4 (cs : List AV) (off n : Nat) : EK true cs off n k = (off + n ≤ cs.length ∧ k (.agg ((cs.drop off).take n))) := eqq rfl
theorem MI (cs : List AV) (off n : Nat) : EK false cs off n k = (off < cs.length ∧ k (cs.getD off .top)) := eqq rfl
def QX (bx : Option Box) (hp : Hp) (n j v i off : Nat) (x : AV) (K : Hp → Prop) : Prop :=
 match bx with
 | some b => (b.ver = v ∧ b.frz = false ∧ i < b.es.length ∧ x.ok = true ∧ x.cells.length = n ∧ off + n ≤ (b.es.getD i .top).cells.length) ∧
     K ((j, { b with es := b.es.set i ((b.es.getD i .top).EG off x.cells) }) :: hp)
 | none => False
theorem Ox (n j v i off : Nat) (x : AV) (K : Hp → Prop) : JV hp n (.ptr j v i off) x K = QX (Aw hp j) hp n j v i off x K := by cases h : Aw hp j <;> simp [JV, QX, h]
theorem Ll (b : Box) (n j v i off : Nat) (x : AV) (K : Hp → Prop) : QX (some b) hp n j v i off x K = ((b.ver = v ∧ b.frz = false ∧ i < b.es.length ∧ x.ok = true ∧ x.cells.length = n ∧ off + n ≤ (b.es.getD i .top).cells.length) ∧
     K ((j, { b with es := b.es.set i ((b.es.getD i .top).EG off x.cells) }) :: hp)) := rfl
theorem Pt (off : Nat) (cs : List AV) : Ho off (.obj cs) k = k (.obj (cs.drop off)) := eqq rfl
theorem Ps (off j v i o : Nat) : Ho off (.ptr j v i o) k = k (.ptr j v i (o + off)) := eqq rfl
theorem WY (g : Bool) (off n : Nat) (cs : List AV) : Aao g off n (.agg cs) k = EK g cs off n k := eqq rfl
theorem SC (e : Nat) (es : List AV) (q : IntKind) (i : Int) : Cj hp e (.sl es) (.int q i) k = ((0 ≤ i ∧ i < es.length ∧ (es.getD i.toNat .top).cells.length = e) ∧ k (.obj (es.getD i.toNat .top).cells)) := eqq rfl
def QY (bx : Option Box) (e j v n : Nat) (i : Int) (k : AV → Prop) : Prop :=
 match bx with
 | some b => (b.ver = v ∧ b.esz = e ∧ 0 ≤ i ∧ i < n) ∧ k (.ptr j v i.toNat 0)
 | none => False
theorem Pf (e j v n : Nat) (q : IntKind) (i : Int) : Cj hp e (.row j v n) (.int q i) k = QY (Aw hp j) e j v n i k := by cases h : Aw hp j <;> simp [Cj, QY, h]
theorem LG (b : Box) (e j v n : Nat) (i : Int) : QY (some b) e j v n i k = ((b.ver = v ∧ b.esz = e ∧ 0 ≤ i ∧ i < n) ∧ k (.ptr j v i.toNat 0)) := eqq rfl
theorem Rg (s : ByteArray) (q : IntKind) (i : Int) : TJ (.str s) (.int q i) k = ((0 ≤ i ∧ i < s.size) ∧ k (.int .u8 (AW s i.toNat).toNat)) := eqq rfl
theorem Ww (s : ByteArray) : Fw true (.str s) k = k (.int .i64 s.size) := by simp [Fw]
theorem ZJ (es : List AV) : Fw false (.sl es) k = k (.int .i64 es.length) := by simp [Fw]
theorem Wx (j v n : Nat) : Fw false (.row j v n) k = k (.int .i64 n) := by simp [Fw]
theorem Sl : Fw false .Au k = k (.int .i64 0) := by simp [Fw]
theorem Td (d q : IntKind) (n : Int) : TP d (.int q n) k = (inR d n ∧ k (.int d n)) := eqq rfl
theorem LM (i : Nat) (xs : List AV) : F7 i (.tup xs) k = (i < xs.length ∧ k (xs.getD i .top)) := eqq rfl
theorem MS (cs : List AV) : Fv (.obj cs) k = k (.obj cs) := eqq rfl
theorem MR (j v i o : Nat) : Fv (.ptr j v i o) k = k (.ptr j v i o) := eqq rfl
theorem O8 (f : FuncId) (cs : List AV) : Fv (.fn f cs) k = k (.fn f cs) := eqq rfl
theorem VV (F : Nat → AV) (k : List AV → Prop) : BH hp F [] k = k [] := eqq rfl
theorem Abz (F : Nat → AV) (i : Nat) (rs : List E8) (k : List AV → Prop) : BH hp F (.t i :: rs) k = BH hp F rs fun xs => k (F i :: xs) := eqq rfl
theorem AbA (F : Nat → AV) (g : Bool) (n i : Nat) (rs : List E8) (k : List AV → Prop) : BH hp F (.c g n i :: rs) k = EE hp g n (F i) fun x => BH hp F rs fun xs => k (x :: xs) := eqq rfl
theorem Pv (i : Nat) : entry i [] = [] := eqq rfl
theorem Ny (i : Nat) (x : AV) (xs : List AV) : entry i (x :: xs) = (i, x) :: entry (i + 1) xs := eqq rfl

/-! reading own rows for Of -/
theorem V2 (q : IntKind) (n : Int) : (AV.int q n).pur hp = .int q n := eqq rfl
theorem RJ (b : Bool) : (AV.bool b).pur hp = .bool b := eqq rfl
theorem VY (s : ByteArray) : (AV.str s).pur hp = .str s := eqq rfl
theorem Zc (es : List AV) : (AV.sl es).pur hp = .sl es := eqq rfl
theorem V1 (cs : List AV) : (AV.obj cs).pur hp = .obj cs := eqq rfl
theorem RH : AV.Au.pur hp = .Au := eqq rfl
theorem RI : AV.Dl.pur hp = .Dl := eqq rfl
theorem Ze (f : FuncId) (cs : List AV) : (AV.fn f cs).pur hp = .fn f cs := eqq rfl
theorem V3 (cs : List AV) : (AV.agg cs).pur hp = .agg (cs.map (AV.Bs hp)) := eqq rfl
theorem VX (cs : List AV) : (AV.tup cs).pur hp = .tup (cs.map (AV.Bs hp)) := eqq rfl
theorem VZ (j v n : Nat) : (AV.row j v n).pur hp = (AV.row j v n).Bs hp := eqq rfl
theorem V0 (j v i o : Nat) : (AV.ptr j v i o).pur hp = (AV.ptr j v i o).Bs hp := eqq rfl
theorem RZ (q : IntKind) (n : Int) : (AV.int q n).Bs hp = .int q n := eqq rfl
theorem OY (b : Bool) : (AV.bool b).Bs hp = .bool b := eqq rfl
theorem RV (s : ByteArray) : (AV.str s).Bs hp = .str s := eqq rfl
theorem V6 (es : List AV) : (AV.sl es).Bs hp = .sl es := eqq rfl
theorem RY (cs : List AV) : (AV.obj cs).Bs hp = .obj cs := eqq rfl
theorem OW : AV.Au.Bs hp = .Au := eqq rfl
theorem OX : AV.Dl.Bs hp = .Dl := eqq rfl
theorem V7 (f : FuncId) (cs : List AV) : (AV.fn f cs).Bs hp = .fn f cs := eqq rfl
theorem R0 (cs : List AV) : (AV.agg cs).Bs hp = .agg cs := eqq rfl
def RL (bx : Option Box) (j v n : Nat) : AV :=
 match bx with
 | some b => if b.ver = v ∧ b.frz = true ∧ n ≤ b.es.length then .sl (b.es.take n) else .row j v n
 | none => .row j v n
theorem RW (j v n : Nat) : (AV.row j v n).Bs hp = RL (Aw hp j) j v n := eqq rfl
theorem OR (b : Box) (j v n : Nat) : RL (some b) j v n = if b.ver = v ∧ b.frz = true ∧ n ≤ b.es.length then .sl (b.es.take n) else .row j v n := eqq rfl
theorem OS (j v n : Nat) : RL none j v n = .row j v n := eqq rfl
def Zf (bx : Option Box) (j v i o : Nat) : AV :=
 match bx with
 | some b => if b.ver = v ∧ b.frz = true ∧ i < b.es.length then .obj ((b.es.getD i .top).cells.drop o) else .ptr j v i o
 | none => .ptr j v i o
theorem RX (j v i o : Nat) : (AV.ptr j v i o).Bs hp = Zf (Aw hp j) j v i o := eqq rfl
theorem MA (b : Box) (j v i o : Nat) : Zf (some b) j v i o = if b.ver = v ∧ b.frz = true ∧ i < b.es.length then .obj ((b.es.getD i .top).cells.drop o) else .ptr j v i o := eqq rfl
theorem MB (j v i o : Nat) : Zf none j v i o = .ptr j v i o := eqq rfl
theorem MC (x : AV) : AV.Bs [] x = x := by cases x <;> rfl
theorem Dj (l : List AV) : l.map (AV.Bs []) = l := by
 have : AV.Bs [] = id := funext MC
 rw [this, List.map_id]
theorem Mc (x : AV) : AV.pur [] x = x := by cases x <;> first | rfl | exact congrArg AV.agg (Dj _) | exact congrArg AV.tup (Dj _)
theorem Ly (l : List AV) : l.map (AV.pur []) = l := by
 have : AV.pur [] = id := funext Mc
 rw [this, List.map_id]
theorem RR (x : AV) : AV.BN [] x = x := by cases x <;> first | rfl | exact Mc _ | exact congrArg (AV.fn _) (Dj _) | exact congrArg AV.agg (Dj _) | exact congrArg AV.tup (Dj _)
theorem V5 (f : FuncId) (cs : List AV) : (AV.fn f cs).BN hp = .fn f (cs.map (AV.Bs hp)) := eqq rfl
theorem RT (q : IntKind) (n : Int) : (AV.int q n).BN hp = .int q n := eqq rfl
theorem OV (b : Bool) : (AV.bool b).BN hp = .bool b := eqq rfl
theorem RM (s : ByteArray) : (AV.str s).BN hp = .str s := eqq rfl
theorem V4 (es : List AV) : (AV.sl es).BN hp = .sl es := eqq rfl
theorem RQ (cs : List AV) : (AV.obj cs).BN hp = .obj cs := eqq rfl
theorem OT : AV.Au.BN hp = .Au := eqq rfl
theorem OU : AV.Dl.BN hp = .Dl := eqq rfl
theorem RU (cs : List AV) : (AV.agg cs).BN hp = .agg (cs.map (AV.Bs hp)) := eqq rfl
theorem RN (j v n : Nat) : (AV.row j v n).BN hp = (AV.row j v n).Bs hp := eqq rfl
theorem RO (j v i o : Nat) : (AV.ptr j v i o).BN hp = (AV.ptr j v i o).Bs hp := eqq rfl
theorem PK (cs : List AV) : (AV.agg cs).cells = cs := eqq rfl
theorem Wh (q : IntKind) (n : Int) : AV.one (.int q n) = true := eqq rfl
theorem ok_int (q : IntKind) (n : Int) : AV.ok (.int q n) = true := eqq rfl
theorem PJ (q : IntKind) (n : Int) : AV.cells (.int q n) = [.int q n] := eqq rfl
theorem Rl (q : IntKind) (n : Int) (x : AV) : AV.EG (.int q n) 0 [x] = x := eqq rfl
theorem Sa (b : Bool) : AV.one (.bool b) = true := eqq rfl
theorem Wm (b : Bool) : AV.ok (.bool b) = true := eqq rfl
theorem NI (b : Bool) : AV.cells (.bool b) = [.bool b] := eqq rfl
theorem OE (b : Bool) (x : AV) : AV.EG (.bool b) 0 [x] = x := eqq rfl
theorem Wd (s : ByteArray) : AV.one (.str s) = true := eqq rfl
theorem Zs (s : ByteArray) : AV.ok (.str s) = true := eqq rfl
theorem PF (s : ByteArray) : AV.cells (.str s) = [.str s] := eqq rfl
theorem Rh (s : ByteArray) (x : AV) : AV.EG (.str s) 0 [x] = x := eqq rfl
theorem Zq (es : List AV) : AV.one (.sl es) = true := eqq rfl
theorem AbE (es : List AV) : AV.ok (.sl es) = true := eqq rfl
theorem Tg (es : List AV) : AV.cells (.sl es) = [.sl es] := eqq rfl
theorem VH (es : List AV) (x : AV) : AV.EG (.sl es) 0 [x] = x := eqq rfl
theorem Wg (cs : List AV) : AV.one (.obj cs) = true := eqq rfl
theorem Zv (cs : List AV) : AV.ok (.obj cs) = true := eqq rfl
theorem PI (cs : List AV) : AV.cells (.obj cs) = [.obj cs] := eqq rfl
theorem Rk (cs : List AV) (x : AV) : AV.EG (.obj cs) 0 [x] = x := eqq rfl
theorem R7  : AV.one (.Au) = true := eqq rfl
theorem Wj  : AV.ok (.Au) = true := eqq rfl
theorem NF  : AV.cells (.Au) = [.Au] := eqq rfl
theorem OB  (x : AV) : AV.EG (.Au) 0 [x] = x := eqq rfl
theorem R8  : AV.one (.Dl) = true := eqq rfl
theorem Wk  : AV.ok (.Dl) = true := eqq rfl
theorem NG  : AV.cells (.Dl) = [.Dl] := eqq rfl
theorem OC  (x : AV) : AV.EG (.Dl) 0 [x] = x := eqq rfl
theorem R9  : AV.one (.Hf) = true := eqq rfl
theorem Wl  : AV.ok (.Hf) = true := eqq rfl
theorem NH  : AV.cells (.Hf) = [.Hf] := eqq rfl
theorem OD  (x : AV) : AV.EG (.Hf) 0 [x] = x := eqq rfl
theorem Zr (f : FuncId) (cs : List AV) : AV.one (.fn f cs) = true := eqq rfl
theorem AbF (f : FuncId) (cs : List AV) : AV.ok (.fn f cs) = true := eqq rfl
theorem Th (f : FuncId) (cs : List AV) : AV.cells (.fn f cs) = [.fn f cs] := eqq rfl
theorem VI (f : FuncId) (cs : List AV) (x : AV) : AV.EG (.fn f cs) 0 [x] = x := eqq rfl
theorem We (j v n : Nat) : AV.one (.row j v n) = true := eqq rfl
theorem Zt (j v n : Nat) : AV.ok (.row j v n) = true := eqq rfl
theorem PG (j v n : Nat) : AV.cells (.row j v n) = [.row j v n] := eqq rfl
theorem Ri (j v n : Nat) (x : AV) : AV.EG (.row j v n) 0 [x] = x := eqq rfl
theorem Wf (j v i o : Nat) : AV.one (.ptr j v i o) = true := eqq rfl
theorem Zu (j v i o : Nat) : AV.ok (.ptr j v i o) = true := eqq rfl
theorem PH (j v i o : Nat) : AV.cells (.ptr j v i o) = [.ptr j v i o] := eqq rfl
theorem Rj (j v i o : Nat) (x : AV) : AV.EG (.ptr j v i o) 0 [x] = x := eqq rfl
theorem Zw (cs : List AV) : AV.ok (.agg cs) = true := eqq rfl
theorem Rm (cs : List AV) (o : Nat) (xs : List AV) : AV.EG (.agg cs) o xs = .agg (lay cs o xs) := eqq rfl
theorem ZL (cs : List AV) (o : Nat) (xs : List AV) : lay cs o xs = cs.take o ++ xs ++ cs.drop (o + xs.length) := eqq rfl
theorem SY (x : AV) : HX hp [x] = x.pur hp := eqq rfl
theorem SX (x y : AV) : HX hp [x, y] = .tup [x.pur hp, y.pur hp] := eqq rfl
theorem Nv (x y z : AV) : HX hp [x, y, z] = .tup [x.pur hp, y.pur hp, z.pur hp] := eqq rfl
theorem Pr : HX hp [] = .tup [] := eqq rfl
theorem WO (n : Int) : inR .i64 n = (-9223372036854775808 ≤ n ∧ n ≤ 9223372036854775807) := eqq rfl
theorem ZT (n : Int) : inR .u8 n = (0 ≤ n ∧ n ≤ 255) := eqq rfl
end

theorem zA.{u} {p : Prop} (α : Sort u) [Nonempty α] : (α → p) ↔ p := forall_const α
theorem zI.{u} (α : Sort u) : (α → True) = True := implies_true α
theorem zN.{u} {α : Sort u} (a b : α) : (a ≠ b) = ¬(a = b) := ne_eq a b
theorem zE.{u} {α : Sort u} {p : α → Prop} {a' : α} : (∀ a, a = a' → p a) ↔ p a' := forall_eq
theorem SD : type_of% (And.intro (And.intro (And.intro (And.intro (And.intro (And.intro @Tz @NM) (And.intro @TC (And.intro @TE @Xg))) (And.intro (And.intro @MM @MN) (And.intro @ML (And.intro @brt @brf)))) (And.intro (And.intro (And.intro @bnt @bnf) (And.intro @pkt (And.intro @pkf @TD))) (And.intro (And.intro @PQ (And.intro @Kk @Ki)) (And.intro @Kl (And.intro @Kj @TB))))) (And.intro (And.intro (And.intro (And.intro @PO @Kg) (And.intro @Kf (And.intro @Kh @Xh))) (And.intro (And.intro @Lv (And.intro @Lw @Lu)) (And.intro @Hv (And.intro @Km @TA)))) (And.intro (And.intro (And.intro @ON @Mw) (And.intro @Ik (And.intro @Lx @Wc))) (And.intro (And.intro @Wb (And.intro @R6 @O5)) (And.intro @MO (And.intro @AcD @AcF)))))) (And.intro (And.intro (And.intro (And.intro (And.intro @AcE @W0) (And.intro @WZ (And.intro @WS @WR))) (And.intro (And.intro @SG (And.intro @VN @Ro)) (And.intro @VS (And.intro @Rv @Y0)))) (And.intro (And.intro (And.intro @Rt @Ru) (And.intro @OP (And.intro @OI @Rq))) (And.intro (And.intro @OG (And.intro @OL @VP)) (And.intro @OK (And.intro @Mv @Rn))))) (And.intro (And.intro (And.intro (And.intro @VO @Rr) (And.intro @Lr (And.intro @Ms @OJ))) (And.intro (And.intro @Rp (And.intro @Rs @OO)) (And.intro @OM (And.intro @Y1 @OH)))) (And.intro (And.intro (And.intro @VJ @Rw) (And.intro @VL (And.intro @VK @Mx))) (And.intro (And.intro @Ry (And.intro @Y2 @VT)) (And.intro @Rx (And.intro @VM @VQ))))))) := (And.intro (And.intro (And.intro (And.intro (And.intro (And.intro @Tz @NM) (And.intro @TC (And.intro @TE @Xg))) (And.intro (And.intro @MM @MN) (And.intro @ML (And.intro @brt @brf)))) (And.intro (And.intro (And.intro @bnt @bnf) (And.intro @pkt (And.intro @pkf @TD))) (And.intro (And.intro @PQ (And.intro @Kk @Ki)) (And.intro @Kl (And.intro @Kj @TB))))) (And.intro (And.intro (And.intro (And.intro @PO @Kg) (And.intro @Kf (And.intro @Kh @Xh))) (And.intro (And.intro @Lv (And.intro @Lw @Lu)) (And.intro @Hv (And.intro @Km @TA)))) (And.intro (And.intro (And.intro @ON @Mw) (And.intro @Ik (And.intro @Lx @Wc))) (And.intro (And.intro @Wb (And.intro @R6 @O5)) (And.intro @MO (And.intro @AcD @AcF)))))) (And.intro (And.intro (And.intro (And.intro (And.intro @AcE @W0) (And.intro @WZ (And.intro @WS @WR))) (And.intro (And.intro @SG (And.intro @VN @Ro)) (And.intro @VS (And.intro @Rv @Y0)))) (And.intro (And.intro (And.intro @Rt @Ru) (And.intro @OP (And.intro @OI @Rq))) (And.intro (And.intro @OG (And.intro @OL @VP)) (And.intro @OK (And.intro @Mv @Rn))))) (And.intro (And.intro (And.intro (And.intro @VO @Rr) (And.intro @Lr (And.intro @Ms @OJ))) (And.intro (And.intro @Rp (And.intro @Rs @OO)) (And.intro @OM (And.intro @Y1 @OH)))) (And.intro (And.intro (And.intro @VJ @Rw) (And.intro @VL (And.intro @VK @Mx))) (And.intro (And.intro @Ry (And.intro @Y2 @VT)) (And.intro @Rx (And.intro @VM @VQ)))))))
theorem SU0 : type_of% (And.intro (And.intro (And.intro (And.intro (And.intro (And.intro (And.intro @Ac1 (And.intro @AaD @AaC)) (And.intro (And.intro @Uh @AbO) (And.intro @XC @XB))) (And.intro (And.intro (And.intro @XD @Qa) (And.intro @Aab @Aad)) (And.intro (And.intro @Zj @NY) (And.intro @Nn @Po)))) (And.intro (And.intro (And.intro (And.intro @Nf @LI) (And.intro @Nm @FD)) (And.intro (And.intro @WT @Nh) (And.intro @Ni @SP))) (And.intro (And.intro (And.intro @Pp @SF) (And.intro @K3 @SE)) (And.intro (And.intro @Pg @Nb) (And.intro @Nc @Ph))))) (And.intro (And.intro (And.intro (And.intro @JN (And.intro @LV @LS)) (And.intro (And.intro @KK @NV) (And.intro @VC @Tu))) (And.intro (And.intro (And.intro @Tq @Tt) (And.intro @Ts @Tr)) (And.intro (And.intro @TX @TW) (And.intro @P4 @TU)))) (And.intro (And.intro (And.intro (And.intro @Xv @TV) (And.intro @P0 @P3)) (And.intro (And.intro @Xw @P8) (And.intro @P7 @N3))) (And.intro (And.intro (And.intro @LX @LZ) (And.intro @LY @Xt)) (And.intro (And.intro @PX @NZ) (And.intro @TM @TL)))))) (And.intro (And.intro (And.intro (And.intro (And.intro @J6 (And.intro @Ln @Lo)) (And.intro (And.intro @Lp @Mp) (And.intro @Mq @J7))) (And.intro (And.intro (And.intro @Lq @Pw) (And.intro @NA @Pz)) (And.intro (And.intro @Py @O0) (And.intro @MG @O1)))) (And.intro (And.intro (And.intro (And.intro @OZ @MH) (And.intro @SN @Xq)) (And.intro (And.intro @NP @TF) (And.intro @PW @ZC))) (And.intro (And.intro (And.intro @PV @VU) (And.intro @Ti @O2)) (And.intro (And.intro @Tx @Xf) (And.intro @W8 @Tw))))) (And.intro (And.intro (And.intro (And.intro @Xe (And.intro @Xd @Xc)) (And.intro (And.intro @Xb @Xa) (And.intro @W9 @Tv))) (And.intro (And.intro (And.intro @Nt @SV) (And.intro @SW @Pq)) (And.intro (And.intro @SS @WN) (And.intro @WB @WG)))) (And.intro (And.intro (And.intro (And.intro @WD @WC) (And.intro @WM @WE)) (And.intro (And.intro @WH @WJ) (And.intro @WK @WL))) (And.intro (And.intro (And.intro @VG @VF) (And.intro @VD @VE)) (And.intro (And.intro @To @Tn) (And.intro @YT @YU))))))) (And.intro (And.intro (And.intro (And.intro (And.intro (And.intro @Sj (And.intro @Si @MY)) (And.intro (And.intro @O4 @MI) (And.intro @Ox @Ll))) (And.intro (And.intro (And.intro @Pt @Ps) (And.intro @WY @SC)) (And.intro (And.intro @Pf @LG) (And.intro @Rg @Ww)))) (And.intro (And.intro (And.intro (And.intro @ZJ @Wx) (And.intro @Sl @Td)) (And.intro (And.intro @LM @MS) (And.intro @MR @O8))) (And.intro (And.intro (And.intro @VV @Abz) (And.intro @AbA @Pv)) (And.intro (And.intro @Ny @V2) (And.intro @RJ @VY))))) (And.intro (And.intro (And.intro (And.intro @Zc (And.intro @V1 @RH)) (And.intro (And.intro @RI @Ze) (And.intro @V3 @VX))) (And.intro (And.intro (And.intro @VZ @V0) (And.intro @RZ @OY)) (And.intro (And.intro @RV @V6) (And.intro @RY @OW)))) (And.intro (And.intro (And.intro (And.intro @OX @V7) (And.intro @R0 @RW)) (And.intro (And.intro @OR @OS) (And.intro @RX @MA))) (And.intro (And.intro (And.intro @MB @MC) (And.intro @Dj @Mc)) (And.intro (And.intro @Ly @RR) (And.intro @V5 @RT)))))) (And.intro (And.intro (And.intro (And.intro (And.intro @OV (And.intro @RM @V4)) (And.intro (And.intro @RQ @OT) (And.intro @OU @RU))) (And.intro (And.intro (And.intro @RN @RO) (And.intro @PK @Wh)) (And.intro (And.intro @ok_int @PJ) (And.intro @Rl @Sa)))) (And.intro (And.intro (And.intro (And.intro @Wm @NI) (And.intro @OE @Wd)) (And.intro (And.intro @Zs @PF) (And.intro @Rh @Zq))) (And.intro (And.intro (And.intro @AbE @Tg) (And.intro @VH @Wg)) (And.intro (And.intro @Zv @PI) (And.intro @Rk @R7))))) (And.intro (And.intro (And.intro (And.intro (And.intro @Wj @NF) (And.intro @OB @R8)) (And.intro (And.intro @Wk @NG) (And.intro @OC @R9))) (And.intro (And.intro (And.intro @Wl @NH) (And.intro @OD @Zr)) (And.intro (And.intro @AbF @Th) (And.intro @VI @We)))) (And.intro (And.intro (And.intro (And.intro @Zt @PG) (And.intro @Ri @Wf)) (And.intro (And.intro @Zu @PH) (And.intro @Rj @Zw))) (And.intro (And.intro (And.intro @Rm @ZL) (And.intro @SY @SX)) (And.intro (And.intro @Nv @Pr) (And.intro @WO @ZT)))))))) := (And.intro (And.intro (And.intro (And.intro (And.intro (And.intro (And.intro @Ac1 (And.intro @AaD @AaC)) (And.intro (And.intro @Uh @AbO) (And.intro @XC @XB))) (And.intro (And.intro (And.intro @XD @Qa) (And.intro @Aab @Aad)) (And.intro (And.intro @Zj @NY) (And.intro @Nn @Po)))) (And.intro (And.intro (And.intro (And.intro @Nf @LI) (And.intro @Nm @FD)) (And.intro (And.intro @WT @Nh) (And.intro @Ni @SP))) (And.intro (And.intro (And.intro @Pp @SF) (And.intro @K3 @SE)) (And.intro (And.intro @Pg @Nb) (And.intro @Nc @Ph))))) (And.intro (And.intro (And.intro (And.intro @JN (And.intro @LV @LS)) (And.intro (And.intro @KK @NV) (And.intro @VC @Tu))) (And.intro (And.intro (And.intro @Tq @Tt) (And.intro @Ts @Tr)) (And.intro (And.intro @TX @TW) (And.intro @P4 @TU)))) (And.intro (And.intro (And.intro (And.intro @Xv @TV) (And.intro @P0 @P3)) (And.intro (And.intro @Xw @P8) (And.intro @P7 @N3))) (And.intro (And.intro (And.intro @LX @LZ) (And.intro @LY @Xt)) (And.intro (And.intro @PX @NZ) (And.intro @TM @TL)))))) (And.intro (And.intro (And.intro (And.intro (And.intro @J6 (And.intro @Ln @Lo)) (And.intro (And.intro @Lp @Mp) (And.intro @Mq @J7))) (And.intro (And.intro (And.intro @Lq @Pw) (And.intro @NA @Pz)) (And.intro (And.intro @Py @O0) (And.intro @MG @O1)))) (And.intro (And.intro (And.intro (And.intro @OZ @MH) (And.intro @SN @Xq)) (And.intro (And.intro @NP @TF) (And.intro @PW @ZC))) (And.intro (And.intro (And.intro @PV @VU) (And.intro @Ti @O2)) (And.intro (And.intro @Tx @Xf) (And.intro @W8 @Tw))))) (And.intro (And.intro (And.intro (And.intro @Xe (And.intro @Xd @Xc)) (And.intro (And.intro @Xb @Xa) (And.intro @W9 @Tv))) (And.intro (And.intro (And.intro @Nt @SV) (And.intro @SW @Pq)) (And.intro (And.intro @SS @WN) (And.intro @WB @WG)))) (And.intro (And.intro (And.intro (And.intro @WD @WC) (And.intro @WM @WE)) (And.intro (And.intro @WH @WJ) (And.intro @WK @WL))) (And.intro (And.intro (And.intro @VG @VF) (And.intro @VD @VE)) (And.intro (And.intro @To @Tn) (And.intro @YT @YU))))))) (And.intro (And.intro (And.intro (And.intro (And.intro (And.intro @Sj (And.intro @Si @MY)) (And.intro (And.intro @O4 @MI) (And.intro @Ox @Ll))) (And.intro (And.intro (And.intro @Pt @Ps) (And.intro @WY @SC)) (And.intro (And.intro @Pf @LG) (And.intro @Rg @Ww)))) (And.intro (And.intro (And.intro (And.intro @ZJ @Wx) (And.intro @Sl @Td)) (And.intro (And.intro @LM @MS) (And.intro @MR @O8))) (And.intro (And.intro (And.intro @VV @Abz) (And.intro @AbA @Pv)) (And.intro (And.intro @Ny @V2) (And.intro @RJ @VY))))) (And.intro (And.intro (And.intro (And.intro @Zc (And.intro @V1 @RH)) (And.intro (And.intro @RI @Ze) (And.intro @V3 @VX))) (And.intro (And.intro (And.intro @VZ @V0) (And.intro @RZ @OY)) (And.intro (And.intro @RV @V6) (And.intro @RY @OW)))) (And.intro (And.intro (And.intro (And.intro @OX @V7) (And.intro @R0 @RW)) (And.intro (And.intro @OR @OS) (And.intro @RX @MA))) (And.intro (And.intro (And.intro @MB @MC) (And.intro @Dj @Mc)) (And.intro (And.intro @Ly @RR) (And.intro @V5 @RT)))))) (And.intro (And.intro (And.intro (And.intro (And.intro @OV (And.intro @RM @V4)) (And.intro (And.intro @RQ @OT) (And.intro @OU @RU))) (And.intro (And.intro (And.intro @RN @RO) (And.intro @PK @Wh)) (And.intro (And.intro @ok_int @PJ) (And.intro @Rl @Sa)))) (And.intro (And.intro (And.intro (And.intro @Wm @NI) (And.intro @OE @Wd)) (And.intro (And.intro @Zs @PF) (And.intro @Rh @Zq))) (And.intro (And.intro (And.intro @AbE @Tg) (And.intro @VH @Wg)) (And.intro (And.intro @Zv @PI) (And.intro @Rk @R7))))) (And.intro (And.intro (And.intro (And.intro (And.intro @Wj @NF) (And.intro @OB @R8)) (And.intro (And.intro @Wk @NG) (And.intro @OC @R9))) (And.intro (And.intro (And.intro @Wl @NH) (And.intro @OD @Zr)) (And.intro (And.intro @AbF @Th) (And.intro @VI @We)))) (And.intro (And.intro (And.intro (And.intro @Zt @PG) (And.intro @Ri @Wf)) (And.intro (And.intro @Zu @PH) (And.intro @Rj @Zw))) (And.intro (And.intro (And.intro @Rm @ZL) (And.intro @SY @SX)) (And.intro (And.intro @Nv @Pr) (And.intro @WO @ZT))))))))
theorem SB : type_of% (And.intro (And.intro (And.intro (And.intro (And.intro (And.intro @List.map_cons.{0,0} @List.map_nil.{0,0}) (And.intro @List.drop_succ_cons.{0} @List.drop_zero.{0})) (And.intro (And.intro @List.take_succ_cons.{0} @List.take_zero.{0}) (And.intro @List.take_nil.{0} @List.drop_nil.{0}))) (And.intro (And.intro (And.intro @List.getD_cons_zero.{0} @List.getD_cons_succ.{0}) (And.intro @List.length_cons.{0} @List.length_nil.{0})) (And.intro (And.intro @List.cons_append.{0} @List.nil_append.{0}) (And.intro @List.append_nil.{0} (And.intro @List.replicate_succ.{0} @List.replicate_zero.{0}))))) (And.intro (And.intro (And.intro (And.intro @List.set_cons_zero.{0} @List.set_cons_succ.{0}) (And.intro @Option.map_some.{0,0} @Option.map_none.{0,0})) (And.intro (And.intro @Nat.add_zero @Nat.zero_add) (And.intro @decide_eq_true_eq (And.intro @decide_eq_false_iff_not @Bool.not_eq_true')))) (And.intro (And.intro (And.intro @Bool.not_eq_false' @Bool.not_true) (And.intro @Bool.not_false @true_and)) (And.intro (And.intro @and_true @not_false_eq_true) (And.intro @not_true_eq_false (And.intro @Int.toNat_natCast @Nat.lt_add_one)))))) (And.intro (And.intro (And.intro (And.intro (And.intro @Bool.decide_eq_true @Bool.true_eq_false) (And.intro @Bool.false_eq_true @false_implies)) (And.intro (And.intro @true_implies @List.mem_cons.{0}) (And.intro @List.not_mem_nil.{0} @or_false))) (And.intro (And.intro (And.intro @Int.ofNat_lt @Int.ofNat_le) (And.intro @Int.natCast_inj @Int.natCast_zero)) (And.intro (And.intro @Int.natCast_one @Int.cast_ofNat_Int) (And.intro @Int.natCast_nonneg (And.intro @Nat.zero_le @Nat.le_refl))))) (And.intro (And.intro (And.intro (And.intro @List.contains_nil.{0} @List.contains_cons.{0}) (And.intro @Bool.or_false @Bool.or_true)) (And.intro (And.intro @Bool.false_or @Bool.true_or) (And.intro @decide_true (And.intro @decide_false @Bool.false_and)))) (And.intro (And.intro (And.intro @Bool.true_and @Bool.and_true) (And.intro @Bool.and_false @zA.{0})) (And.intro (And.intro @zA.{1} @zI.{0}) (And.intro @zI.{1} (And.intro @zN.{1} @zE.{1}))))))) := (And.intro (And.intro (And.intro (And.intro (And.intro (And.intro @List.map_cons.{0,0} @List.map_nil.{0,0}) (And.intro @List.drop_succ_cons.{0} @List.drop_zero.{0})) (And.intro (And.intro @List.take_succ_cons.{0} @List.take_zero.{0}) (And.intro @List.take_nil.{0} @List.drop_nil.{0}))) (And.intro (And.intro (And.intro @List.getD_cons_zero.{0} @List.getD_cons_succ.{0}) (And.intro @List.length_cons.{0} @List.length_nil.{0})) (And.intro (And.intro @List.cons_append.{0} @List.nil_append.{0}) (And.intro @List.append_nil.{0} (And.intro @List.replicate_succ.{0} @List.replicate_zero.{0}))))) (And.intro (And.intro (And.intro (And.intro @List.set_cons_zero.{0} @List.set_cons_succ.{0}) (And.intro @Option.map_some.{0,0} @Option.map_none.{0,0})) (And.intro (And.intro @Nat.add_zero @Nat.zero_add) (And.intro @decide_eq_true_eq (And.intro @decide_eq_false_iff_not @Bool.not_eq_true')))) (And.intro (And.intro (And.intro @Bool.not_eq_false' @Bool.not_true) (And.intro @Bool.not_false @true_and)) (And.intro (And.intro @and_true @not_false_eq_true) (And.intro @not_true_eq_false (And.intro @Int.toNat_natCast @Nat.lt_add_one)))))) (And.intro (And.intro (And.intro (And.intro (And.intro @Bool.decide_eq_true @Bool.true_eq_false) (And.intro @Bool.false_eq_true @false_implies)) (And.intro (And.intro @true_implies @List.mem_cons.{0}) (And.intro @List.not_mem_nil.{0} @or_false))) (And.intro (And.intro (And.intro @Int.ofNat_lt @Int.ofNat_le) (And.intro @Int.natCast_inj @Int.natCast_zero)) (And.intro (And.intro @Int.natCast_one @Int.cast_ofNat_Int) (And.intro @Int.natCast_nonneg (And.intro @Nat.zero_le @Nat.le_refl))))) (And.intro (And.intro (And.intro (And.intro @List.contains_nil.{0} @List.contains_cons.{0}) (And.intro @Bool.or_false @Bool.or_true)) (And.intro (And.intro @Bool.false_or @Bool.true_or) (And.intro @decide_true (And.intro @decide_false @Bool.false_and)))) (And.intro (And.intro (And.intro @Bool.true_and @Bool.and_true) (And.intro @Bool.and_false @zA.{0})) (And.intro (And.intro @zA.{1} @zI.{0}) (And.intro @zI.{1} (And.intro @zN.{1} @zE.{1})))))))

theorem SU : type_of% (And.intro SU0 SB) := And.intro SU0 SB
end Go.Proofs.YteeiaaogmjbcjaaGreat.Av
