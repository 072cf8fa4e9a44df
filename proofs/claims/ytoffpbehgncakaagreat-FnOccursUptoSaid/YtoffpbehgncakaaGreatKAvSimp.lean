/-
 THE RULES BY WHICH AN ABSTRACT TEXT IS CARRIED OUT: for simp. Conditions: none.
-/
import Derived.Test.YtoffpbehgncakaaGreatKAvDraw
set_option linter.unusedVariables false
namespace Go.Proofs.YtoffpbehgncakaaGreat.Av
open Go.RowKit

theorem eqq {α : Sort _} {a b : α} (h : a = b) : a = b := h
structure C5 {α : Type} (a : α) : Type where
 mk ::
def Bd {α : Type} (m : (α → Prop) → Prop) (k : α → Prop) (h : C5 k) : Prop := m k
def Bd2 (m : (AV → Hp → Prop) → Prop) (k : AV → Hp → Prop) (h : C5 k) : Prop := m k
theorem Acs {α : Type} (v : α) (K : α → Prop) (h : C5 K) : Bd (fun k => k v) K h = K v := eqq rfl
theorem Aak {α : Type} (A B : (α → Prop) → Prop) (K : α → Prop) (h : C5 K) : Bd (fun k => A k ∧ B k) K h = (Bd A K h ∧ Bd B K h) := eqq rfl
theorem Aaj {α : Type} (c : Prop) (B : (α → Prop) → Prop) (K : α → Prop) (h : C5 K) : Bd (fun k => c → B k) K h = (c → Bd B K h) := eqq rfl
theorem Um {α : Type} (c : Prop) (K : α → Prop) (h : C5 K) : Bd (fun _ => c) K h = c := eqq rfl
theorem Abl (v : AV) (hp : Hp) (K : AV → Hp → Prop) (h : C5 K) : Bd2 (fun k => k v hp) K h = K v hp := eqq rfl
theorem XA (A B : (AV → Hp → Prop) → Prop) (K : AV → Hp → Prop) (h : C5 K) : Bd2 (fun k => A k ∧ B k) K h = (Bd2 A K h ∧ Bd2 B K h) := eqq rfl
theorem Xz (c : Prop) (B : (AV → Hp → Prop) → Prop) (K : AV → Hp → Prop) (h : C5 K) : Bd2 (fun k => c → B k) K h = (c → Bd2 B K h) := eqq rfl
theorem XB {β : Type} (B : β → (AV → Hp → Prop) → Prop) (K : AV → Hp → Prop) (h : C5 K) : Bd2 (fun k => ∀ v, B v k) K h = ∀ v, Bd2 (B v) K h := eqq rfl
theorem Qj (c : Prop) (K : AV → Hp → Prop) (h : C5 K) : Bd2 (fun _ => c) K h = c := eqq rfl

section
variable (P : Program) (Q : Exit → St → Prop) (fr : List (Nat × AV)) (hp : Hp) (K : AV → Hp → Prop) (k : AV → Prop)

theorem TF (s : St) : awp P .skip Q s = Q .normal s := eqq rfl
theorem NL (l : List BM) (s : St) : awp P (.region l) Q s = Bv P (Q .normal) l s := eqq rfl
theorem TI (l : List BM) (s : St) : awp P (.draw l) Q s = Bv P (Q .normal) l s := eqq rfl
theorem TK (a b : BE) (s : St) : awp P (.both a b) Q s = (awp P a Q s ∧ awp P b Q s) := eqq rfl
def Aa4 (P : Program) (b : BE) (Q : Exit → St → Prop) : Exit → St → Prop := fun e s' => match e with | .normal => awp P b Q s' | e => Q e s'
theorem Xl (a b : BE) (s : St) : awp P (.seq a b) Q s = awp P a (Aa4 P b Q) s := eqq rfl
theorem MK (b : BE) (s : St) : Aa4 P b Q .normal s = awp P b Q s := eqq rfl
theorem ML (b : BE) (i : Nat) (s : St) : Aa4 P b Q (.exit i) s = Q (.exit i) s := eqq rfl
theorem MJ (b : BE) (s : St) : Aa4 P b Q .ret s = Q .ret s := eqq rfl
def Br (b : Bool) (A B : Prop) (h : C5 A) (h' : C5 B) : Prop := (b = true → A) ∧ (b = false → B)
theorem brt (A B : Prop) (h : C5 A) (h' : C5 B) : Br true A B h h' = A := propext ⟨fun x => x.1 (eqq rfl), fun x => ⟨fun _ => x, fun e => by cases e⟩⟩
theorem brf (A B : Prop) (h : C5 A) (h' : C5 B) : Br false A B h h' = B := propext ⟨fun x => x.2 (eqq rfl), fun x => ⟨fun e => (by cases e), fun _ => x⟩⟩
theorem ZT (b : Bool) (A B : Prop) (h : C5 A) (h' : C5 B) : Br b A B h h' = ((b = true → A) ∧ (b = false → B)) := eqq rfl
def Bn (b : Bool) (A B : Prop) (h : C5 A) (h' : C5 B) : Prop := (b = false → A) ∧ (b = true → B)
theorem bnt (A B : Prop) (h : C5 A) (h' : C5 B) : Bn true A B h h' = B := propext ⟨fun x => x.2 (eqq rfl), fun x => ⟨fun e => (by cases e), fun _ => x⟩⟩
theorem bnf (A B : Prop) (h : C5 A) (h' : C5 B) : Bn false A B h h' = A := propext ⟨fun x => x.1 (eqq rfl), fun x => ⟨fun _ => x, fun e => by cases e⟩⟩
theorem ZU (b : Bool) (A B : Prop) (h : C5 A) (h' : C5 B) : Bn b A B h h' = ((b = false → A) ∧ (b = true → B)) := eqq rfl
def Pk (t : Bool) (a b : AV) (k : AV → Prop) : Prop := (t = true → k a) ∧ (t = false → k b)
theorem pkt (a b : AV) (k : AV → Prop) : Pk true a b k = k a := propext ⟨fun x => x.1 (eqq rfl), fun x => ⟨fun _ => x, fun e => by cases e⟩⟩
theorem pkf (a b : AV) (k : AV → Prop) : Pk false a b k = k b := propext ⟨fun x => x.2 (eqq rfl), fun x => ⟨fun e => (by cases e), fun _ => x⟩⟩
theorem Y0 (t : Bool) (a b : AV) (k : AV → Prop) : Pk t a b k = ((t = true → k a) ∧ (t = false → k b)) := eqq rfl
def Abh (x : AV) (A B : Prop) (h : C5 A) (h' : C5 B) : Prop :=
 match x with
 | .bool t => (t = true → A) ∧ (t = false → B)
 | _ => False
theorem TJ (c : AF) (a b : BE) (s : St) : awp P (.cond c a b) Q s = Abh (c.ev (Bf s.fr)) (awp P a Q s) (awp P b Q s) ⟨⟩ ⟨⟩ := eqq rfl
theorem NV (t : Bool) (A B : Prop) (h : C5 A) (h' : C5 B) : Abh (.bool t) A B h h' = Br t A B h h' := eqq rfl
def J3 (id : Nat) (Q : Exit → St → Prop) : Exit → St → Prop := fun e s' => match e with | .exit id' => if id' = id then Q .normal s' else Q (.exit id') s' | e => Q e s'
theorem P1 (id : Nat) (a : BE) (s : St) : awp P (.block id a) Q s = awp P a (J3 id Q) s := eqq rfl
theorem Kl (id : Nat) (s : St) : J3 id Q .normal s = Q .normal s := eqq rfl
theorem Kj (id : Nat) (s : St) : J3 id Q .ret s = Q .ret s := eqq rfl
theorem Km (id : Nat) (s : St) : J3 id Q (.exit id) s = Q .normal s := by simp [J3]
theorem Kk {i id : Nat} (h : (i == id) = false) (s : St) : J3 id Q (.exit i) s = Q (.exit i) s := by simp [J3, beq_eq_false_iff_ne.1 h]
theorem TH (id : Nat) (s : St) : awp P (.exit id) Q s = Q (.exit id) s := eqq rfl
def Q5 (Q : Exit → St → Prop) : Exit → St → Prop := fun e s' => match e with | .goto _ => False | e => Q e s'
theorem P0 (a : BE) (s : St) : awp P (.scope a) Q s = awp P a (Q5 Q) s := eqq rfl
theorem Kh (s : St) : Q5 Q .normal s = Q .normal s := eqq rfl
theorem Kg (s : St) : Q5 Q .ret s = Q .ret s := eqq rfl
theorem Ki (i : Nat) (s : St) : Q5 Q (.exit i) s = Q (.exit i) s := eqq rfl
theorem Xm : awp P .ret Q ⟨fr, hp⟩ = Bd (fun k => k (JV hp)) (fun hp => Q .ret ⟨fr, hp⟩) ⟨⟩ := eqq rfl
theorem Nk : JV [] = [] := eqq rfl
theorem Py (hp : Hp) : JV hp = BK (EC hp) (BK (EC hp) hp) := eqq rfl
theorem Nc : EC [] = [] := eqq rfl
theorem LL (j : Nat) (b : Box) (r : Hp) : EC ((j, b) :: r) = if (EC r).contains j then EC r else j :: EC r := eqq rfl
theorem Nj (hp : Hp) : BK [] hp = hp := eqq rfl
theorem FI (j : Nat) (r : List Nat) (hp : Hp) : BK (j :: r) hp = BK r (Dr hp j) := eqq rfl
def ZC (bx : Option Box) (hp : Hp) (j : Nat) : Hp :=
 match bx with
 | some b => (j, { b with frz := true, es := b.es.map (AV.pur hp) }) :: hp
 | none => hp
theorem WU (hp : Hp) (j : Nat) : Dr hp j = ZC (Ay hp j) hp j := eqq rfl
theorem Nd (ver : Nat) (z : Bool) (ty : TypeId) (esz : Nat) (es : List AV) (hp : Hp) (j : Nat) : ZC (some ⟨ver, z, ty, esz, es⟩) hp j = (j, ⟨ver, true, ty, esz, es.map (AV.pur hp)⟩) :: hp := eqq rfl
theorem Nf (hp : Hp) (j : Nat) : ZC none hp j = hp := eqq rfl
/-! loops -/
def Ug {X : Type} (I : X → St) (pre : X → Prop) (m : X → Nat) (x : X) (Q : Exit → St → Prop) : Exit → St → Prop := fun e s' => match e with | .normal => Ai s' (fun t => ∃ x', (pre x' ∧ m x' < m x) ∧ t = I x') | e => Q e s'
theorem Lz {X : Type} (I : X → St) (pre : X → Prop) (m : X → Nat) (x : X) (s : St) : Ug I pre m x Q .normal s = Ai s (fun t => ∃ x', (pre x' ∧ m x' < m x) ∧ t = I x') := eqq rfl
theorem LA {X : Type} (I : X → St) (pre : X → Prop) (m : X → Nat) (x : X) (i : Nat) (s : St) : Ug I pre m x Q (.exit i) s = Q (.exit i) s := eqq rfl
theorem Ly {X : Type} (I : X → St) (pre : X → Prop) (m : X → Nat) (x : X) (s : St) : Ug I pre m x Q .ret s = Q .ret s := eqq rfl
theorem AB {P : Program} {Q : Exit → St → Prop} {a : BE} {s : St} {X : Type} (I : X → St) (pre : X → Prop) (m : X → Nat) (x0 : X) (h0 : pre x0) (h1 : Oq s.fr (I x0).fr) (h2 : Bt s.hp (I x0).hp) (hr : ∀ x, pre x → awp P a (Ug I pre m x Q) (I x)) : awp P (.loop a) Q s :=
 ⟨X, I, pre, m, Ai.le ⟨x0, h0, rfl⟩ h1 h2, hr⟩
theorem C0 {P : Program} {Q : Exit → St → Prop} {a : BE} {s : St} {X : Type} (I : X → St) (pre : X → Prop) (m : X → Nat) (h0 : Ai s (fun t => ∃ x, pre x ∧ t = I x)) (hr : ∀ x, pre x → awp P a (Ug I pre m x Q) (I x)) : awp P (.loop a) Q s :=
 ⟨X, I, pre, m, h0, hr⟩
theorem BQ {P : Program} {Q : Exit → St → Prop} {a : BE} {s : St} (h : Ai s (fun t => awp P a Q t)) : awp P (.ghost a) Q s := h
theorem Ai.here {s : St} {T : St → Prop} (h : T s) : Ai s T := ⟨fun _ _ a w hr => ⟨s, h, hr⟩⟩
theorem SZ (s : List (Nat × AV)) : Oq s [] = True := eqq rfl
theorem Pz (s : List (Nat × AV)) (i : Nat) (x : AV) (r : List (Nat × AV)) : Oq s ((i, x) :: r) = (Bf s i = x ∧ Oq s r) := eqq rfl
theorem SM (s : Hp) : Bt s [] = True := eqq rfl
theorem Lc (s : Hp) (i : Nat) (x : Box) (r : Hp) : Bt s ((i, x) :: r) = (Ay s i = some x ∧ Bt s r) := eqq rfl
/-! a function that is handed own rows -/
def KU (rs : List En) (Post : AV → Hp → Prop) (t : St) : Prop := BS t.hp (Bf t.fr) rs fun xs => ∃ hp', Bt t.hp hp' ∧ Post (Ia t.hp xs) hp'
theorem Hw (rs : List En) (Post : AV → Hp → Prop) (s : St) : Aag rs Post .normal s = Ai s (KU rs Post) := eqq rfl
theorem Ko (rs : List En) (Post : AV → Hp → Prop) (s : St) : Aag rs Post .ret s = Ai s (KU rs Post) := eqq rfl
theorem Ai.post {rs : List En} {Post : AV → Hp → Prop} {s : St} (hp' : Hp) (h : BS s.hp (Bf s.fr) rs fun xs => Bt s.hp hp' ∧ Post (Ia s.hp xs) hp') : Ai s (KU rs Post) := by
 refine Ai.here ?_
 have : ∀ {l : List En} {K K' : List AV → Prop}, (∀ ys, K ys → K' ys) → BS s.hp (Bf s.fr) l K → BS s.hp (Bf s.fr) l K' := by
  intro l
  induction l with
  | nil => intro K K' hk h; exact hk _ h
  | cons r l ih =>
   intro K K' hk h
   unfold BS at h ⊢
   cases r with
   | t i => exact ih (fun ys hy => hk _ hy) h
   | c g n i =>
    simp only [Aci, EF] at h ⊢
    split at h
    ·unfold EN at h ⊢; cases g <;> exact ⟨h.1, ih (fun ys hy => hk _ hy) h.2⟩
    ·split at h
     ·refine ⟨h.1, ?_⟩; have h := h.2; unfold EN at h ⊢; cases g <;> exact ⟨h.1, ih (fun ys hy => hk _ hy) h.2⟩
     ·exact h
    ·exact h
 exact this (fun ys hy => ⟨hp', hy⟩) h
theorem TG (s : St) : awp P .GL Q s = Q .ret s := eqq rfl
theorem SL (hp : Hp) : IX [] hp = [] := eqq rfl
def WR (bx : Option Box) (j : Nat) (r : Hp) : Hp :=
 match bx with
 | some b => (j, b) :: r
 | none => r
theorem Pq (j : Nat) (r : List Nat) (hp : Hp) : IX (j :: r) hp = WR (Ay hp j) j (IX r hp) := by
 unfold IX WR; rw [List.filterMap_cons]; cases Ay hp j <;> rfl
theorem Na (b : Box) (j : Nat) (r : Hp) : WR (some b) j r = (j, b) :: r := eqq rfl
theorem Nb (j : Nat) (r : Hp) : WR none j r = r := eqq rfl
theorem Pr (hs : List Nat) : BU hs [] = [] := eqq rfl
theorem JU (hs : List Nat) (j : Nat) (b : Box) (r : Hp) : BU hs ((j, b) :: r) = if hs.contains j then BU hs r else (j, b) :: BU hs r := by
 unfold BU; rw [List.filter_cons]; cases hs.contains j <;> rfl
def Mg (P : Program) (f : FuncId) (args : List AV) (hp : Hp) (k : AV → Hp → Prop) : Prop := NZ P f args hp k
theorem Ad {P : Program} {f : FuncId} {args : List AV} {hp hp0 : Hp} {k : AV → Hp → Prop} {Post : AV → Hp → Prop} (hs : List Nat) (h : AW P f args hp0 Post) {kp : C5 k} (he : IX hs hp = hp0) (hk : ∀ r hp', Post r hp' → k r (hp' ++ BU hs hp)) : Bd2 (fun k => Mg P f args hp k) k kp := ⟨hs, Post, .inl ⟨by rw [he]; exact h, hk⟩⟩
theorem OV (F : Nat → AV) (f : FuncId) (as : List AF) : (IOp.Bc f as).sem P F hp K = Bd2 (fun k => Mg P f (as.map fun x => (x.ev F).BW hp) hp k) K ⟨⟩ := eqq rfl
def T0 (P : Program) (x : AV) (args : List AV) (hp : Hp) (k : AV → Hp → Prop) : Prop := KO P x args hp k
theorem My (F : Nat → AV) (f : AF) (as : List AF) : (IOp.JZ f as).sem P F hp K = Bd2 (fun k => T0 P ((f.ev F).BW hp) (as.map fun x => (x.ev F).BW hp) hp k) K ⟨⟩ := eqq rfl
theorem L0 (f : FuncId) (caps args : List AV) : T0 P (.fn f caps) args hp K = Mg P f (args ++ caps) hp K := eqq rfl
theorem Ip (rs : List En) (res : AV) (s : St) : Ret rs res .normal s = BS s.hp (Bf s.fr) rs fun xs => Ia s.hp xs = res := eqq rfl
theorem LB (rs : List En) (res : AV) (s : St) : Ret rs res .ret s = BS s.hp (Bf s.fr) rs fun xs => Ia s.hp xs = res := eqq rfl

theorem Wc (R : St → Prop) (s : St) : Bv P R [] s = R s := eqq rfl
theorem Wb (R : St → Prop) (d : Nat) (op : IOp) (l : List BM) : Bv P R (⟨some d, none, op⟩ :: l) ⟨fr, hp⟩ = op.sem P (Bf fr) hp fun v hp => Bv P R l ⟨(d, v) :: fr, hp⟩ := eqq rfl
theorem R6 (R : St → Prop) (op : IOp) (l : List BM) : Bv P R (⟨none, none, op⟩ :: l) ⟨fr, hp⟩ = op.sem P (Bf fr) hp fun v hp => Bv P R l ⟨fr, hp⟩ := eqq rfl
def NT (x : AV) (want : Bool) (A B : Prop) (h : C5 A) (h' : C5 B) : Prop :=
 match x with
 | .bool b => (b = want → A) ∧ (b = (!want) → B)
 | .tup _ => B
 | _ => False
theorem Pf (R : St → Prop) (d t : Nat) (want : Bool) (op : IOp) (l : List BM) : Bv P R (⟨some d, some (t, want), op⟩ :: l) ⟨fr, hp⟩ = NT (Bf fr t) want (op.sem P (Bf fr) hp fun v hp => Bv P R l ⟨(d, v) :: fr, hp⟩) (Bv P R l ⟨(d, .tup []) :: fr, hp⟩) ⟨⟩ ⟨⟩ := eqq rfl
theorem MM (R : St → Prop) (t : Nat) (want : Bool) (op : IOp) (l : List BM) : Bv P R (⟨none, some (t, want), op⟩ :: l) ⟨fr, hp⟩ = NT (Bf fr t) want (op.sem P (Bf fr) hp fun v hp => Bv P R l ⟨fr, hp⟩) (Bv P R l ⟨fr, hp⟩) ⟨⟩ ⟨⟩ := eqq rfl
theorem LY (b : Bool) (A B : Prop) (h : C5 A) (h' : C5 B) : NT (.bool b) true A B h h' = Br b A B h h' := eqq rfl
theorem KN (b : Bool) (A B : Prop) (h : C5 A) (h' : C5 B) : NT (.bool b) false A B h h' = Bn b A B h h' := eqq rfl
theorem NS (xs : List AV) (want : Bool) (A B : Prop) (h : C5 A) (h' : C5 B) : NT (.tup xs) want A B h h' = B := eqq rfl

theorem Ace (F : Nat → AV) (i : Nat) : AF.ev F (.t i) = F i := eqq rfl
theorem Acg (F : Nat → AV) (x : AV) : AF.ev F (.c x) = x := eqq rfl
theorem Acf (F : Nat → AV) (l : List Nat) : AF.ev F (.s l) = .str (bs l) := eqq rfl
theorem VB : AV.str ⟨⟨[]⟩⟩ = AV.str (bs []) := eqq rfl
theorem W1 (i : Nat) (x : AV) : Bf ((i, x) :: fr) i = x := by simp [Bf]
theorem W0 {i j : Nat} (x : AV) (h : (i == j) = false) : Bf ((i, x) :: fr) j = Bf fr j := by simp [Bf, (beq_eq_false_iff_ne.1 h)]
theorem WT (i : Nat) (x : Box) : Ay ((i, x) :: hp) i = some x := by simp [Ay]
theorem WS {i j : Nat} (x : Box) (h : (i == j) = false) : Ay ((i, x) :: hp) j = Ay hp j := by simp [Ay, (beq_eq_false_iff_ne.1 h)]
theorem SN (i : Nat) : Ay [] i = none := eqq rfl

theorem VO (F : Nat → AV) (x : AF) : (IOp.mov x).sem P F hp K = Bd (fun k => k (x.ev F)) (fun v => K v hp) ⟨⟩ := eqq rfl
theorem Ro (F : Nat → AV) (c a b : AF) : (IOp.pick c a b).sem P F hp K = Bd (fun k => TU (c.ev F) (a.ev F) (b.ev F) k) (fun v => K v hp) ⟨⟩ := eqq rfl
theorem VT (F : Nat → AV) (op : BinOp) (kd : EqK) (x y : AF) : (IOp.bin op kd x y).sem P F hp K = Bd (fun k => FE op kd (x.ev F) (y.ev F) k) (fun v => K v hp) ⟨⟩ := eqq rfl
theorem Rv (F : Nat → AV) (op : BinOp) (x y : AF) : (IOp.AbO op x y).sem P F hp K = Bd (fun k => EO op (x.ev F) (y.ev F) k) (fun v => K v hp) ⟨⟩ := eqq rfl
theorem TB (q : IntKind) (a b : Int) : EO .add (.int q a) (.int q b) k = k (.int q (q.wrap (a + b))) := by simp [EO]
theorem Tw (q : IntKind) (a b : Int) : EO .sub (.int q a) (.int q b) k = k (.int q (q.wrap (a - b))) := by simp [EO]
theorem TA (q : IntKind) (a b : Int) : EO .mul (.int q a) (.int q b) k = k (.int q (q.wrap (a * b))) := by simp [EO]
theorem Tz (q r : IntKind) (a b : Int) : EO .shl (.int q a) (.int r b) k = (0 ≤ b ∧ k (.int q (q.wrap (a * 2 ^ (min b.toNat q.bits))))) := by simp [EO]
theorem Tx (q r : IntKind) (a b : Int) : EO .shr (.int q a) (.int r b) k = ((0 ≤ b ∧ inR q (a.fdiv (2 ^ (min b.toNat q.bits)))) ∧ k (.int q (a.fdiv (2 ^ (min b.toNat q.bits))))) := by simp [EO]
theorem YJ (F : Nat → AV) (op : UnOp) (x : AF) : (IOp.un op x).sem P F hp K = Bd (fun k => aUn op (x.ev F) k) (fun v => K v hp) ⟨⟩ := eqq rfl
def Ho (x : AV) (hp : Hp) (k : AV → Prop) : Prop := x.ok = true ∧ k (.obj (x.pur hp).cells)
theorem Rt (F : Nat → AV) (x : AF) : (IOp.AaZ x).sem P F hp K = Bd (fun k => Ho (x.ev F) hp k) (fun v => K v hp) ⟨⟩ := eqq rfl
theorem Uc (cs : List AV) : Ho (.agg cs) hp k = k (.obj (cs.map (AV.Bu hp))) := by simp [Ho, AV.ok, AV.one, AV.isAgg, AV.pur, AV.cells]
theorem Ub (q : IntKind) (n : Int) : Ho (.int q n) hp k = k (.obj [.int q n]) := by simp [Ho, AV.ok, AV.one, AV.isAgg, AV.pur, AV.Bu, AV.cells]
theorem Qc (b : Bool) : Ho (.bool b) hp k = k (.obj [.bool b]) := by simp [Ho, AV.ok, AV.one, AV.isAgg, AV.pur, AV.Bu, AV.cells]
theorem T7 (s : ByteArray) : Ho (.str s) hp k = k (.obj [.str s]) := by simp [Ho, AV.ok, AV.one, AV.isAgg, AV.pur, AV.Bu, AV.cells]
theorem Xv (es : List AV) : Ho (.sl es) hp k = k (.obj [.sl es]) := by simp [Ho, AV.ok, AV.one, AV.isAgg, AV.pur, AV.Bu, AV.cells]
theorem Ua (cs : List AV) : Ho (.obj cs) hp k = k (.obj [.obj cs]) := by simp [Ho, AV.ok, AV.one, AV.isAgg, AV.pur, AV.Bu, AV.cells]
theorem Qa : Ho .Au hp k = k (.obj [.Au]) := by simp [Ho, AV.ok, AV.one, AV.isAgg, AV.pur, AV.Bu, AV.cells]
theorem Qb : Ho .C9 hp k = k (.obj [.C9]) := by simp [Ho, AV.ok, AV.one, AV.isAgg, AV.pur, AV.Bu, AV.cells]
theorem Xw (f : FuncId) (cs : List AV) : Ho (.fn f cs) hp k = k (.obj [.fn f cs]) := by simp [Ho, AV.ok, AV.one, AV.isAgg, AV.pur, AV.Bu, AV.cells]
def Ud (x : AV) (n j : Nat) (ty : TypeId) (hp : Hp) (K : AV → Hp → Prop) : Prop := (x.ok = true ∧ x.cells.length = n) ∧ ∀ v, K (.ptr j v 0 0) ((j, ⟨v, false, ty, n, [x]⟩) :: hp)
theorem Ru (F : Nat → AV) (j : Nat) (ty : TypeId) (n : Nat) (x : AF) : (IOp.Fk j ty n x).sem P F hp K = Bd2 (fun k => Ud (x.ev F) n j ty hp k) K ⟨⟩ := eqq rfl
theorem Qe (cs : List AV) (n j : Nat) (ty : TypeId) : Ud (.agg cs) n j ty hp K = (cs.length = n ∧ ∀ v, K (.ptr j v 0 0) ((j, ⟨v, false, ty, n, [.agg cs]⟩) :: hp)) := by simp [Ud, AV.ok, AV.one, AV.isAgg, AV.cells]
theorem Qd (x : AV) (h : x.one = true) (n j : Nat) (ty : TypeId) : Ud x n j ty hp K = (1 = n ∧ ∀ v, K (.ptr j v 0 0) ((j, ⟨v, false, ty, n, [x]⟩) :: hp)) := by simp [Ud, AV.ok, h, FJ h]
theorem OX (F : Nat → AV) (z : List AV) (ps : List (Nat × Nat × AF)) : (IOp.build z ps).sem P F hp K = Bd (fun k => F3 F z ps fun cs => k (.agg cs)) (fun v => K v hp) ⟨⟩ := eqq rfl
theorem N0 (F : Nat → AV) (z : List AV) (k : List AV → Prop) : F3 F z [] k = k z := eqq rfl
def KQ (x : AV) (F : Nat → AV) (z : List AV) (off n : Nat) (ps : List (Nat × Nat × AF)) (k : List AV → Prop) : Prop := (x.ok = true ∧ x.cells.length = n ∧ off + n ≤ z.length) ∧ F3 F (lay z off x.cells) ps k
theorem L2 (F : Nat → AV) (z : List AV) (off n : Nat) (x : AF) (ps : List (Nat × Nat × AF)) (k : List AV → Prop) : F3 F z ((off, n, x) :: ps) k = KQ (x.ev F) F z off n ps k := eqq rfl
theorem L4 (cs : List AV) (F : Nat → AV) (z : List AV) (off n : Nat) (ps : List (Nat × Nat × AF)) (k : List AV → Prop) : KQ (.agg cs) F z off n ps k = ((cs.length = n ∧ off + n ≤ z.length) ∧ F3 F (z.take off ++ (cs ++ z.drop (off + cs.length))) ps k) := by simp [KQ, AV.ok, AV.one, AV.isAgg, AV.cells, lay]
theorem L3 (x : AV) (h : x.one = true) (F : Nat → AV) (z : List AV) (off n : Nat) (ps : List (Nat × Nat × AF)) (k : List AV → Prop) : KQ x F z off n ps k = ((1 = n ∧ off + n ≤ z.length) ∧ F3 F (z.take off ++ (x :: z.drop (off + 1))) ps k) := by simp [KQ, AV.ok, h, FJ h, lay]
theorem OQ (F : Nat → AV) (g : Bool) (n : Nat) (a : AF) : (IOp.Sk g n a).sem P F hp K = Bd (fun k => EF [] g n (a.ev F) k) (fun v => K v hp) ⟨⟩ := eqq rfl
theorem Rq (F : Nat → AV) (g : Bool) (n : Nat) (a : AF) : (IOp.load g n a).sem P F hp K = Bd (fun k => EF hp g n (a.ev F) k) (fun v => K v hp) ⟨⟩ := eqq rfl
theorem OO (F : Nat → AV) (n : Nat) (a x : AF) : (IOp.store n a x).sem P F hp K = Bd (fun k => J1 hp n (a.ev F) (x.ev F) k) (fun hp => K (.tup []) hp) ⟨⟩ := eqq rfl
theorem OT (F : Nat → AV) (off : Nat) (x : AF) : (IOp.Bh off x).sem P F hp K = Bd (fun k => Hn off (x.ev F) k) (fun v => K v hp) ⟨⟩ := eqq rfl
theorem VQ (F : Nat → AV) (g : Bool) (off n : Nat) (x : AF) : (IOp.fld g off n x).sem P F hp K = Bd (fun k => Z5 g off n (x.ev F) k) (fun v => K v hp) ⟨⟩ := eqq rfl
theorem OS (F : Nat → AV) (e : Nat) (x i : AF) : (IOp.DX e x i).sem P F hp K = Bd (fun k => Dc hp e (x.ev F) (i.ev F) k) (fun v => K v hp) ⟨⟩ := eqq rfl
theorem Mx (F : Nat → AV) (e : Nat) (x i : AF) : (IOp.M9 e x i).sem P F hp K = Bd (fun k => Dc [] e (x.ev F) (i.ev F) k) (fun v => K v hp) ⟨⟩ := eqq rfl
theorem Rn (F : Nat → AV) (x i : AF) : (IOp.Abs x i).sem P F hp K = Bd (fun k => TT (x.ev F) (i.ev F) k) (fun v => K v hp) ⟨⟩ := eqq rfl
theorem VP (F : Nat → AV) (g : Bool) (x : AF) : (IOp.len g x).sem P F hp K = Bd (fun k => Ic g (x.ev F) k) (fun v => K v hp) ⟨⟩ := eqq rfl
theorem Rr (F : Nat → AV) (d : IntKind) (x : AF) : (IOp.conv d x).sem P F hp K = Bd (fun k => TZ d (x.ev F) k) (fun v => K v hp) ⟨⟩ := eqq rfl
theorem Lx (F : Nat → AV) (i : Nat) (x : AF) : (IOp.extract i x).sem P F hp K = Bd (fun k => F1 i (x.ev F) k) (fun v => K v hp) ⟨⟩ := eqq rfl
theorem Mv (F : Nat → AV) (x : AF) : (IOp.Da x).sem P F hp K = Bd (fun k => FD (x.ev F) k) (fun v => K v hp) ⟨⟩ := eqq rfl
def AbQ (neg : Bool) (x : AV) (hp : Hp) (K : AV → Hp → Prop) : Prop :=
 match x with
 | .sl es => (es = [] → K (.bool (!neg)) hp) ∧ K (.bool neg) hp
 | .Au => K (.bool (!neg)) hp
 | _ => False
theorem OR (F : Nat → AV) (neg : Bool) (x : AF) : (IOp.Kv neg x).sem P F hp K = Bd2 (fun k => AbQ neg (x.ev F) hp k) K ⟨⟩ := eqq rfl
theorem Xt (neg : Bool) (es : List AV) : AbQ neg (.sl es) hp K = ((es = [] → K (.bool (!neg)) hp) ∧ K (.bool neg) hp) := eqq rfl
theorem P7 (neg : Bool) : AbQ neg .Au hp K = K (.bool (!neg)) hp := eqq rfl
theorem Rp (F : Nat → AV) (f : FuncId) (cs : List AF) : (IOp.AbI f cs).sem P F hp K = Bd (fun k => k (.fn f (cs.map fun x => x.ev F))) (fun v => K v hp) ⟨⟩ := eqq rfl
def NY (P : Program) (f : FuncId) (args : List AV) (hp : Hp) (k : AV → Prop) : Prop := L1 P f args hp k
theorem Ac {P : Program} {f : FuncId} {args : List AV} {hp : Hp} {k : AV → Prop} (r : AV) (h : AH P f args r) {kp : C5 k} (hk : k r) : Bd (fun k => NY P f args hp k) k kp := ⟨r, .inl h, hk⟩
theorem Yv {P : Program} {f : FuncId} {args args' : List AV} {hp : Hp} {k : AV → Prop} {r : AV} (ks : List Nat) (h : AH P f args' r) (hs : r.Uv = true) {kp : C5 k} (he : args.map (AV.BW (BK ks hp)) = args') (hk : k r) : Bd (fun k => NY P f args hp k) k kp := ⟨r, .inr ⟨ks, by rw [he]; exact h, hs⟩, hk⟩
theorem Rs (F : Nat → AV) (f : FuncId) (as : List AF) : (IOp.call f as).sem P F hp K = Bd (fun k => NY P f (as.map fun x => (x.ev F).BW hp) hp k) (fun v => K v hp) ⟨⟩ := eqq rfl
theorem OW (F : Nat → AV) (f : FuncId) (as : List AF) : (IOp.Tq f as).sem P F hp K = ((∀ hp, (as.map fun x => (x.ev F).BW hp) = as.map fun x => x.ev F) ∧ Bd (fun k => NY P f (as.map fun x => x.ev F) [] k) (fun v => K v hp) ⟨⟩) := eqq rfl
def Xu (P : Program) (x : AV) (args : List AV) (hp : Hp) (k : AV → Prop) : Prop := Q4 P x args hp k
theorem OU (F : Nat → AV) (f : AF) (as : List AF) : (IOp.ZS f as).sem P F hp K = Bd (fun k => Xu P ((f.ev F).BW hp) (as.map fun x => (x.ev F).BW hp) hp k) (fun v => K v hp) ⟨⟩ := eqq rfl
theorem NW (f : FuncId) (caps args : List AV) : Xu P (.fn f caps) args hp k = NY P f (args ++ caps) hp k := eqq rfl
def Z4 (mx : Bool) (xs : List AV) (k : AV → Prop) : Prop := aMm mx xs k
theorem YK (F : Nat → AV) (mx : Bool) (xs : List AF) : (IOp.mm mx xs).sem P F hp K = Bd (fun k => Z4 mx (xs.map fun x => x.ev F) k) (fun v => K v hp) ⟨⟩ := eqq rfl
theorem TW (q : IntKind) (a b : Int) : Z4 true [.int q a, .int q b] k = k (.int q (max a b)) := by simp [Z4, aMm]
theorem TV (q : IntKind) (a b : Int) : Z4 false [.int q a, .int q b] k = k (.int q (min a b)) := by simp [Z4, aMm]
def Co (x : AV) (esz : Nat) (lo hi : Option AV) (k : AV → Prop) : Prop := EE (fun i => if i = 0 then lo.getD .top else hi.getD .top) esz (lo.map fun _ => .t 0) (hi.map fun _ => .t 1) x k
theorem Yu (F : Nat → AV) (x : AV) (esz : Nat) (lo hi : Option AF) : EE F esz lo hi x k = Co x esz (lo.map fun x => x.ev F) (hi.map fun x => x.ev F) k := by
 unfold Co EE
 have h1 : C8 F lo = C8 (fun i => if i = 0 then (lo.map fun x => x.ev F).getD .top else (hi.map fun x => x.ev F).getD .top) ((lo.map fun x => x.ev F).map fun _ => AF.t 0) := by cases lo <;> rfl
 have h2 : C8 F hi = C8 (fun i => if i = 0 then (lo.map fun x => x.ev F).getD .top else (hi.map fun x => x.ev F).getD .top) ((hi.map fun x => x.ev F).map fun _ => AF.t 1) := by cases hi <;> rfl
 have h3 : ∀ d, A3 F d lo = A3 (fun i => if i = 0 then (lo.map fun x => x.ev F).getD .top else (hi.map fun x => x.ev F).getD .top) d ((lo.map fun x => x.ev F).map fun _ => AF.t 0) := by intro d; cases lo <;> rfl
 have h4 : ∀ d, A3 F d hi = A3 (fun i => if i = 0 then (lo.map fun x => x.ev F).getD .top else (hi.map fun x => x.ev F).getD .top) d ((hi.map fun x => x.ev F).map fun _ => AF.t 1) := by intro d; cases hi <;> rfl
 have h5 : (lo = none) = (((lo.map fun x => x.ev F).map fun _ => AF.t 0) = none) := by cases lo <;> simp
 simp only [h1, h2, h3, h4, h5]
theorem OP (F : Nat → AV) (e : Nat) (x : AF) (lo hi : Option AF) : (IOp.slice e x lo hi).sem P F hp K = Bd (fun k => Co (x.ev F) e (lo.map fun x => x.ev F) (hi.map fun x => x.ev F) k) (fun v => K v hp) ⟨⟩ := by simp only [IOp.sem]; exact Yu _ _ _ _ _ _
theorem Ka (s : ByteArray) (q r : IntKind) (a b : Int) : Co (.str s) 0 (some (.int q a)) (some (.int r b)) k = ((0 ≤ a ∧ a ≤ b ∧ b ≤ s.size) ∧ k (.str (s.extract a.toNat b.toNat))) := by simp [Co, EE, C8, A3, AF.ev, AV.isInt, AV.num]
theorem Lt (s : ByteArray) (q : IntKind) (a : Int) : Co (.str s) 0 (some (.int q a)) none k = ((0 ≤ a ∧ a ≤ s.size) ∧ k (.str (s.extract a.toNat s.size))) := by simp [Co, EE, C8, A3, AF.ev, AV.isInt, AV.num, and_assoc]
theorem Lu (s : ByteArray) (r : IntKind) (b : Int) : Co (.str s) 0 none (some (.int r b)) k = ((0 ≤ b ∧ b ≤ s.size) ∧ k (.str (s.extract 0 b.toNat))) := by simp [Co, EE, C8, A3, AF.ev, AV.isInt, AV.num]
theorem Lv (es : List AV) (e : Nat) (q r : IntKind) (a b : Int) : Co (.sl es) e (some (.int q a)) (some (.int r b)) k = ((e ≠ 0 ∧ 0 ≤ a ∧ a ≤ b ∧ b ≤ es.length ∧ ∀ x ∈ es, x.cells.length = e) ∧ k (.sl ((es.drop a.toNat).take (b.toNat - a.toNat)))) := by simp [Co, EE, C8, A3, AF.ev, AV.isInt, AV.num]
theorem Mr (es : List AV) (e : Nat) (q : IntKind) (a : Int) : Co (.sl es) e (some (.int q a)) none k = ((e ≠ 0 ∧ 0 ≤ a ∧ a ≤ es.length ∧ ∀ x ∈ es, x.cells.length = e) ∧ k (.sl ((es.drop a.toNat).take (es.length - a.toNat)))) := by simp [Co, EE, C8, A3, AF.ev, AV.isInt, AV.num]
theorem Ms (es : List AV) (e : Nat) (r : IntKind) (b : Int) : Co (.sl es) e none (some (.int r b)) k = ((e ≠ 0 ∧ 0 ≤ b ∧ b ≤ es.length) ∧ k (.sl (es.take b.toNat))) := by simp [Co, EE, C8, A3, AF.ev, AV.isInt, AV.num]
theorem Kb (e : Nat) (r : IntKind) (b : Int) : Co .Au e none (some (.int r b)) k = ((e ≠ 0 ∧ b = 0) ∧ k .Au) := by simp [Co, EE, C8, A3, AF.ev, AV.isInt, AV.num]
theorem Lw (j v n e : Nat) (r : IntKind) (b : Int) : Co (.row j v n) e none (some (.int r b)) k = ((e ≠ 0 ∧ 0 ≤ b ∧ b ≤ n) ∧ k (.row j v b.toNat)) := by simp [Co, EE, C8, A3, AF.ev, AV.isInt, AV.num]

/-! slices made, appends -/
def EG (F : Nat → AV) (esz : Nat) (es : List AV) (ps : List (Nat × AF)) (k : List AV → Prop) : Prop := Dd F esz es ps k
theorem PH (F : Nat → AV) (esz : Nat) (es : List AV) (k : List AV → Prop) : EG F esz es [] k = k es := eqq rfl
def F2 (x : AV) (F : Nat → AV) (esz i : Nat) (es : List AV) (ps : List (Nat × AF)) (k : List AV → Prop) : Prop := (x.ok = true ∧ x.cells.length = esz ∧ i < es.length) ∧ EG F esz (es.set i x) ps k
theorem Ny (F : Nat → AV) (esz i : Nat) (x : AF) (es : List AV) (ps : List (Nat × AF)) (k : List AV → Prop) : EG F esz es ((i, x) :: ps) k = F2 (x.ev F) F esz i es ps k := eqq rfl
theorem PJ (cs : List AV) (F : Nat → AV) (esz i : Nat) (es : List AV) (ps : List (Nat × AF)) (k : List AV → Prop) : F2 (.agg cs) F esz i es ps k = ((cs.length = esz ∧ i < es.length) ∧ EG F esz (es.set i (.agg cs)) ps k) := by simp [F2, AV.ok, AV.one, AV.isAgg, AV.cells]
theorem PI (x : AV) (h : x.one = true) (F : Nat → AV) (esz i : Nat) (es : List AV) (ps : List (Nat × AF)) (k : List AV → Prop) : F2 x F esz i es ps k = ((1 = esz ∧ i < es.length) ∧ EG F esz (es.set i x) ps k) := by simp [F2, AV.ok, h, FJ h]
theorem VK (F : Nat → AV) (m : Nat) (z : AV) (ps : List (Nat × AF)) : (IOp.slP m z ps).sem P F hp K = Bd (fun k => EG F z.cells.length (List.replicate m z) ps fun es => k (.sl (es.map (AV.pur hp)))) (fun v => K v hp) ⟨⟩ := eqq rfl
theorem Rw (F : Nat → AV) (op : BinOp) (x y : AF) : (IOp.ZZ op x y).sem P F hp K = Bd (fun k => KR op (x.ev F) (y.ev F) k) (fun v => K v hp) ⟨⟩ := eqq rfl
theorem VM (F : Nat → AV) (m : Nat) (z : AV) (ps : List (Nat × AF)) : (IOp.slF m z ps).sem P F hp K = Bd (fun k => EG F z.cells.length (List.replicate m z) ps fun es => es.all AV.plain = true ∧ k (.sl es)) (fun v => K v hp) ⟨⟩ := eqq rfl
theorem O7 : List.all [] AV.plain = true := eqq rfl
theorem MF (x : AV) (r : List AV) : List.all (x :: r) AV.plain = (x.plain && r.all AV.plain) := eqq rfl
theorem O8 (q : IntKind) (n : Int) : (AV.int q n).plain = true := eqq rfl
theorem O6 (s : ByteArray) : (AV.str s).plain = true := eqq rfl
theorem MG (b : Bool) : (AV.bool b).plain = true := eqq rfl
theorem VL (F : Nat → AV) (j : Nat) (ty : TypeId) (m : Nat) (z : AV) (ps : List (Nat × AF)) : (IOp.slO j ty m z ps).sem P F hp K = Bd2 (fun k => EG F z.cells.length (List.replicate m z) ps fun es => ∀ v, k (.row j v m) ((j, ⟨v, false, ty, z.cells.length, es⟩) :: hp)) K ⟨⟩ := eqq rfl
def N7 (hp : Hp) (j : Nat) (ty : TypeId) (esz bytes : Nat) (s x : AV) (K : AV → Hp → Prop) : Prop := Ow hp j ty esz bytes s ((EM hp x).map (·.map (AV.pur hp))) K
theorem Mz (F : Nat → AV) (j : Nat) (ty : TypeId) (e b : Nat) (s x : AF) : (IOp.append j ty e b s x).sem P F hp K = Bd2 (fun k => N7 hp j ty e b (s.ev F) (x.ev F) k) K ⟨⟩ := eqq rfl
theorem Ry (F : Nat → AV) (j : Nat) (ty : TypeId) (e b : Nat) (s x : AF) : (IOp.Vi j ty e b s x).sem P F hp K = Bd2 (fun k => N7 hp j ty e b (s.ev F) (x.ev F) k) (fun r hp' => K (r.pur (Ni r hp')) (Ni r hp')) ⟨⟩ := eqq rfl
theorem SW (j v n : Nat) : Ni (.row j v n) hp = Dr hp j := eqq rfl
def Ue (bx : Option Box) (hp : Hp) (j v n : Nat) (ty : TypeId) (esz bytes : Nat) (es : List AV) (K : AV → Hp → Prop) : Prop :=
 match bx with
 | some b => (b.ver = v ∧ b.frz = false ∧ b.ty = ty ∧ b.esz = esz ∧ n ≤ b.es.length ∧ (∀ e ∈ es, e.cells.length = esz) ∧ (n + es.length) * bytes ≤ 140737488355328 ∧ n + es.length ≤ maxLen) ∧
   ∀ v', K (.row j v' (n + es.length)) ((j, ⟨v', false, ty, esz, b.es.take n ++ es⟩) :: hp)
 | none => False
theorem Xq (i j v n : Nat) (ty : TypeId) (e b : Nat) (es : List AV) : N7 hp i ty e b (.row j v n) (.sl es) K = Ue (Ay hp j) hp j v n ty e b (es.map (AV.pur hp)) K := by
 unfold N7 Ow Ue EM; simp only [Option.map_some]; cases Ay hp j <;> rfl
theorem TL (i j v n : Nat) (ty : TypeId) (e b : Nat) : N7 hp i ty e b (.row j v n) .Au K = Ue (Ay hp j) hp j v n ty e b [] K := by
 unfold N7 Ow Ue EM; simp only [Option.map_some, List.map_nil]; cases Ay hp j <;> rfl
theorem TM (j : Nat) (ty : TypeId) (e b : Nat) (es : List AV) : N7 hp j ty e b .Au (.sl es) K = ((((∀ x ∈ es.map (AV.pur hp), x.cells.length = e) ∧ (es.map (AV.pur hp)).length * b ≤ 140737488355328 ∧ (es.map (AV.pur hp)).length ≤ maxLen)) ∧
  ∀ v, K (.row j v (es.map (AV.pur hp)).length) ((j, ⟨v, false, ty, e, es.map (AV.pur hp)⟩) :: hp)) := rfl
theorem P4 (b : Box) (j v n : Nat) (ty : TypeId) (esz bytes : Nat) (es : List AV) : Ue (some b) hp j v n ty esz bytes es K = ((b.ver = v ∧ b.frz = false ∧ b.ty = ty ∧ b.esz = esz ∧ n ≤ b.es.length ∧ (∀ e ∈ es, e.cells.length = esz) ∧ (n + es.length) * bytes ≤ 140737488355328 ∧ n + es.length ≤ maxLen) ∧
   ∀ v', K (.row j v' (n + es.length)) ((j, ⟨v', false, ty, esz, b.es.take n ++ es⟩) :: hp)) := rfl
def Acj (x : AV) (j : Nat) (ty : TypeId) (bytes : Nat) (z : AV) (hp : Hp) (K : AV → Hp → Prop) : Prop :=
 match x with
 | .int _ n => (0 ≤ n ∧ n * bytes ≤ 140737488355328) ∧ ∀ v, K (.row j v n.toNat) ((j, ⟨v, false, ty, z.cells.length, List.replicate n.toNat z⟩) :: hp)
 | _ => False
theorem YL (F : Nat → AV) (j : Nat) (ty : TypeId) (b : Nat) (z : AV) (x : AF) : (IOp.mkSlice j ty b z x).sem P F hp K = Bd2 (fun k => Acj (x.ev F) j ty b z hp k) K ⟨⟩ := eqq rfl
theorem Zl (q : IntKind) (n : Int) (j : Nat) (ty : TypeId) (b : Nat) (z : AV) : Acj (.int q n) j ty b z hp K = ((0 ≤ n ∧ n * b ≤ 140737488355328) ∧ ∀ v, K (.row j v n.toNat) ((j, ⟨v, false, ty, z.cells.length, List.replicate n.toNat z⟩) :: hp)) := eqq rfl
def Z9 (hp : Hp) (x : AV) (k : AV → Prop) : Prop := Aaa (EM hp x) k
theorem VU (F : Nat → AV) (x : AF) : (IOp.b2s x).sem P F hp K = Bd (fun k => Z9 hp (x.ev F) k) (fun v => K v hp) ⟨⟩ := eqq rfl
def Aab (s n : AV) (j : Nat) (ty : TypeId) (bytes : Nat) (z : AV) (hp : Hp) (K : AV → Hp → Prop) : Prop := Xx s n bytes fun m => ∀ v, K (.row j v m) ((j, ⟨v, false, ty, z.cells.length, List.replicate m z⟩) :: hp)
theorem Rx (F : Nat → AV) (j : Nat) (ty : TypeId) (b : Nat) (z : AV) (s x : AF) : (IOp.TN j ty b z s x).sem P F hp K = Bd2 (fun k => Aab (s.ev F) (x.ev F) j ty b z hp k) K ⟨⟩ := eqq rfl
theorem P3 (q : IntKind) (n : Int) (j : Nat) (ty : TypeId) (b : Nat) (z : AV) : Aab .Au (.int q n) j ty b z hp K = ((0 < n ∧ n * b ≤ 140737488355328 ∧ n ≤ 1099511627776) ∧ ∀ v, K (.row j v n.toNat) ((j, ⟨v, false, ty, z.cells.length, List.replicate n.toNat z⟩) :: hp)) := eqq rfl
def Abg (x : AV) (j : Nat) (ty : TypeId) (hp : Hp) (K : AV → Hp → Prop) : Prop := Aa0 x fun s => ∀ v, K (.row j v s.size) ((j, ⟨v, false, ty, 1, Jg s⟩) :: hp)
theorem VN (F : Nat → AV) (j : Nat) (ty : TypeId) (x : AF) : (IOp.s2b j ty x).sem P F hp K = Bd2 (fun k => Abg (x.ev F) j ty hp k) K ⟨⟩ := eqq rfl
theorem VV (s : ByteArray) (j : Nat) (ty : TypeId) : Abg (.str s) j ty hp K = ∀ v, K (.row j v s.size) ((j, ⟨v, false, ty, 1, Jg s⟩) :: hp) := eqq rfl
theorem VS (F : Nat → AV) (x : AF) : (IOp.cap x).sem P F hp K = Bd (fun k => Z7 (x.ev F) k) (fun v => K v hp) ⟨⟩ := eqq rfl
theorem Tn : Z7 .Au k = k (.int .i64 0) := eqq rfl
theorem NK {x : AV} {es : List AV} (l : List UInt8) (h : EM hp x = some es) (he : es = l.map fun b => .int .u8 b.toNat) (hk : k (.str ⟨l.toArray⟩)) : Z9 hp x k := by unfold Z9 Aaa; rw [h]; exact ⟨l, he, hk⟩

/-! scrutinees decided -/
theorem O9 (t : Bool) (a b : AV) : TU (.bool t) a b k = Pk t a b k := eqq rfl
theorem TE (op : BinOp) (q : IntKind) (a b : Int) : KR op (.int q a) (.int q b) k = Hb op q a b k := by simp [KR]
theorem Xk (op : BinOp) (kd : EqK) (q : IntKind) (a b : Int) : FE op kd (.int q a) (.int q b) k = Hb op q a b k := by simp [FE]
theorem Xc (op : BinOp) (kd : EqK) (a b : ByteArray) : FE op kd (.str a) (.str b) k = TR op a b k := eqq rfl
theorem TD (op : BinOp) (a b : Bool) : FE op .bool (.bool a) (.bool b) k = De op (a == b) k := by simp [FE]
theorem Xi (op : BinOp) : FE op .ptr .C9 .C9 k = De op true k := by simp [FE]
theorem Xh (op : BinOp) (cs : List AV) : FE op .ptr (.obj cs) .C9 k = De op false k := by simp [FE]
theorem Xg (op : BinOp) (cs : List AV) : FE op .ptr .C9 (.obj cs) k = De op false k := by simp [FE]
theorem Xf (op : BinOp) (j v i o : Nat) : FE op .ptr (.ptr j v i o) .C9 k = De op false k := by simp [FE]
theorem Xe (op : BinOp) : FE op .slice .Au .Au k = De op true k := by simp [FE]
theorem Xd (op : BinOp) (es : List AV) : FE op .slice (.sl es) .Au k = (es ≠ [] ∧ De op false k) := by simp [FE]
theorem TC (op : BinOp) (ks : List Nat) (xs ys : List AV) : FE op (.flat ks) (.agg xs) (.agg ys) k = Q3 op (DC ks xs ys) k := by simp [FE, Z6]
theorem Ns (op : BinOp) (b : Bool) : Q3 op (some b) k = De op b k := eqq rfl
theorem S4 : DC [] [] [] = some true := eqq rfl
theorem S5 (q : IntKind) (a b : Int) (ks : List Nat) (xs ys : List AV) : DC (1 :: ks) (.int q a :: xs) (.int q b :: ys) = (DC ks xs ys).map (decide (a = b) && ·) := by simp [DC]
theorem PA (a b : Bool) (ks : List Nat) (xs ys : List AV) : DC (0 :: ks) (.bool a :: xs) (.bool b :: ys) = (DC ks xs ys).map (decide (a = b) && ·) := eqq rfl
theorem S3 (a b : ByteArray) (ks : List Nat) (xs ys : List AV) : DC (2 :: ks) (.str a :: xs) (.str b :: ys) = (DC ks xs ys).map (decide (a = b) && ·) := eqq rfl
theorem WO (q : IntKind) (a b : Int) : Hb .add q a b k = (inR q (a + b) ∧ k (.int q (a + b))) := eqq rfl
theorem WC (q : IntKind) (a b : Int) : Hb .sub q a b k = (inR q (a - b) ∧ k (.int q (a - b))) := eqq rfl
theorem WH (q : IntKind) (a b : Int) : Hb .mul q a b k = (inR q (a * b) ∧ k (.int q (a * b))) := eqq rfl
theorem WE (q : IntKind) (a b : Int) : Hb .quo q a b k = ((b ≠ 0 ∧ inR q (a.tdiv b)) ∧ k (.int q (a.tdiv b))) := eqq rfl
theorem WD (q : IntKind) (a b : Int) : Hb .rem q a b k = ((b ≠ 0 ∧ inR q (a.tmod b)) ∧ k (.int q (a.tmod b))) := eqq rfl
theorem WN (q : IntKind) (a b : Int) : Hb .eql q a b k = k (.bool (decide (a = b))) := eqq rfl
theorem WG (q : IntKind) (a b : Int) : Hb .neq q a b k = k (.bool (!decide (a = b))) := eqq rfl
theorem WJ (q : IntKind) (a b : Int) : Hb .lss q a b k = k (.bool (decide (a < b))) := eqq rfl
theorem WK (q : IntKind) (a b : Int) : Hb .leq q a b k = k (.bool (decide (a ≤ b))) := eqq rfl
theorem WL (q : IntKind) (a b : Int) : Hb .gtr q a b k = k (.bool (decide (b < a))) := eqq rfl
theorem WM (q : IntKind) (a b : Int) : Hb .geq q a b k = k (.bool (decide (b ≤ a))) := eqq rfl
theorem VF (a b : ByteArray) : TR .add a b k = (a.size + b.size ≤ maxLen ∧ k (.str (a ++ b))) := eqq rfl
theorem VE (a b : ByteArray) : TR .eql a b k = k (.bool (decide (a = b))) := eqq rfl
theorem VC (a b : ByteArray) : TR .neq a b k = k (.bool (!decide (a = b))) := eqq rfl
theorem VD (a b : ByteArray) : TR .lss a b k = k (.bool (Op.bytesLess a.toList b.toList)) := eqq rfl
theorem Tu (b : Bool) : De .eql b k = k (.bool b) := eqq rfl
theorem Tt (b : Bool) : De .neq b k = k (.bool (!b)) := eqq rfl
theorem YE (b : Bool) : aUn .not (.bool b) k = k (.bool (!b)) := eqq rfl
theorem YF (q : IntKind) (n : Int) : aUn .neg (.int q n) k = (inR q (-n) ∧ k (.int q (-n))) := eqq rfl
theorem Sj (g : Bool) (n : Nat) (cs : List AV) : EF hp g n (.obj cs) k = EN g cs 0 n k := eqq rfl
def Vn (bx : Option Box) (g : Bool) (n v i off : Nat) (k : AV → Prop) : Prop :=
 match bx with
 | some b => (b.ver = v ∧ i < b.es.length) ∧ EN g (b.es.getD i .top).cells off n k
 | none => False
theorem Si (g : Bool) (n j v i off : Nat) : EF hp g n (.ptr j v i off) k = Vn (Ay hp j) g n v i off k := by cases h : Ay hp j <;> simp [EF, Vn, h]
theorem MU (b : Box) (g : Bool) (n v i off : Nat) : Vn (some b) g n v i off k = ((b.ver = v ∧ i < b.es.length) ∧ EN g (b.es.getD i .top).cells off n k) := eqq rfl
theorem Pc (cs : List AV) (off n : Nat) : EN true cs off n k = (off + n ≤ cs.length ∧ k (.agg ((cs.drop off).take n))) := eqq rfl
theorem MH (cs : List AV) (off n : Nat) : EN false cs off n k = (off < cs.length ∧ k (cs.getD off .top)) := eqq rfl
def Q1 (bx : Option Box) (hp : Hp) (n j v i off : Nat) (x : AV) (K : Hp → Prop) : Prop :=
 match bx with
 | some b => (b.ver = v ∧ b.frz = false ∧ i < b.es.length ∧ x.ok = true ∧ x.cells.length = n ∧ off + n ≤ (b.es.getD i .top).cells.length) ∧
     K ((j, { b with es := b.es.set i ((b.es.getD i .top).Fw off x.cells) }) :: hp)
 | none => False
theorem OG (n j v i off : Nat) (x : AV) (K : Hp → Prop) : J1 hp n (.ptr j v i off) x K = Q1 (Ay hp j) hp n j v i off x K := by cases h : Ay hp j <;> simp [J1, Q1, h]
theorem Lr (b : Box) (n j v i off : Nat) (x : AV) (K : Hp → Prop) : Q1 (some b) hp n j v i off x K = ((b.ver = v ∧ b.frz = false ∧ i < b.es.length ∧ x.ok = true ∧ x.cells.length = n ∧ off + n ≤ (b.es.getD i .top).cells.length) ∧
     K ((j, { b with es := b.es.set i ((b.es.getD i .top).Fw off x.cells) }) :: hp)) := rfl
theorem PD (off : Nat) (cs : List AV) : Hn off (.obj cs) k = k (.obj (cs.drop off)) := eqq rfl
theorem PC (off j v i o : Nat) : Hn off (.ptr j v i o) k = k (.ptr j v i (o + off)) := eqq rfl
theorem WZ (g : Bool) (off n : Nat) (cs : List AV) : Z5 g off n (.agg cs) k = EN g cs off n k := eqq rfl
theorem SK (e : Nat) (es : List AV) (q : IntKind) (i : Int) : Dc hp e (.sl es) (.int q i) k = ((0 ≤ i ∧ i < es.length ∧ (es.getD i.toNat .top).cells.length = e) ∧ k (.obj (es.getD i.toNat .top).cells)) := eqq rfl
def Q2 (bx : Option Box) (e j v n : Nat) (i : Int) (k : AV → Prop) : Prop :=
 match bx with
 | some b => (b.ver = v ∧ b.esz = e ∧ 0 ≤ i ∧ i < n) ∧ k (.ptr j v i.toNat 0)
 | none => False
theorem Pp (e j v n : Nat) (q : IntKind) (i : Int) : Dc hp e (.row j v n) (.int q i) k = Q2 (Ay hp j) e j v n i k := by cases h : Ay hp j <;> simp [Dc, Q2, h]
theorem LK (b : Box) (e j v n : Nat) (i : Int) : Q2 (some b) e j v n i k = ((b.ver = v ∧ b.esz = e ∧ 0 ≤ i ∧ i < n) ∧ k (.ptr j v i.toNat 0)) := eqq rfl
theorem Re (s : ByteArray) (q : IntKind) (i : Int) : TT (.str s) (.int q i) k = ((0 ≤ i ∧ i < s.size) ∧ k (.int .u8 (A4 s i.toNat).toNat)) := eqq rfl
theorem Wy (s : ByteArray) : Ic true (.str s) k = k (.int .i64 s.size) := by simp [Ic]
theorem Zs (es : List AV) : Ic false (.sl es) k = k (.int .i64 es.length) := by simp [Ic]
theorem Wz (j v n : Nat) : Ic false (.row j v n) k = k (.int .i64 n) := by simp [Ic]
theorem Sm : Ic false .Au k = k (.int .i64 0) := by simp [Ic]
theorem Th (d q : IntKind) (n : Int) : TZ d (.int q n) k = (inR d n ∧ k (.int d n)) := eqq rfl
theorem LS (i : Nat) (xs : List AV) : F1 i (.tup xs) k = (i < xs.length ∧ k (xs.getD i .top)) := eqq rfl
theorem MP (cs : List AV) : FD (.obj cs) k = k (.obj cs) := eqq rfl
theorem MO (j v i o : Nat) : FD (.ptr j v i o) k = k (.ptr j v i o) := eqq rfl
theorem Ph (f : FuncId) (cs : List AV) : FD (.fn f cs) k = k (.fn f cs) := eqq rfl
theorem VW (F : Nat → AV) (k : List AV → Prop) : BS hp F [] k = k [] := eqq rfl
theorem Aa9 (F : Nat → AV) (i : Nat) (rs : List En) (k : List AV → Prop) : BS hp F (.t i :: rs) k = BS hp F rs fun xs => k (F i :: xs) := eqq rfl
theorem Aba (F : Nat → AV) (g : Bool) (n i : Nat) (rs : List En) (k : List AV → Prop) : BS hp F (.c g n i :: rs) k = EF hp g n (F i) fun x => BS hp F rs fun xs => k (x :: xs) := eqq rfl
theorem PF (i : Nat) : entry i [] = [] := eqq rfl
theorem Nx (i : Nat) (x : AV) (xs : List AV) : entry i (x :: xs) = (i, x) :: entry (i + 1) xs := eqq rfl

/-! reading own rows for good -/
theorem V2 (q : IntKind) (n : Int) : (AV.int q n).pur hp = .int q n := eqq rfl
theorem RG (b : Bool) : (AV.bool b).pur hp = .bool b := eqq rfl
theorem VY (s : ByteArray) : (AV.str s).pur hp = .str s := eqq rfl
theorem YU (es : List AV) : (AV.sl es).pur hp = .sl es := eqq rfl
theorem V1 (cs : List AV) : (AV.obj cs).pur hp = .obj cs := eqq rfl
theorem RE : AV.Au.pur hp = .Au := eqq rfl
theorem RF : AV.C9.pur hp = .C9 := eqq rfl
theorem YW (f : FuncId) (cs : List AV) : (AV.fn f cs).pur hp = .fn f cs := eqq rfl
theorem V3 (cs : List AV) : (AV.agg cs).pur hp = .agg (cs.map (AV.Bu hp)) := eqq rfl
theorem VX (cs : List AV) : (AV.tup cs).pur hp = .tup (cs.map (AV.Bu hp)) := eqq rfl
theorem VZ (j v n : Nat) : (AV.row j v n).pur hp = (AV.row j v n).Bu hp := eqq rfl
theorem V0 (j v i o : Nat) : (AV.ptr j v i o).pur hp = (AV.ptr j v i o).Bu hp := eqq rfl
theorem RU (q : IntKind) (n : Int) : (AV.int q n).Bu hp = .int q n := eqq rfl
theorem O5 (b : Bool) : (AV.bool b).Bu hp = .bool b := eqq rfl
theorem RQ (s : ByteArray) : (AV.str s).Bu hp = .str s := eqq rfl
theorem V6 (es : List AV) : (AV.sl es).Bu hp = .sl es := eqq rfl
theorem RT (cs : List AV) : (AV.obj cs).Bu hp = .obj cs := eqq rfl
theorem O3 : AV.Au.Bu hp = .Au := eqq rfl
theorem O4 : AV.C9.Bu hp = .C9 := eqq rfl
theorem V7 (f : FuncId) (cs : List AV) : (AV.fn f cs).Bu hp = .fn f cs := eqq rfl
theorem RV (cs : List AV) : (AV.agg cs).Bu hp = .agg cs := eqq rfl
def Jk (bx : Option Box) (j v n : Nat) : AV :=
 match bx with
 | some b => if b.ver = v ∧ b.frz = true ∧ n ≤ b.es.length then .sl (b.es.take n) else .row j v n
 | none => .row j v n
theorem DU (j v n : Nat) : (AV.row j v n).Bu hp = Jk (Ay hp j) j v n := eqq rfl
theorem OY (b : Box) (j v n : Nat) : Jk (some b) j v n = if b.ver = v ∧ b.frz = true ∧ n ≤ b.es.length then .sl (b.es.take n) else .row j v n := eqq rfl
theorem OZ (j v n : Nat) : Jk none j v n = .row j v n := eqq rfl
def YX (bx : Option Box) (j v i o : Nat) : AV :=
 match bx with
 | some b => if b.ver = v ∧ b.frz = true ∧ i < b.es.length then .obj ((b.es.getD i .top).cells.drop o) else .ptr j v i o
 | none => .ptr j v i o
theorem RR (j v i o : Nat) : (AV.ptr j v i o).Bu hp = YX (Ay hp j) j v i o := eqq rfl
theorem MB (b : Box) (j v i o : Nat) : YX (some b) j v i o = if b.ver = v ∧ b.frz = true ∧ i < b.es.length then .obj ((b.es.getD i .top).cells.drop o) else .ptr j v i o := eqq rfl
theorem MC (j v i o : Nat) : YX none j v i o = .ptr j v i o := eqq rfl
theorem MD (x : AV) : AV.Bu [] x = x := by cases x <;> rfl
theorem Di (l : List AV) : l.map (AV.Bu []) = l := by
 have : AV.Bu [] = id := funext MD
 rw [this, List.map_id]
theorem Mc (x : AV) : AV.pur [] x = x := by cases x <;> first | rfl | exact congrArg AV.agg (Di _) | exact congrArg AV.tup (Di _)
theorem LC (l : List AV) : l.map (AV.pur []) = l := by
 have : AV.pur [] = id := funext Mc
 rw [this, List.map_id]
theorem RM (x : AV) : AV.BW [] x = x := by cases x <;> first | rfl | exact Mc _ | exact congrArg (AV.fn _) (Di _) | exact congrArg AV.agg (Di _) | exact congrArg AV.tup (Di _)
theorem V5 (f : FuncId) (cs : List AV) : (AV.fn f cs).BW hp = .fn f (cs.map (AV.Bu hp)) := eqq rfl
theorem RN (q : IntKind) (n : Int) : (AV.int q n).BW hp = .int q n := eqq rfl
theorem O2 (b : Bool) : (AV.bool b).BW hp = .bool b := eqq rfl
theorem RH (s : ByteArray) : (AV.str s).BW hp = .str s := eqq rfl
theorem V4 (es : List AV) : (AV.sl es).BW hp = .sl es := eqq rfl
theorem RL (cs : List AV) : (AV.obj cs).BW hp = .obj cs := eqq rfl
theorem O0 : AV.Au.BW hp = .Au := eqq rfl
theorem O1 : AV.C9.BW hp = .C9 := eqq rfl
theorem RO (cs : List AV) : (AV.agg cs).BW hp = .agg (cs.map (AV.Bu hp)) := eqq rfl
theorem RI (j v n : Nat) : (AV.row j v n).BW hp = (AV.row j v n).Bu hp := eqq rfl
theorem RJ (j v i o : Nat) : (AV.ptr j v i o).BW hp = (AV.ptr j v i o).Bu hp := eqq rfl
theorem PV (cs : List AV) : (AV.agg cs).cells = cs := eqq rfl
theorem Wi (q : IntKind) (n : Int) : AV.one (.int q n) = true := eqq rfl
theorem ok_int (q : IntKind) (n : Int) : AV.ok (.int q n) = true := eqq rfl
theorem PU (q : IntKind) (n : Int) : AV.cells (.int q n) = [.int q n] := eqq rfl
theorem Rl (q : IntKind) (n : Int) (x : AV) : AV.Fw (.int q n) 0 [x] = x := eqq rfl
theorem Sa (b : Bool) : AV.one (.bool b) = true := eqq rfl
theorem Wn (b : Bool) : AV.ok (.bool b) = true := eqq rfl
theorem NI (b : Bool) : AV.cells (.bool b) = [.bool b] := eqq rfl
theorem ON (b : Bool) (x : AV) : AV.Fw (.bool b) 0 [x] = x := eqq rfl
theorem We (s : ByteArray) : AV.one (.str s) = true := eqq rfl
theorem Y8 (s : ByteArray) : AV.ok (.str s) = true := eqq rfl
theorem PQ (s : ByteArray) : AV.cells (.str s) = [.str s] := eqq rfl
theorem Rh (s : ByteArray) (x : AV) : AV.Fw (.str s) 0 [x] = x := eqq rfl
theorem Y5 (es : List AV) : AV.one (.sl es) = true := eqq rfl
theorem Abd (es : List AV) : AV.ok (.sl es) = true := eqq rfl
theorem Tl (es : List AV) : AV.cells (.sl es) = [.sl es] := eqq rfl
theorem VI (es : List AV) (x : AV) : AV.Fw (.sl es) 0 [x] = x := eqq rfl
theorem Wh (cs : List AV) : AV.one (.obj cs) = true := eqq rfl
theorem Zb (cs : List AV) : AV.ok (.obj cs) = true := eqq rfl
theorem PT (cs : List AV) : AV.cells (.obj cs) = [.obj cs] := eqq rfl
theorem Rk (cs : List AV) (x : AV) : AV.Fw (.obj cs) 0 [x] = x := eqq rfl
theorem R7  : AV.one (.Au) = true := eqq rfl
theorem Wk  : AV.ok (.Au) = true := eqq rfl
theorem NF  : AV.cells (.Au) = [.Au] := eqq rfl
theorem OK  (x : AV) : AV.Fw (.Au) 0 [x] = x := eqq rfl
theorem R8  : AV.one (.C9) = true := eqq rfl
theorem Wl  : AV.ok (.C9) = true := eqq rfl
theorem NG  : AV.cells (.C9) = [.C9] := eqq rfl
theorem OL  (x : AV) : AV.Fw (.C9) 0 [x] = x := eqq rfl
theorem R9  : AV.one (.F6) = true := eqq rfl
theorem Wm  : AV.ok (.F6) = true := eqq rfl
theorem NH  : AV.cells (.F6) = [.F6] := eqq rfl
theorem OM  (x : AV) : AV.Fw (.F6) 0 [x] = x := eqq rfl
theorem Y6 (f : FuncId) (cs : List AV) : AV.one (.fn f cs) = true := eqq rfl
theorem Abe (f : FuncId) (cs : List AV) : AV.ok (.fn f cs) = true := eqq rfl
theorem Tm (f : FuncId) (cs : List AV) : AV.cells (.fn f cs) = [.fn f cs] := eqq rfl
theorem VJ (f : FuncId) (cs : List AV) (x : AV) : AV.Fw (.fn f cs) 0 [x] = x := eqq rfl
theorem Wf (j v n : Nat) : AV.one (.row j v n) = true := eqq rfl
theorem Y9 (j v n : Nat) : AV.ok (.row j v n) = true := eqq rfl
theorem PR (j v n : Nat) : AV.cells (.row j v n) = [.row j v n] := eqq rfl
theorem Ri (j v n : Nat) (x : AV) : AV.Fw (.row j v n) 0 [x] = x := eqq rfl
theorem Wg (j v i o : Nat) : AV.one (.ptr j v i o) = true := eqq rfl
theorem Za (j v i o : Nat) : AV.ok (.ptr j v i o) = true := eqq rfl
theorem PS (j v i o : Nat) : AV.cells (.ptr j v i o) = [.ptr j v i o] := eqq rfl
theorem Rj (j v i o : Nat) (x : AV) : AV.Fw (.ptr j v i o) 0 [x] = x := eqq rfl
theorem Zc (cs : List AV) : AV.ok (.agg cs) = true := eqq rfl
theorem Rm (cs : List AV) (o : Nat) (xs : List AV) : AV.Fw (.agg cs) o xs = .agg (lay cs o xs) := eqq rfl
theorem Zt (cs : List AV) (o : Nat) (xs : List AV) : lay cs o xs = cs.take o ++ xs ++ cs.drop (o + xs.length) := eqq rfl
theorem S7 (x : AV) : Ia hp [x] = x.pur hp := eqq rfl
theorem S6 (x y : AV) : Ia hp [x, y] = .tup [x.pur hp, y.pur hp] := eqq rfl
theorem Nu (x y z : AV) : Ia hp [x, y, z] = .tup [x.pur hp, y.pur hp, z.pur hp] := eqq rfl
theorem PB : Ia hp [] = .tup [] := eqq rfl
theorem WQ (n : Int) : inR .i64 n = (-9223372036854775808 ≤ n ∧ n ≤ 9223372036854775807) := eqq rfl
theorem Zz (n : Int) : inR .u8 n = (0 ≤ n ∧ n ≤ 255) := eqq rfl
end

theorem zA.{u} {p : Prop} (α : Sort u) [Nonempty α] : (α → p) ↔ p := forall_const α
theorem zI.{u} (α : Sort u) : (α → True) = True := implies_true α
theorem zN.{u} {α : Sort u} (a b : α) : (a ≠ b) = ¬(a = b) := ne_eq a b
theorem zE.{u} {α : Sort u} {p : α → Prop} {a' : α} : (∀ a, a = a' → p a) ↔ p a' := forall_eq
theorem SD : type_of% (And.intro (And.intro (And.intro (And.intro (And.intro (And.intro @TF @NL) (And.intro @TI (And.intro @TK @Xl))) (And.intro (And.intro @MK @ML) (And.intro @MJ (And.intro @brt @brf)))) (And.intro (And.intro (And.intro @bnt @bnf) (And.intro @pkt (And.intro @pkf @TJ))) (And.intro (And.intro @P1 (And.intro @Kl @Kj)) (And.intro @Km (And.intro @Kk @TH))))) (And.intro (And.intro (And.intro (And.intro @P0 @Kh) (And.intro @Kg (And.intro @Ki @Xm))) (And.intro (And.intro @Lz (And.intro @LA @Ly)) (And.intro @Hw (And.intro @Ko @TG)))) (And.intro (And.intro (And.intro @OV @My) (And.intro @Ip (And.intro @LB @Wc))) (And.intro (And.intro @Wb (And.intro @R6 @Pf)) (And.intro @MM (And.intro @Ace @Acg)))))) (And.intro (And.intro (And.intro (And.intro (And.intro @Acf @W1) (And.intro @W0 (And.intro @WT @WS))) (And.intro (And.intro @SN (And.intro @VO @Ro)) (And.intro @VT (And.intro @Rv @YJ)))) (And.intro (And.intro (And.intro @Rt @Ru) (And.intro @OX (And.intro @OQ @Rq))) (And.intro (And.intro @OO (And.intro @OT @VQ)) (And.intro @OS (And.intro @Mx @Rn))))) (And.intro (And.intro (And.intro (And.intro @VP @Rr) (And.intro @Lx (And.intro @Mv @OR))) (And.intro (And.intro @Rp (And.intro @Rs @OW)) (And.intro @OU (And.intro @YK @OP)))) (And.intro (And.intro (And.intro @VK @Rw) (And.intro @VM (And.intro @VL @Mz))) (And.intro (And.intro @Ry (And.intro @YL @VU)) (And.intro @Rx (And.intro @VN @VS))))))) := (And.intro (And.intro (And.intro (And.intro (And.intro (And.intro @TF @NL) (And.intro @TI (And.intro @TK @Xl))) (And.intro (And.intro @MK @ML) (And.intro @MJ (And.intro @brt @brf)))) (And.intro (And.intro (And.intro @bnt @bnf) (And.intro @pkt (And.intro @pkf @TJ))) (And.intro (And.intro @P1 (And.intro @Kl @Kj)) (And.intro @Km (And.intro @Kk @TH))))) (And.intro (And.intro (And.intro (And.intro @P0 @Kh) (And.intro @Kg (And.intro @Ki @Xm))) (And.intro (And.intro @Lz (And.intro @LA @Ly)) (And.intro @Hw (And.intro @Ko @TG)))) (And.intro (And.intro (And.intro @OV @My) (And.intro @Ip (And.intro @LB @Wc))) (And.intro (And.intro @Wb (And.intro @R6 @Pf)) (And.intro @MM (And.intro @Ace @Acg)))))) (And.intro (And.intro (And.intro (And.intro (And.intro @Acf @W1) (And.intro @W0 (And.intro @WT @WS))) (And.intro (And.intro @SN (And.intro @VO @Ro)) (And.intro @VT (And.intro @Rv @YJ)))) (And.intro (And.intro (And.intro @Rt @Ru) (And.intro @OX (And.intro @OQ @Rq))) (And.intro (And.intro @OO (And.intro @OT @VQ)) (And.intro @OS (And.intro @Mx @Rn))))) (And.intro (And.intro (And.intro (And.intro @VP @Rr) (And.intro @Lx (And.intro @Mv @OR))) (And.intro (And.intro @Rp (And.intro @Rs @OW)) (And.intro @OU (And.intro @YK @OP)))) (And.intro (And.intro (And.intro @VK @Rw) (And.intro @VM (And.intro @VL @Mz))) (And.intro (And.intro @Ry (And.intro @YL @VU)) (And.intro @Rx (And.intro @VN @VS)))))))
theorem SU0 : type_of% (And.intro (And.intro (And.intro (And.intro (And.intro (And.intro (And.intro @Acs (And.intro @Aak @Aaj)) (And.intro (And.intro @Um @Abl) (And.intro @XA @Xz))) (And.intro (And.intro (And.intro @XB @Qj) (And.intro @ZT @ZU)) (And.intro (And.intro @Y0 @NV) (And.intro @Nk @Py)))) (And.intro (And.intro (And.intro (And.intro @Nc @LL) (And.intro @Nj @FI)) (And.intro (And.intro @WU @Nd) (And.intro @Nf @SZ))) (And.intro (And.intro (And.intro @Pz @SM) (And.intro @Lc @SL)) (And.intro (And.intro @Pq @Na) (And.intro @Nb @Pr))))) (And.intro (And.intro (And.intro (And.intro @JU (And.intro @L0 @LY)) (And.intro (And.intro @KN @NS) (And.intro @VB @TB))) (And.intro (And.intro (And.intro @Tw @TA) (And.intro @Tz @Tx)) (And.intro (And.intro @Uc @Ub) (And.intro @Qc @T7)))) (And.intro (And.intro (And.intro (And.intro @Xv @Ua) (And.intro @Qa @Qb)) (And.intro (And.intro @Xw @Qe) (And.intro @Qd @N0))) (And.intro (And.intro (And.intro @L2 @L4) (And.intro @L3 @Xt)) (And.intro (And.intro @P7 @NW) (And.intro @TW @TV)))))) (And.intro (And.intro (And.intro (And.intro (And.intro @Ka (And.intro @Lt @Lu)) (And.intro (And.intro @Lv @Mr) (And.intro @Ms @Kb))) (And.intro (And.intro (And.intro @Lw @PH) (And.intro @Ny @PJ)) (And.intro (And.intro @PI @O7) (And.intro @MF @O8)))) (And.intro (And.intro (And.intro (And.intro @O6 @MG) (And.intro @SW @Xq)) (And.intro (And.intro @TL @TM) (And.intro @P4 @Zl))) (And.intro (And.intro (And.intro @P3 @VV) (And.intro @Tn @O9)) (And.intro (And.intro @TE @Xk) (And.intro @Xc @TD))))) (And.intro (And.intro (And.intro (And.intro @Xi (And.intro @Xh @Xg)) (And.intro (And.intro @Xf @Xe) (And.intro @Xd @TC))) (And.intro (And.intro (And.intro @Ns @S4) (And.intro @S5 @PA)) (And.intro (And.intro @S3 @WO) (And.intro @WC @WH)))) (And.intro (And.intro (And.intro (And.intro @WE @WD) (And.intro @WN @WG)) (And.intro (And.intro @WJ @WK) (And.intro @WL @WM))) (And.intro (And.intro (And.intro @VF @VE) (And.intro @VC @VD)) (And.intro (And.intro @Tu @Tt) (And.intro @YE @YF))))))) (And.intro (And.intro (And.intro (And.intro (And.intro (And.intro @Sj (And.intro @Si @MU)) (And.intro (And.intro @Pc @MH) (And.intro @OG @Lr))) (And.intro (And.intro (And.intro @PD @PC) (And.intro @WZ @SK)) (And.intro (And.intro @Pp @LK) (And.intro @Re @Wy)))) (And.intro (And.intro (And.intro (And.intro @Zs @Wz) (And.intro @Sm @Th)) (And.intro (And.intro @LS @MP) (And.intro @MO @Ph))) (And.intro (And.intro (And.intro @VW @Aa9) (And.intro @Aba @PF)) (And.intro (And.intro @Nx @V2) (And.intro @RG @VY))))) (And.intro (And.intro (And.intro (And.intro @YU (And.intro @V1 @RE)) (And.intro (And.intro @RF @YW) (And.intro @V3 @VX))) (And.intro (And.intro (And.intro @VZ @V0) (And.intro @RU @O5)) (And.intro (And.intro @RQ @V6) (And.intro @RT @O3)))) (And.intro (And.intro (And.intro (And.intro @O4 @V7) (And.intro @RV @DU)) (And.intro (And.intro @OY @OZ) (And.intro @RR @MB))) (And.intro (And.intro (And.intro @MC @MD) (And.intro @Di @Mc)) (And.intro (And.intro @LC @RM) (And.intro @V5 @RN)))))) (And.intro (And.intro (And.intro (And.intro (And.intro @O2 (And.intro @RH @V4)) (And.intro (And.intro @RL @O0) (And.intro @O1 @RO))) (And.intro (And.intro (And.intro @RI @RJ) (And.intro @PV @Wi)) (And.intro (And.intro @ok_int @PU) (And.intro @Rl @Sa)))) (And.intro (And.intro (And.intro (And.intro @Wn @NI) (And.intro @ON @We)) (And.intro (And.intro @Y8 @PQ) (And.intro @Rh @Y5))) (And.intro (And.intro (And.intro @Abd @Tl) (And.intro @VI @Wh)) (And.intro (And.intro @Zb @PT) (And.intro @Rk @R7))))) (And.intro (And.intro (And.intro (And.intro (And.intro @Wk @NF) (And.intro @OK @R8)) (And.intro (And.intro @Wl @NG) (And.intro @OL @R9))) (And.intro (And.intro (And.intro @Wm @NH) (And.intro @OM @Y6)) (And.intro (And.intro @Abe @Tm) (And.intro @VJ @Wf)))) (And.intro (And.intro (And.intro (And.intro @Y9 @PR) (And.intro @Ri @Wg)) (And.intro (And.intro @Za @PS) (And.intro @Rj @Zc))) (And.intro (And.intro (And.intro @Rm @Zt) (And.intro @S7 @S6)) (And.intro (And.intro @Nu @PB) (And.intro @WQ @Zz)))))))) := (And.intro (And.intro (And.intro (And.intro (And.intro (And.intro (And.intro @Acs (And.intro @Aak @Aaj)) (And.intro (And.intro @Um @Abl) (And.intro @XA @Xz))) (And.intro (And.intro (And.intro @XB @Qj) (And.intro @ZT @ZU)) (And.intro (And.intro @Y0 @NV) (And.intro @Nk @Py)))) (And.intro (And.intro (And.intro (And.intro @Nc @LL) (And.intro @Nj @FI)) (And.intro (And.intro @WU @Nd) (And.intro @Nf @SZ))) (And.intro (And.intro (And.intro @Pz @SM) (And.intro @Lc @SL)) (And.intro (And.intro @Pq @Na) (And.intro @Nb @Pr))))) (And.intro (And.intro (And.intro (And.intro @JU (And.intro @L0 @LY)) (And.intro (And.intro @KN @NS) (And.intro @VB @TB))) (And.intro (And.intro (And.intro @Tw @TA) (And.intro @Tz @Tx)) (And.intro (And.intro @Uc @Ub) (And.intro @Qc @T7)))) (And.intro (And.intro (And.intro (And.intro @Xv @Ua) (And.intro @Qa @Qb)) (And.intro (And.intro @Xw @Qe) (And.intro @Qd @N0))) (And.intro (And.intro (And.intro @L2 @L4) (And.intro @L3 @Xt)) (And.intro (And.intro @P7 @NW) (And.intro @TW @TV)))))) (And.intro (And.intro (And.intro (And.intro (And.intro @Ka (And.intro @Lt @Lu)) (And.intro (And.intro @Lv @Mr) (And.intro @Ms @Kb))) (And.intro (And.intro (And.intro @Lw @PH) (And.intro @Ny @PJ)) (And.intro (And.intro @PI @O7) (And.intro @MF @O8)))) (And.intro (And.intro (And.intro (And.intro @O6 @MG) (And.intro @SW @Xq)) (And.intro (And.intro @TL @TM) (And.intro @P4 @Zl))) (And.intro (And.intro (And.intro @P3 @VV) (And.intro @Tn @O9)) (And.intro (And.intro @TE @Xk) (And.intro @Xc @TD))))) (And.intro (And.intro (And.intro (And.intro @Xi (And.intro @Xh @Xg)) (And.intro (And.intro @Xf @Xe) (And.intro @Xd @TC))) (And.intro (And.intro (And.intro @Ns @S4) (And.intro @S5 @PA)) (And.intro (And.intro @S3 @WO) (And.intro @WC @WH)))) (And.intro (And.intro (And.intro (And.intro @WE @WD) (And.intro @WN @WG)) (And.intro (And.intro @WJ @WK) (And.intro @WL @WM))) (And.intro (And.intro (And.intro @VF @VE) (And.intro @VC @VD)) (And.intro (And.intro @Tu @Tt) (And.intro @YE @YF))))))) (And.intro (And.intro (And.intro (And.intro (And.intro (And.intro @Sj (And.intro @Si @MU)) (And.intro (And.intro @Pc @MH) (And.intro @OG @Lr))) (And.intro (And.intro (And.intro @PD @PC) (And.intro @WZ @SK)) (And.intro (And.intro @Pp @LK) (And.intro @Re @Wy)))) (And.intro (And.intro (And.intro (And.intro @Zs @Wz) (And.intro @Sm @Th)) (And.intro (And.intro @LS @MP) (And.intro @MO @Ph))) (And.intro (And.intro (And.intro @VW @Aa9) (And.intro @Aba @PF)) (And.intro (And.intro @Nx @V2) (And.intro @RG @VY))))) (And.intro (And.intro (And.intro (And.intro @YU (And.intro @V1 @RE)) (And.intro (And.intro @RF @YW) (And.intro @V3 @VX))) (And.intro (And.intro (And.intro @VZ @V0) (And.intro @RU @O5)) (And.intro (And.intro @RQ @V6) (And.intro @RT @O3)))) (And.intro (And.intro (And.intro (And.intro @O4 @V7) (And.intro @RV @DU)) (And.intro (And.intro @OY @OZ) (And.intro @RR @MB))) (And.intro (And.intro (And.intro @MC @MD) (And.intro @Di @Mc)) (And.intro (And.intro @LC @RM) (And.intro @V5 @RN)))))) (And.intro (And.intro (And.intro (And.intro (And.intro @O2 (And.intro @RH @V4)) (And.intro (And.intro @RL @O0) (And.intro @O1 @RO))) (And.intro (And.intro (And.intro @RI @RJ) (And.intro @PV @Wi)) (And.intro (And.intro @ok_int @PU) (And.intro @Rl @Sa)))) (And.intro (And.intro (And.intro (And.intro @Wn @NI) (And.intro @ON @We)) (And.intro (And.intro @Y8 @PQ) (And.intro @Rh @Y5))) (And.intro (And.intro (And.intro @Abd @Tl) (And.intro @VI @Wh)) (And.intro (And.intro @Zb @PT) (And.intro @Rk @R7))))) (And.intro (And.intro (And.intro (And.intro (And.intro @Wk @NF) (And.intro @OK @R8)) (And.intro (And.intro @Wl @NG) (And.intro @OL @R9))) (And.intro (And.intro (And.intro @Wm @NH) (And.intro @OM @Y6)) (And.intro (And.intro @Abe @Tm) (And.intro @VJ @Wf)))) (And.intro (And.intro (And.intro (And.intro @Y9 @PR) (And.intro @Ri @Wg)) (And.intro (And.intro @Za @PS) (And.intro @Rj @Zc))) (And.intro (And.intro (And.intro @Rm @Zt) (And.intro @S7 @S6)) (And.intro (And.intro @Nu @PB) (And.intro @WQ @Zz))))))))
theorem SB : type_of% (And.intro (And.intro (And.intro (And.intro (And.intro (And.intro @List.map_cons.{0,0} @List.map_nil.{0,0}) (And.intro @List.drop_succ_cons.{0} @List.drop_zero.{0})) (And.intro (And.intro @List.take_succ_cons.{0} @List.take_zero.{0}) (And.intro @List.take_nil.{0} @List.drop_nil.{0}))) (And.intro (And.intro (And.intro @List.getD_cons_zero.{0} @List.getD_cons_succ.{0}) (And.intro @List.length_cons.{0} @List.length_nil.{0})) (And.intro (And.intro @List.cons_append.{0} @List.nil_append.{0}) (And.intro @List.append_nil.{0} (And.intro @List.replicate_succ.{0} @List.replicate_zero.{0}))))) (And.intro (And.intro (And.intro (And.intro @List.set_cons_zero.{0} @List.set_cons_succ.{0}) (And.intro @Option.map_some.{0,0} @Option.map_none.{0,0})) (And.intro (And.intro @Nat.add_zero @Nat.zero_add) (And.intro @decide_eq_true_eq (And.intro @decide_eq_false_iff_not @Bool.not_eq_true')))) (And.intro (And.intro (And.intro @Bool.not_eq_false' @Bool.not_true) (And.intro @Bool.not_false @true_and)) (And.intro (And.intro @and_true @not_false_eq_true) (And.intro @not_true_eq_false (And.intro @Int.toNat_natCast @Nat.lt_add_one)))))) (And.intro (And.intro (And.intro (And.intro (And.intro @Bool.decide_eq_true @Bool.true_eq_false) (And.intro @Bool.false_eq_true @false_implies)) (And.intro (And.intro @true_implies @List.mem_cons.{0}) (And.intro @List.not_mem_nil.{0} @or_false))) (And.intro (And.intro (And.intro @Int.ofNat_lt @Int.ofNat_le) (And.intro @Int.natCast_inj @Int.natCast_zero)) (And.intro (And.intro @Int.natCast_one @Int.cast_ofNat_Int) (And.intro @Int.natCast_nonneg (And.intro @Nat.zero_le @Nat.le_refl))))) (And.intro (And.intro (And.intro (And.intro @List.contains_nil.{0} @List.contains_cons.{0}) (And.intro @Bool.or_false @Bool.or_true)) (And.intro (And.intro @Bool.false_or @Bool.true_or) (And.intro @decide_true (And.intro @decide_false @Bool.false_and)))) (And.intro (And.intro (And.intro @Bool.true_and @Bool.and_true) (And.intro @Bool.and_false @zA.{0})) (And.intro (And.intro @zA.{1} @zI.{0}) (And.intro @zI.{1} (And.intro @zN.{1} @zE.{1}))))))) := (And.intro (And.intro (And.intro (And.intro (And.intro (And.intro @List.map_cons.{0,0} @List.map_nil.{0,0}) (And.intro @List.drop_succ_cons.{0} @List.drop_zero.{0})) (And.intro (And.intro @List.take_succ_cons.{0} @List.take_zero.{0}) (And.intro @List.take_nil.{0} @List.drop_nil.{0}))) (And.intro (And.intro (And.intro @List.getD_cons_zero.{0} @List.getD_cons_succ.{0}) (And.intro @List.length_cons.{0} @List.length_nil.{0})) (And.intro (And.intro @List.cons_append.{0} @List.nil_append.{0}) (And.intro @List.append_nil.{0} (And.intro @List.replicate_succ.{0} @List.replicate_zero.{0}))))) (And.intro (And.intro (And.intro (And.intro @List.set_cons_zero.{0} @List.set_cons_succ.{0}) (And.intro @Option.map_some.{0,0} @Option.map_none.{0,0})) (And.intro (And.intro @Nat.add_zero @Nat.zero_add) (And.intro @decide_eq_true_eq (And.intro @decide_eq_false_iff_not @Bool.not_eq_true')))) (And.intro (And.intro (And.intro @Bool.not_eq_false' @Bool.not_true) (And.intro @Bool.not_false @true_and)) (And.intro (And.intro @and_true @not_false_eq_true) (And.intro @not_true_eq_false (And.intro @Int.toNat_natCast @Nat.lt_add_one)))))) (And.intro (And.intro (And.intro (And.intro (And.intro @Bool.decide_eq_true @Bool.true_eq_false) (And.intro @Bool.false_eq_true @false_implies)) (And.intro (And.intro @true_implies @List.mem_cons.{0}) (And.intro @List.not_mem_nil.{0} @or_false))) (And.intro (And.intro (And.intro @Int.ofNat_lt @Int.ofNat_le) (And.intro @Int.natCast_inj @Int.natCast_zero)) (And.intro (And.intro @Int.natCast_one @Int.cast_ofNat_Int) (And.intro @Int.natCast_nonneg (And.intro @Nat.zero_le @Nat.le_refl))))) (And.intro (And.intro (And.intro (And.intro @List.contains_nil.{0} @List.contains_cons.{0}) (And.intro @Bool.or_false @Bool.or_true)) (And.intro (And.intro @Bool.false_or @Bool.true_or) (And.intro @decide_true (And.intro @decide_false @Bool.false_and)))) (And.intro (And.intro (And.intro @Bool.true_and @Bool.and_true) (And.intro @Bool.and_false @zA.{0})) (And.intro (And.intro @zA.{1} @zI.{0}) (And.intro @zI.{1} (And.intro @zN.{1} @zE.{1})))))))

theorem SU : type_of% (And.intro SU0 SB) := And.intro SU0 SB
end Go.Proofs.YtoffpbehgncakaaGreat.Av
