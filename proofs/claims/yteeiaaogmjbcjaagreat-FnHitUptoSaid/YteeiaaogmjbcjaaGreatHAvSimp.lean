/-
 THE RULES BY WHICH AN ABSTRACT TEXT IS CARRIED OUT: for simp. Conditions: none.
-/
import Derived.Test.YteeiaaogmjbcjaaGreatHAvDraw
set_option linter.unusedVariables false
namespace Go.Proofs.YteeiaaogmjbcjaaGreat.Av
open Go.RowKit

theorem eqq {α : Sort _} {a b : α} (h : a = b) : a = b := h
structure Keep {α : Type} (a : α) : Type where
 mk ::
def Bd {α : Type} (m : (α → Prop) → Prop) (k : α → Prop) (h : Keep k) : Prop := m k
def Bd2 (m : (AV → Hp → Prop) → Prop) (k : AV → Hp → Prop) (h : Keep k) : Prop := m k
theorem Bd_k {α : Type} (v : α) (K : α → Prop) (h : Keep K) : Bd (fun k => k v) K h = K v := eqq rfl
theorem Bd_and {α : Type} (A B : (α → Prop) → Prop) (K : α → Prop) (h : Keep K) : Bd (fun k => A k ∧ B k) K h = (Bd A K h ∧ Bd B K h) := eqq rfl
theorem Bd_imp {α : Type} (c : Prop) (B : (α → Prop) → Prop) (K : α → Prop) (h : Keep K) : Bd (fun k => c → B k) K h = (c → Bd B K h) := eqq rfl
theorem Bd_const {α : Type} (c : Prop) (K : α → Prop) (h : Keep K) : Bd (fun _ => c) K h = c := eqq rfl
theorem Bd2_k (v : AV) (hp : Hp) (K : AV → Hp → Prop) (h : Keep K) : Bd2 (fun k => k v hp) K h = K v hp := eqq rfl
theorem Bd2_and (A B : (AV → Hp → Prop) → Prop) (K : AV → Hp → Prop) (h : Keep K) : Bd2 (fun k => A k ∧ B k) K h = (Bd2 A K h ∧ Bd2 B K h) := eqq rfl
theorem Bd2_imp (c : Prop) (B : (AV → Hp → Prop) → Prop) (K : AV → Hp → Prop) (h : Keep K) : Bd2 (fun k => c → B k) K h = (c → Bd2 B K h) := eqq rfl
theorem Bd2_all {β : Type} (B : β → (AV → Hp → Prop) → Prop) (K : AV → Hp → Prop) (h : Keep K) : Bd2 (fun k => ∀ v, B v k) K h = ∀ v, Bd2 (B v) K h := eqq rfl
theorem Bd2_const (c : Prop) (K : AV → Hp → Prop) (h : Keep K) : Bd2 (fun _ => c) K h = c := eqq rfl

section
variable (P : Program) (Q : Exit → St → Prop) (fr : List (Nat × AV)) (hp : Hp) (K : AV → Hp → Prop) (k : AV → Prop)

theorem awp_skip (s : St) : awp P .skip Q s = Q .normal s := eqq rfl
theorem awp_region (l : List IOper) (s : St) : awp P (.region l) Q s = awpOps P (Q .normal) l s := eqq rfl
theorem awp_draw (l : List IOper) (s : St) : awp P (.draw l) Q s = awpOps P (Q .normal) l s := eqq rfl
theorem awp_both (a b : ICode) (s : St) : awp P (.both a b) Q s = (awp P a Q s ∧ awp P b Q s) := eqq rfl
def QSeq (P : Program) (b : ICode) (Q : Exit → St → Prop) : Exit → St → Prop := fun e s' => match e with | .normal => awp P b Q s' | e => Q e s'
theorem awp_seq (a b : ICode) (s : St) : awp P (.seq a b) Q s = awp P a (QSeq P b Q) s := eqq rfl
theorem ops_qseq_n (b : ICode) (s : St) : QSeq P b Q .normal s = awp P b Q s := eqq rfl
theorem ops_qseq_e (b : ICode) (i : Nat) (s : St) : QSeq P b Q (.exit i) s = Q (.exit i) s := eqq rfl
theorem ops_qseq_r (b : ICode) (s : St) : QSeq P b Q .ret s = Q .ret s := eqq rfl
def Br (b : Bool) (A B : Prop) (h : Keep A) (h' : Keep B) : Prop := (b = true → A) ∧ (b = false → B)
theorem brt (A B : Prop) (h : Keep A) (h' : Keep B) : Br true A B h h' = A := propext ⟨fun x => x.1 (eqq rfl), fun x => ⟨fun _ => x, fun e => by cases e⟩⟩
theorem brf (A B : Prop) (h : Keep A) (h' : Keep B) : Br false A B h h' = B := propext ⟨fun x => x.2 (eqq rfl), fun x => ⟨fun e => (by cases e), fun _ => x⟩⟩
theorem br_any (b : Bool) (A B : Prop) (h : Keep A) (h' : Keep B) : Br b A B h h' = ((b = true → A) ∧ (b = false → B)) := eqq rfl
def Bn (b : Bool) (A B : Prop) (h : Keep A) (h' : Keep B) : Prop := (b = false → A) ∧ (b = true → B)
theorem bnt (A B : Prop) (h : Keep A) (h' : Keep B) : Bn true A B h h' = B := propext ⟨fun x => x.2 (eqq rfl), fun x => ⟨fun e => (by cases e), fun _ => x⟩⟩
theorem bnf (A B : Prop) (h : Keep A) (h' : Keep B) : Bn false A B h h' = A := propext ⟨fun x => x.1 (eqq rfl), fun x => ⟨fun _ => x, fun e => by cases e⟩⟩
theorem bn_any (b : Bool) (A B : Prop) (h : Keep A) (h' : Keep B) : Bn b A B h h' = ((b = false → A) ∧ (b = true → B)) := eqq rfl
def Pk (t : Bool) (a b : AV) (k : AV → Prop) : Prop := (t = true → k a) ∧ (t = false → k b)
theorem pkt (a b : AV) (k : AV → Prop) : Pk true a b k = k a := propext ⟨fun x => x.1 (eqq rfl), fun x => ⟨fun _ => x, fun e => by cases e⟩⟩
theorem pkf (a b : AV) (k : AV → Prop) : Pk false a b k = k b := propext ⟨fun x => x.2 (eqq rfl), fun x => ⟨fun e => (by cases e), fun _ => x⟩⟩
theorem pk_any (t : Bool) (a b : AV) (k : AV → Prop) : Pk t a b k = ((t = true → k a) ∧ (t = false → k b)) := eqq rfl
def aCond (x : AV) (A B : Prop) (h : Keep A) (h' : Keep B) : Prop :=
 match x with
 | .bool t => (t = true → A) ∧ (t = false → B)
 | _ => False
theorem awp_cond (c : IArg) (a b : ICode) (s : St) : awp P (.cond c a b) Q s = aCond (c.ev (fget s.fr)) (awp P a Q s) (awp P b Q s) ⟨⟩ ⟨⟩ := eqq rfl
theorem aCond_bool (t : Bool) (A B : Prop) (h : Keep A) (h' : Keep B) : aCond (.bool t) A B h h' = Br t A B h h' := eqq rfl
def QBlock (id : Nat) (Q : Exit → St → Prop) : Exit → St → Prop := fun e s' => match e with | .exit id' => if id' = id then Q .normal s' else Q (.exit id') s' | e => Q e s'
theorem awp_block (id : Nat) (a : ICode) (s : St) : awp P (.block id a) Q s = awp P a (QBlock id Q) s := eqq rfl
theorem ops_qblock_n (id : Nat) (s : St) : QBlock id Q .normal s = Q .normal s := eqq rfl
theorem ops_qblock_r (id : Nat) (s : St) : QBlock id Q .ret s = Q .ret s := eqq rfl
theorem ops_qblock_e (id : Nat) (s : St) : QBlock id Q (.exit id) s = Q .normal s := by simp [QBlock]
theorem ops_qblock_o {i id : Nat} (h : (i == id) = false) (s : St) : QBlock id Q (.exit i) s = Q (.exit i) s := by simp [QBlock, beq_eq_false_iff_ne.1 h]
theorem awp_exit (id : Nat) (s : St) : awp P (.exit id) Q s = Q (.exit id) s := eqq rfl
def QScope (Q : Exit → St → Prop) : Exit → St → Prop := fun e s' => match e with | .goto _ => False | e => Q e s'
theorem awp_scope (a : ICode) (s : St) : awp P (.scope a) Q s = awp P a (QScope Q) s := eqq rfl
theorem ops_qscope_n (s : St) : QScope Q .normal s = Q .normal s := eqq rfl
theorem ops_qscope_r (s : St) : QScope Q .ret s = Q .ret s := eqq rfl
theorem ops_qscope_e (i : Nat) (s : St) : QScope Q (.exit i) s = Q (.exit i) s := eqq rfl
theorem awp_ret : awp P .ret Q ⟨fr, hp⟩ = Bd (fun k => k (frzAll hp)) (fun hp => Q .ret ⟨fr, hp⟩) ⟨⟩ := eqq rfl
theorem frzAll_nil : frzAll [] = [] := eqq rfl
theorem frzAll_as (hp : Hp) : frzAll hp = frzL (hnames hp) (frzL (hnames hp) hp) := eqq rfl
theorem hnames_nil : hnames [] = [] := eqq rfl
theorem hnames_cons (j : Nat) (b : Box) (r : Hp) : hnames ((j, b) :: r) = if (hnames r).contains j then hnames r else j :: hnames r := eqq rfl
theorem frzL_nil (hp : Hp) : frzL [] hp = hp := eqq rfl
theorem frzL_cons (j : Nat) (r : List Nat) (hp : Hp) : frzL (j :: r) hp = frzL r (hfrz hp j) := eqq rfl
def hfrzB (bx : Option Box) (hp : Hp) (j : Nat) : Hp :=
 match bx with
 | some b => (j, { b with frz := true, es := b.es.map (AV.pur hp) }) :: hp
 | none => hp
theorem hfrz_as (hp : Hp) (j : Nat) : hfrz hp j = hfrzB (hget hp j) hp j := eqq rfl
theorem hfrzB_some (ver : Nat) (z : Bool) (ty : TypeId) (esz : Nat) (es : List AV) (hp : Hp) (j : Nat) : hfrzB (some ⟨ver, z, ty, esz, es⟩) hp j = (j, ⟨ver, true, ty, esz, es.map (AV.pur hp)⟩) :: hp := eqq rfl
theorem hfrzB_none (hp : Hp) (j : Nat) : hfrzB none hp j = hp := eqq rfl
/-! loops -/
def QLoop {X : Type} (I : X → St) (pre : X → Prop) (m : X → Nat) (x : X) (Q : Exit → St → Prop) : Exit → St → Prop := fun e s' => match e with | .normal => Goes s' (fun t => ∃ x', (pre x' ∧ m x' < m x) ∧ t = I x') | e => Q e s'
theorem ops_qloop_n {X : Type} (I : X → St) (pre : X → Prop) (m : X → Nat) (x : X) (s : St) : QLoop I pre m x Q .normal s = Goes s (fun t => ∃ x', (pre x' ∧ m x' < m x) ∧ t = I x') := eqq rfl
theorem ops_qloop_e {X : Type} (I : X → St) (pre : X → Prop) (m : X → Nat) (x : X) (i : Nat) (s : St) : QLoop I pre m x Q (.exit i) s = Q (.exit i) s := eqq rfl
theorem ops_qloop_r {X : Type} (I : X → St) (pre : X → Prop) (m : X → Nat) (x : X) (s : St) : QLoop I pre m x Q .ret s = Q .ret s := eqq rfl
theorem aLoop_of {P : Program} {Q : Exit → St → Prop} {a : ICode} {s : St} {X : Type} (I : X → St) (pre : X → Prop) (m : X → Nat) (x0 : X) (h0 : pre x0) (h1 : frLe s.fr (I x0).fr) (h2 : hpLe s.hp (I x0).hp) (hr : ∀ x, pre x → awp P a (QLoop I pre m x Q) (I x)) : awp P (.loop a) Q s :=
 ⟨X, I, pre, m, Goes.le ⟨x0, h0, rfl⟩ h1 h2, hr⟩
theorem aLoop_goes {P : Program} {Q : Exit → St → Prop} {a : ICode} {s : St} {X : Type} (I : X → St) (pre : X → Prop) (m : X → Nat) (h0 : Goes s (fun t => ∃ x, pre x ∧ t = I x)) (hr : ∀ x, pre x → awp P a (QLoop I pre m x Q) (I x)) : awp P (.loop a) Q s :=
 ⟨X, I, pre, m, h0, hr⟩
theorem ghost_of {P : Program} {Q : Exit → St → Prop} {a : ICode} {s : St} (h : Goes s (fun t => awp P a Q t)) : awp P (.ghost a) Q s := h
theorem Goes.here {s : St} {T : St → Prop} (h : T s) : Goes s T := ⟨fun _ _ a w hr => ⟨s, h, hr⟩⟩
theorem frLe_nil (s : List (Nat × AV)) : frLe s [] = True := eqq rfl
theorem frLe_cons (s : List (Nat × AV)) (i : Nat) (x : AV) (r : List (Nat × AV)) : frLe s ((i, x) :: r) = (fget s i = x ∧ frLe s r) := eqq rfl
theorem hpLe_nil (s : Hp) : hpLe s [] = True := eqq rfl
theorem hpLe_cons (s : Hp) (i : Nat) (x : Box) (r : Hp) : hpLe s ((i, x) :: r) = (hget s i = some x ∧ hpLe s r) := eqq rfl
/-! a function that is handed own rows -/
def PostH (rs : List IRes) (Post : AV → Hp → Prop) (t : St) : Prop := aResults t.hp (fget t.fr) rs fun xs => ∃ hp', hpLe t.hp hp' ∧ Post (finR t.hp xs) hp'
theorem ops_RetH_normal (rs : List IRes) (Post : AV → Hp → Prop) (s : St) : RetH rs Post .normal s = Goes s (PostH rs Post) := eqq rfl
theorem ops_RetH_ret (rs : List IRes) (Post : AV → Hp → Prop) (s : St) : RetH rs Post .ret s = Goes s (PostH rs Post) := eqq rfl
theorem Goes.post {rs : List IRes} {Post : AV → Hp → Prop} {s : St} (hp' : Hp) (h : aResults s.hp (fget s.fr) rs fun xs => hpLe s.hp hp' ∧ Post (finR s.hp xs) hp') : Goes s (PostH rs Post) := by
 refine Goes.here ?_
 have : ∀ {l : List IRes} {K K' : List AV → Prop}, (∀ ys, K ys → K' ys) → aResults s.hp (fget s.fr) l K → aResults s.hp (fget s.fr) l K' := by
  intro l
  induction l with
  | nil => intro K K' hk h; exact hk _ h
  | cons r l ih =>
   intro K K' hk h
   unfold aResults at h ⊢
   cases r with
   | t i => exact ih (fun ys hy => hk _ hy) h
   | c g n i =>
    simp only [aRes, aLoad] at h ⊢
    split at h
    ·unfold aPart at h ⊢; cases g <;> exact ⟨h.1, ih (fun ys hy => hk _ hy) h.2⟩
    ·split at h
     ·refine ⟨h.1, ?_⟩; have h := h.2; unfold aPart at h ⊢; cases g <;> exact ⟨h.1, ih (fun ys hy => hk _ hy) h.2⟩
     ·exact h
    ·exact h
 exact this (fun ys hy => ⟨hp', hy⟩) h
theorem awp_retK (s : St) : awp P .retK Q s = Q .ret s := eqq rfl
theorem hsel_nil (hp : Hp) : hsel [] hp = [] := eqq rfl
def hselB (bx : Option Box) (j : Nat) (r : Hp) : Hp :=
 match bx with
 | some b => (j, b) :: r
 | none => r
theorem hsel_cons (j : Nat) (r : List Nat) (hp : Hp) : hsel (j :: r) hp = hselB (hget hp j) j (hsel r hp) := by
 unfold hsel hselB; rw [List.filterMap_cons]; cases hget hp j <;> rfl
theorem hselB_some (b : Box) (j : Nat) (r : Hp) : hselB (some b) j r = (j, b) :: r := eqq rfl
theorem hselB_none (j : Nat) (r : Hp) : hselB none j r = r := eqq rfl
theorem hrest_nil (hs : List Nat) : hrest hs [] = [] := eqq rfl
theorem hrest_cons (hs : List Nat) (j : Nat) (b : Box) (r : Hp) : hrest hs ((j, b) :: r) = if hs.contains j then hrest hs r else (j, b) :: hrest hs r := by
 unfold hrest; rw [List.filter_cons]; cases hs.contains j <;> rfl
def aCallHK (P : Program) (f : FuncId) (args : List AV) (hp : Hp) (k : AV → Hp → Prop) : Prop := aCallH P f args hp k
theorem aCallH_of {P : Program} {f : FuncId} {args : List AV} {hp hp0 : Hp} {k : AV → Hp → Prop} {Post : AV → Hp → Prop} (hs : List Nat) (h : CallsH P f args hp0 Post) {kp : Keep k} (he : hsel hs hp = hp0) (hk : ∀ r hp', Post r hp' → k r (hp' ++ hrest hs hp)) : Bd2 (fun k => aCallHK P f args hp k) k kp := ⟨hs, Post, .inl ⟨by rw [he]; exact h, hk⟩⟩
theorem sem_callH (F : Nat → AV) (f : FuncId) (as : List IArg) : (IOp.callH f as).sem P F hp K = Bd2 (fun k => aCallHK P f (as.map fun x => (x.ev F).purA hp) hp k) K ⟨⟩ := eqq rfl
def aCallvHK (P : Program) (x : AV) (args : List AV) (hp : Hp) (k : AV → Hp → Prop) : Prop := aCallvH P x args hp k
theorem sem_callvH (F : Nat → AV) (f : IArg) (as : List IArg) : (IOp.callvH f as).sem P F hp K = Bd2 (fun k => aCallvHK P ((f.ev F).purA hp) (as.map fun x => (x.ev F).purA hp) hp k) K ⟨⟩ := eqq rfl
theorem aCallvHK_fn (f : FuncId) (caps args : List AV) : aCallvHK P (.fn f caps) args hp K = aCallHK P f (args ++ caps) hp K := eqq rfl
theorem ops_Ret_normal (rs : List IRes) (res : AV) (s : St) : Ret rs res .normal s = aResults s.hp (fget s.fr) rs fun xs => finR s.hp xs = res := eqq rfl
theorem ops_Ret_ret (rs : List IRes) (res : AV) (s : St) : Ret rs res .ret s = aResults s.hp (fget s.fr) rs fun xs => finR s.hp xs = res := eqq rfl

theorem ops_nil (R : St → Prop) (s : St) : awpOps P R [] s = R s := eqq rfl
theorem ops_one (R : St → Prop) (d : Nat) (op : IOp) (l : List IOper) : awpOps P R (⟨some d, none, op⟩ :: l) ⟨fr, hp⟩ = op.sem P (fget fr) hp fun v hp => awpOps P R l ⟨(d, v) :: fr, hp⟩ := eqq rfl
theorem ops_zero (R : St → Prop) (op : IOp) (l : List IOper) : awpOps P R (⟨none, none, op⟩ :: l) ⟨fr, hp⟩ = op.sem P (fget fr) hp fun v hp => awpOps P R l ⟨fr, hp⟩ := eqq rfl
def aGuard (x : AV) (want : Bool) (A B : Prop) (h : Keep A) (h' : Keep B) : Prop :=
 match x with
 | .bool b => (b = want → A) ∧ (b = (!want) → B)
 | .tup _ => B
 | _ => False
theorem ops_guard (R : St → Prop) (d t : Nat) (want : Bool) (op : IOp) (l : List IOper) : awpOps P R (⟨some d, some (t, want), op⟩ :: l) ⟨fr, hp⟩ = aGuard (fget fr t) want (op.sem P (fget fr) hp fun v hp => awpOps P R l ⟨(d, v) :: fr, hp⟩) (awpOps P R l ⟨(d, .tup []) :: fr, hp⟩) ⟨⟩ ⟨⟩ := eqq rfl
theorem ops_guard0 (R : St → Prop) (t : Nat) (want : Bool) (op : IOp) (l : List IOper) : awpOps P R (⟨none, some (t, want), op⟩ :: l) ⟨fr, hp⟩ = aGuard (fget fr t) want (op.sem P (fget fr) hp fun v hp => awpOps P R l ⟨fr, hp⟩) (awpOps P R l ⟨fr, hp⟩) ⟨⟩ ⟨⟩ := eqq rfl
theorem aGuard_true (b : Bool) (A B : Prop) (h : Keep A) (h' : Keep B) : aGuard (.bool b) true A B h h' = Br b A B h h' := eqq rfl
theorem aGuard_false (b : Bool) (A B : Prop) (h : Keep A) (h' : Keep B) : aGuard (.bool b) false A B h h' = Bn b A B h h' := eqq rfl
theorem aGuard_tup (xs : List AV) (want : Bool) (A B : Prop) (h : Keep A) (h' : Keep B) : aGuard (.tup xs) want A B h h' = B := eqq rfl

theorem ev_t (F : Nat → AV) (i : Nat) : IArg.ev F (.t i) = F i := eqq rfl
theorem ev_c (F : Nat → AV) (x : AV) : IArg.ev F (.c x) = x := eqq rfl
theorem ev_s (F : Nat → AV) (l : List Nat) : IArg.ev F (.s l) = .str (bs l) := eqq rfl
theorem str_nil : AV.str ⟨⟨[]⟩⟩ = AV.str (bs []) := eqq rfl
theorem fget_eq (i : Nat) (x : AV) : fget ((i, x) :: fr) i = x := by simp [fget]
theorem fget_ne {i j : Nat} (x : AV) (h : (i == j) = false) : fget ((i, x) :: fr) j = fget fr j := by simp [fget, (beq_eq_false_iff_ne.1 h)]
theorem hget_eq (i : Nat) (x : Box) : hget ((i, x) :: hp) i = some x := by simp [hget]
theorem hget_ne {i j : Nat} (x : Box) (h : (i == j) = false) : hget ((i, x) :: hp) j = hget hp j := by simp [hget, (beq_eq_false_iff_ne.1 h)]
theorem hget_nil (i : Nat) : hget [] i = none := eqq rfl

theorem sem_mov (F : Nat → AV) (x : IArg) : (IOp.mov x).sem P F hp K = Bd (fun k => k (x.ev F)) (fun v => K v hp) ⟨⟩ := eqq rfl
theorem sem_pick (F : Nat → AV) (c a b : IArg) : (IOp.pick c a b).sem P F hp K = Bd (fun k => aPick (c.ev F) (a.ev F) (b.ev F) k) (fun v => K v hp) ⟨⟩ := eqq rfl
theorem sem_bin (F : Nat → AV) (op : BinOp) (kd : EqK) (x y : IArg) : (IOp.bin op kd x y).sem P F hp K = Bd (fun k => aBin op kd (x.ev F) (y.ev F) k) (fun v => K v hp) ⟨⟩ := eqq rfl
theorem sem_binw (F : Nat → AV) (op : BinOp) (x y : IArg) : (IOp.binw op x y).sem P F hp K = Bd (fun k => aBinw op (x.ev F) (y.ev F) k) (fun v => K v hp) ⟨⟩ := eqq rfl
theorem binw_add (q : IntKind) (a b : Int) : aBinw .add (.int q a) (.int q b) k = k (.int q (q.wrap (a + b))) := by simp [aBinw]
theorem binw_sub (q : IntKind) (a b : Int) : aBinw .sub (.int q a) (.int q b) k = k (.int q (q.wrap (a - b))) := by simp [aBinw]
theorem binw_mul (q : IntKind) (a b : Int) : aBinw .mul (.int q a) (.int q b) k = k (.int q (q.wrap (a * b))) := by simp [aBinw]
theorem binw_shl (q r : IntKind) (a b : Int) : aBinw .shl (.int q a) (.int r b) k = (0 ≤ b ∧ k (.int q (q.wrap (a * 2 ^ (min b.toNat q.bits))))) := by simp [aBinw]
theorem binw_shr (q r : IntKind) (a b : Int) : aBinw .shr (.int q a) (.int r b) k = ((0 ≤ b ∧ inR q (a.fdiv (2 ^ (min b.toNat q.bits)))) ∧ k (.int q (a.fdiv (2 ^ (min b.toNat q.bits))))) := by simp [aBinw]
theorem sem_un (F : Nat → AV) (op : UnOp) (x : IArg) : (IOp.un op x).sem P F hp K = Bd (fun k => aUn op (x.ev F) k) (fun v => K v hp) ⟨⟩ := eqq rfl
def aBox (x : AV) (hp : Hp) (k : AV → Prop) : Prop := x.ok = true ∧ k (.obj (x.pur hp).cells)
theorem sem_boxP (F : Nat → AV) (x : IArg) : (IOp.boxP x).sem P F hp K = Bd (fun k => aBox (x.ev F) hp k) (fun v => K v hp) ⟨⟩ := eqq rfl
theorem aBox_agg (cs : List AV) : aBox (.agg cs) hp k = k (.obj (cs.map (AV.pur1 hp))) := by simp [aBox, AV.ok, AV.one, AV.isAgg, AV.pur, AV.cells]
theorem aBox_int (q : IntKind) (n : Int) : aBox (.int q n) hp k = k (.obj [.int q n]) := by simp [aBox, AV.ok, AV.one, AV.isAgg, AV.pur, AV.pur1, AV.cells]
theorem aBox_bool (b : Bool) : aBox (.bool b) hp k = k (.obj [.bool b]) := by simp [aBox, AV.ok, AV.one, AV.isAgg, AV.pur, AV.pur1, AV.cells]
theorem aBox_str (s : ByteArray) : aBox (.str s) hp k = k (.obj [.str s]) := by simp [aBox, AV.ok, AV.one, AV.isAgg, AV.pur, AV.pur1, AV.cells]
theorem aBox_sl (es : List AV) : aBox (.sl es) hp k = k (.obj [.sl es]) := by simp [aBox, AV.ok, AV.one, AV.isAgg, AV.pur, AV.pur1, AV.cells]
theorem aBox_obj (cs : List AV) : aBox (.obj cs) hp k = k (.obj [.obj cs]) := by simp [aBox, AV.ok, AV.one, AV.isAgg, AV.pur, AV.pur1, AV.cells]
theorem aBox_nils : aBox .nils hp k = k (.obj [.nils]) := by simp [aBox, AV.ok, AV.one, AV.isAgg, AV.pur, AV.pur1, AV.cells]
theorem aBox_nilp : aBox .nilp hp k = k (.obj [.nilp]) := by simp [aBox, AV.ok, AV.one, AV.isAgg, AV.pur, AV.pur1, AV.cells]
theorem aBox_fn (f : FuncId) (cs : List AV) : aBox (.fn f cs) hp k = k (.obj [.fn f cs]) := by simp [aBox, AV.ok, AV.one, AV.isAgg, AV.pur, AV.pur1, AV.cells]
def aBoxO (x : AV) (n j : Nat) (ty : TypeId) (hp : Hp) (K : AV → Hp → Prop) : Prop := (x.ok = true ∧ x.cells.length = n) ∧ ∀ v, K (.ptr j v 0 0) ((j, ⟨v, false, ty, n, [x]⟩) :: hp)
theorem sem_boxO (F : Nat → AV) (j : Nat) (ty : TypeId) (n : Nat) (x : IArg) : (IOp.boxO j ty n x).sem P F hp K = Bd2 (fun k => aBoxO (x.ev F) n j ty hp k) K ⟨⟩ := eqq rfl
theorem aBoxO_agg (cs : List AV) (n j : Nat) (ty : TypeId) : aBoxO (.agg cs) n j ty hp K = (cs.length = n ∧ ∀ v, K (.ptr j v 0 0) ((j, ⟨v, false, ty, n, [.agg cs]⟩) :: hp)) := by simp [aBoxO, AV.ok, AV.one, AV.isAgg, AV.cells]
theorem aBoxO_one (x : AV) (h : x.one = true) (n j : Nat) (ty : TypeId) : aBoxO x n j ty hp K = (1 = n ∧ ∀ v, K (.ptr j v 0 0) ((j, ⟨v, false, ty, n, [x]⟩) :: hp)) := by simp [aBoxO, AV.ok, h, cells_one h]
theorem sem_build (F : Nat → AV) (z : List AV) (ps : List (Nat × Nat × IArg)) : (IOp.build z ps).sem P F hp K = Bd (fun k => aBuild F z ps fun cs => k (.agg cs)) (fun v => K v hp) ⟨⟩ := eqq rfl
theorem aBuild_nil (F : Nat → AV) (z : List AV) (k : List AV → Prop) : aBuild F z [] k = k z := eqq rfl
def aBuild1 (x : AV) (F : Nat → AV) (z : List AV) (off n : Nat) (ps : List (Nat × Nat × IArg)) (k : List AV → Prop) : Prop := (x.ok = true ∧ x.cells.length = n ∧ off + n ≤ z.length) ∧ aBuild F (lay z off x.cells) ps k
theorem aBuild_cons (F : Nat → AV) (z : List AV) (off n : Nat) (x : IArg) (ps : List (Nat × Nat × IArg)) (k : List AV → Prop) : aBuild F z ((off, n, x) :: ps) k = aBuild1 (x.ev F) F z off n ps k := eqq rfl
theorem aBuild1_agg (cs : List AV) (F : Nat → AV) (z : List AV) (off n : Nat) (ps : List (Nat × Nat × IArg)) (k : List AV → Prop) : aBuild1 (.agg cs) F z off n ps k = ((cs.length = n ∧ off + n ≤ z.length) ∧ aBuild F (z.take off ++ (cs ++ z.drop (off + cs.length))) ps k) := by simp [aBuild1, AV.ok, AV.one, AV.isAgg, AV.cells, lay]
theorem aBuild1_one (x : AV) (h : x.one = true) (F : Nat → AV) (z : List AV) (off n : Nat) (ps : List (Nat × Nat × IArg)) (k : List AV → Prop) : aBuild1 x F z off n ps k = ((1 = n ∧ off + n ≤ z.length) ∧ aBuild F (z.take off ++ (x :: z.drop (off + 1))) ps k) := by simp [aBuild1, AV.ok, h, cells_one h, lay]
theorem sem_loadF (F : Nat → AV) (g : Bool) (n : Nat) (a : IArg) : (IOp.loadF g n a).sem P F hp K = Bd (fun k => aLoad [] g n (a.ev F) k) (fun v => K v hp) ⟨⟩ := eqq rfl
theorem sem_load (F : Nat → AV) (g : Bool) (n : Nat) (a : IArg) : (IOp.load g n a).sem P F hp K = Bd (fun k => aLoad hp g n (a.ev F) k) (fun v => K v hp) ⟨⟩ := eqq rfl
theorem sem_store (F : Nat → AV) (n : Nat) (a x : IArg) : (IOp.store n a x).sem P F hp K = Bd (fun k => aStore hp n (a.ev F) (x.ev F) k) (fun hp => K (.tup []) hp) ⟨⟩ := eqq rfl
theorem sem_faddr (F : Nat → AV) (off : Nat) (x : IArg) : (IOp.faddr off x).sem P F hp K = Bd (fun k => aFaddr off (x.ev F) k) (fun v => K v hp) ⟨⟩ := eqq rfl
theorem sem_fld (F : Nat → AV) (g : Bool) (off n : Nat) (x : IArg) : (IOp.fld g off n x).sem P F hp K = Bd (fun k => aFld g off n (x.ev F) k) (fun v => K v hp) ⟨⟩ := eqq rfl
theorem sem_iaddr (F : Nat → AV) (e : Nat) (x i : IArg) : (IOp.iaddr e x i).sem P F hp K = Bd (fun k => aIaddr hp e (x.ev F) (i.ev F) k) (fun v => K v hp) ⟨⟩ := eqq rfl
theorem sem_iaddrF (F : Nat → AV) (e : Nat) (x i : IArg) : (IOp.iaddrF e x i).sem P F hp K = Bd (fun k => aIaddr [] e (x.ev F) (i.ev F) k) (fun v => K v hp) ⟨⟩ := eqq rfl
theorem sem_sidx (F : Nat → AV) (x i : IArg) : (IOp.sidx x i).sem P F hp K = Bd (fun k => aSidx (x.ev F) (i.ev F) k) (fun v => K v hp) ⟨⟩ := eqq rfl
theorem sem_len (F : Nat → AV) (g : Bool) (x : IArg) : (IOp.len g x).sem P F hp K = Bd (fun k => aLen g (x.ev F) k) (fun v => K v hp) ⟨⟩ := eqq rfl
theorem sem_conv (F : Nat → AV) (d : IntKind) (x : IArg) : (IOp.conv d x).sem P F hp K = Bd (fun k => aConv d (x.ev F) k) (fun v => K v hp) ⟨⟩ := eqq rfl
theorem sem_extract (F : Nat → AV) (i : Nat) (x : IArg) : (IOp.extract i x).sem P F hp K = Bd (fun k => aExtract i (x.ev F) k) (fun v => K v hp) ⟨⟩ := eqq rfl
theorem sem_nilchk (F : Nat → AV) (x : IArg) : (IOp.nilchk x).sem P F hp K = Bd (fun k => aNilchk (x.ev F) k) (fun v => K v hp) ⟨⟩ := eqq rfl
def aNil (neg : Bool) (x : AV) (hp : Hp) (K : AV → Hp → Prop) : Prop :=
 match x with
 | .sl es => (es = [] → K (.bool (!neg)) hp) ∧ K (.bool neg) hp
 | .nils => K (.bool (!neg)) hp
 | _ => False
theorem sem_isnil (F : Nat → AV) (neg : Bool) (x : IArg) : (IOp.isnil neg x).sem P F hp K = Bd2 (fun k => aNil neg (x.ev F) hp k) K ⟨⟩ := eqq rfl
theorem aNil_sl (neg : Bool) (es : List AV) : aNil neg (.sl es) hp K = ((es = [] → K (.bool (!neg)) hp) ∧ K (.bool neg) hp) := eqq rfl
theorem aNil_nils (neg : Bool) : aNil neg .nils hp K = K (.bool (!neg)) hp := eqq rfl
theorem sem_mkfn (F : Nat → AV) (f : FuncId) (cs : List IArg) : (IOp.mkfn f cs).sem P F hp K = Bd (fun k => k (.fn f (cs.map fun x => x.ev F))) (fun v => K v hp) ⟨⟩ := eqq rfl
def aCallK (P : Program) (f : FuncId) (args : List AV) (hp : Hp) (k : AV → Prop) : Prop := aCall P f args hp k
theorem aCallK_of {P : Program} {f : FuncId} {args : List AV} {hp : Hp} {k : AV → Prop} (r : AV) (h : CallsF P f args r) {kp : Keep k} (hk : k r) : Bd (fun k => aCallK P f args hp k) k kp := ⟨r, .inl h, hk⟩
theorem aCallL_of {P : Program} {f : FuncId} {args args' : List AV} {hp : Hp} {k : AV → Prop} {r : AV} (ks : List Nat) (h : CallsF P f args' r) (hs : r.scal = true) {kp : Keep k} (he : args.map (AV.purA (frzL ks hp)) = args') (hk : k r) : Bd (fun k => aCallK P f args hp k) k kp := ⟨r, .inr ⟨ks, by rw [he]; exact h, hs⟩, hk⟩
theorem sem_call (F : Nat → AV) (f : FuncId) (as : List IArg) : (IOp.call f as).sem P F hp K = Bd (fun k => aCallK P f (as.map fun x => (x.ev F).purA hp) hp k) (fun v => K v hp) ⟨⟩ := eqq rfl
theorem sem_callF (F : Nat → AV) (f : FuncId) (as : List IArg) : (IOp.callF f as).sem P F hp K = ((∀ hp, (as.map fun x => (x.ev F).purA hp) = as.map fun x => x.ev F) ∧ Bd (fun k => aCallK P f (as.map fun x => x.ev F) [] k) (fun v => K v hp) ⟨⟩) := eqq rfl
def aCallvK (P : Program) (x : AV) (args : List AV) (hp : Hp) (k : AV → Prop) : Prop := aCallv P x args hp k
theorem sem_callv (F : Nat → AV) (f : IArg) (as : List IArg) : (IOp.callv f as).sem P F hp K = Bd (fun k => aCallvK P ((f.ev F).purA hp) (as.map fun x => (x.ev F).purA hp) hp k) (fun v => K v hp) ⟨⟩ := eqq rfl
theorem aCallvK_fn (f : FuncId) (caps args : List AV) : aCallvK P (.fn f caps) args hp k = aCallK P f (args ++ caps) hp k := eqq rfl
def aMmK (mx : Bool) (xs : List AV) (k : AV → Prop) : Prop := aMm mx xs k
theorem sem_mm (F : Nat → AV) (mx : Bool) (xs : List IArg) : (IOp.mm mx xs).sem P F hp K = Bd (fun k => aMmK mx (xs.map fun x => x.ev F) k) (fun v => K v hp) ⟨⟩ := eqq rfl
theorem aMmK_max (q : IntKind) (a b : Int) : aMmK true [.int q a, .int q b] k = k (.int q (max a b)) := by simp [aMmK, aMm]
theorem aMmK_min (q : IntKind) (a b : Int) : aMmK false [.int q a, .int q b] k = k (.int q (min a b)) := by simp [aMmK, aMm]
def aSliceK (x : AV) (esz : Nat) (lo hi : Option AV) (k : AV → Prop) : Prop := aSlice (fun i => if i = 0 then lo.getD .top else hi.getD .top) esz (lo.map fun _ => .t 0) (hi.map fun _ => .t 1) x k
theorem aSlice_as (F : Nat → AV) (x : AV) (esz : Nat) (lo hi : Option IArg) : aSlice F esz lo hi x k = aSliceK x esz (lo.map fun x => x.ev F) (hi.map fun x => x.ev F) k := by
 unfold aSliceK aSlice
 have h1 : optInt F lo = optInt (fun i => if i = 0 then (lo.map fun x => x.ev F).getD .top else (hi.map fun x => x.ev F).getD .top) ((lo.map fun x => x.ev F).map fun _ => IArg.t 0) := by cases lo <;> rfl
 have h2 : optInt F hi = optInt (fun i => if i = 0 then (lo.map fun x => x.ev F).getD .top else (hi.map fun x => x.ev F).getD .top) ((hi.map fun x => x.ev F).map fun _ => IArg.t 1) := by cases hi <;> rfl
 have h3 : ∀ d, optNum F d lo = optNum (fun i => if i = 0 then (lo.map fun x => x.ev F).getD .top else (hi.map fun x => x.ev F).getD .top) d ((lo.map fun x => x.ev F).map fun _ => IArg.t 0) := by intro d; cases lo <;> rfl
 have h4 : ∀ d, optNum F d hi = optNum (fun i => if i = 0 then (lo.map fun x => x.ev F).getD .top else (hi.map fun x => x.ev F).getD .top) d ((hi.map fun x => x.ev F).map fun _ => IArg.t 1) := by intro d; cases hi <;> rfl
 have h5 : (lo = none) = (((lo.map fun x => x.ev F).map fun _ => IArg.t 0) = none) := by cases lo <;> simp
 simp only [h1, h2, h3, h4, h5]
theorem sem_slice (F : Nat → AV) (e : Nat) (x : IArg) (lo hi : Option IArg) : (IOp.slice e x lo hi).sem P F hp K = Bd (fun k => aSliceK (x.ev F) e (lo.map fun x => x.ev F) (hi.map fun x => x.ev F) k) (fun v => K v hp) ⟨⟩ := by simp only [IOp.sem]; exact aSlice_as _ _ _ _ _ _
theorem slice_str_lh (s : ByteArray) (q r : IntKind) (a b : Int) : aSliceK (.str s) 0 (some (.int q a)) (some (.int r b)) k = ((0 ≤ a ∧ a ≤ b ∧ b ≤ s.size) ∧ k (.str (s.extract a.toNat b.toNat))) := by simp [aSliceK, aSlice, optInt, optNum, IArg.ev, AV.isInt, AV.num]
theorem slice_str_l (s : ByteArray) (q : IntKind) (a : Int) : aSliceK (.str s) 0 (some (.int q a)) none k = ((0 ≤ a ∧ a ≤ s.size) ∧ k (.str (s.extract a.toNat s.size))) := by simp [aSliceK, aSlice, optInt, optNum, IArg.ev, AV.isInt, AV.num, and_assoc]
theorem slice_str_h (s : ByteArray) (r : IntKind) (b : Int) : aSliceK (.str s) 0 none (some (.int r b)) k = ((0 ≤ b ∧ b ≤ s.size) ∧ k (.str (s.extract 0 b.toNat))) := by simp [aSliceK, aSlice, optInt, optNum, IArg.ev, AV.isInt, AV.num]
theorem slice_sl_lh (es : List AV) (e : Nat) (q r : IntKind) (a b : Int) : aSliceK (.sl es) e (some (.int q a)) (some (.int r b)) k = ((e ≠ 0 ∧ 0 ≤ a ∧ a ≤ b ∧ b ≤ es.length ∧ ∀ x ∈ es, x.cells.length = e) ∧ k (.sl ((es.drop a.toNat).take (b.toNat - a.toNat)))) := by simp [aSliceK, aSlice, optInt, optNum, IArg.ev, AV.isInt, AV.num]
theorem slice_sl_l (es : List AV) (e : Nat) (q : IntKind) (a : Int) : aSliceK (.sl es) e (some (.int q a)) none k = ((e ≠ 0 ∧ 0 ≤ a ∧ a ≤ es.length ∧ ∀ x ∈ es, x.cells.length = e) ∧ k (.sl ((es.drop a.toNat).take (es.length - a.toNat)))) := by simp [aSliceK, aSlice, optInt, optNum, IArg.ev, AV.isInt, AV.num]
theorem slice_sl_h (es : List AV) (e : Nat) (r : IntKind) (b : Int) : aSliceK (.sl es) e none (some (.int r b)) k = ((e ≠ 0 ∧ 0 ≤ b ∧ b ≤ es.length) ∧ k (.sl (es.take b.toNat))) := by simp [aSliceK, aSlice, optInt, optNum, IArg.ev, AV.isInt, AV.num]
theorem slice_nils_h (e : Nat) (r : IntKind) (b : Int) : aSliceK .nils e none (some (.int r b)) k = ((e ≠ 0 ∧ b = 0) ∧ k .nils) := by simp [aSliceK, aSlice, optInt, optNum, IArg.ev, AV.isInt, AV.num]
theorem slice_row_h (j v n e : Nat) (r : IntKind) (b : Int) : aSliceK (.row j v n) e none (some (.int r b)) k = ((e ≠ 0 ∧ 0 ≤ b ∧ b ≤ n) ∧ k (.row j v b.toNat)) := by simp [aSliceK, aSlice, optInt, optNum, IArg.ev, AV.isInt, AV.num]

/-! slices made, appends -/
def aElemsK (F : Nat → AV) (esz : Nat) (es : List AV) (ps : List (Nat × IArg)) (k : List AV → Prop) : Prop := aElems F esz es ps k
theorem elems_nil (F : Nat → AV) (esz : Nat) (es : List AV) (k : List AV → Prop) : aElemsK F esz es [] k = k es := eqq rfl
def aElem1 (x : AV) (F : Nat → AV) (esz i : Nat) (es : List AV) (ps : List (Nat × IArg)) (k : List AV → Prop) : Prop := (x.ok = true ∧ x.cells.length = esz ∧ i < es.length) ∧ aElemsK F esz (es.set i x) ps k
theorem elems_cons (F : Nat → AV) (esz i : Nat) (x : IArg) (es : List AV) (ps : List (Nat × IArg)) (k : List AV → Prop) : aElemsK F esz es ((i, x) :: ps) k = aElem1 (x.ev F) F esz i es ps k := eqq rfl
theorem elem1_agg (cs : List AV) (F : Nat → AV) (esz i : Nat) (es : List AV) (ps : List (Nat × IArg)) (k : List AV → Prop) : aElem1 (.agg cs) F esz i es ps k = ((cs.length = esz ∧ i < es.length) ∧ aElemsK F esz (es.set i (.agg cs)) ps k) := by simp [aElem1, AV.ok, AV.one, AV.isAgg, AV.cells]
theorem elem1_one (x : AV) (h : x.one = true) (F : Nat → AV) (esz i : Nat) (es : List AV) (ps : List (Nat × IArg)) (k : List AV → Prop) : aElem1 x F esz i es ps k = ((1 = esz ∧ i < es.length) ∧ aElemsK F esz (es.set i x) ps k) := by simp [aElem1, AV.ok, h, cells_one h]
theorem sem_slP (F : Nat → AV) (m : Nat) (z : AV) (ps : List (Nat × IArg)) : (IOp.slP m z ps).sem P F hp K = Bd (fun k => aElemsK F z.cells.length (List.replicate m z) ps fun es => k (.sl (es.map (AV.pur hp)))) (fun v => K v hp) ⟨⟩ := eqq rfl
theorem sem_binF (F : Nat → AV) (op : BinOp) (x y : IArg) : (IOp.binF op x y).sem P F hp K = Bd (fun k => aBinF op (x.ev F) (y.ev F) k) (fun v => K v hp) ⟨⟩ := eqq rfl
theorem sem_slF (F : Nat → AV) (m : Nat) (z : AV) (ps : List (Nat × IArg)) : (IOp.slF m z ps).sem P F hp K = Bd (fun k => aElemsK F z.cells.length (List.replicate m z) ps fun es => es.all AV.plain = true ∧ k (.sl es)) (fun v => K v hp) ⟨⟩ := eqq rfl
theorem plain_nil : List.all [] AV.plain = true := eqq rfl
theorem plain_cons (x : AV) (r : List AV) : List.all (x :: r) AV.plain = (x.plain && r.all AV.plain) := eqq rfl
theorem plain_int (q : IntKind) (n : Int) : (AV.int q n).plain = true := eqq rfl
theorem plain_str (s : ByteArray) : (AV.str s).plain = true := eqq rfl
theorem plain_bool (b : Bool) : (AV.bool b).plain = true := eqq rfl
theorem sem_slO (F : Nat → AV) (j : Nat) (ty : TypeId) (m : Nat) (z : AV) (ps : List (Nat × IArg)) : (IOp.slO j ty m z ps).sem P F hp K = Bd2 (fun k => aElemsK F z.cells.length (List.replicate m z) ps fun es => ∀ v, k (.row j v m) ((j, ⟨v, false, ty, z.cells.length, es⟩) :: hp)) K ⟨⟩ := eqq rfl
def aAppK (hp : Hp) (j : Nat) (ty : TypeId) (esz bytes : Nat) (s x : AV) (K : AV → Hp → Prop) : Prop := aApp hp j ty esz bytes s ((aTail hp x).map (·.map (AV.pur hp))) K
theorem sem_append (F : Nat → AV) (j : Nat) (ty : TypeId) (e b : Nat) (s x : IArg) : (IOp.append j ty e b s x).sem P F hp K = Bd2 (fun k => aAppK hp j ty e b (s.ev F) (x.ev F) k) K ⟨⟩ := eqq rfl
theorem sem_appF (F : Nat → AV) (j : Nat) (ty : TypeId) (e b : Nat) (s x : IArg) : (IOp.appF j ty e b s x).sem P F hp K = Bd2 (fun k => aAppK hp j ty e b (s.ev F) (x.ev F) k) (fun r hp' => K (r.pur (frzR r hp')) (frzR r hp')) ⟨⟩ := eqq rfl
theorem frzR_row (j v n : Nat) : frzR (.row j v n) hp = hfrz hp j := eqq rfl
def aAppB (bx : Option Box) (hp : Hp) (j v n : Nat) (ty : TypeId) (esz bytes : Nat) (es : List AV) (K : AV → Hp → Prop) : Prop :=
 match bx with
 | some b => (b.ver = v ∧ b.frz = false ∧ b.ty = ty ∧ b.esz = esz ∧ n ≤ b.es.length ∧ (∀ e ∈ es, e.cells.length = esz) ∧ (n + es.length) * bytes ≤ 140737488355328 ∧ n + es.length ≤ maxLen) ∧
   ∀ v', K (.row j v' (n + es.length)) ((j, ⟨v', false, ty, esz, b.es.take n ++ es⟩) :: hp)
 | none => False
theorem app_row (i j v n : Nat) (ty : TypeId) (e b : Nat) (es : List AV) : aAppK hp i ty e b (.row j v n) (.sl es) K = aAppB (hget hp j) hp j v n ty e b (es.map (AV.pur hp)) K := by
 unfold aAppK aApp aAppB aTail; simp only [Option.map_some]; cases hget hp j <;> rfl
theorem app_row0 (i j v n : Nat) (ty : TypeId) (e b : Nat) : aAppK hp i ty e b (.row j v n) .nils K = aAppB (hget hp j) hp j v n ty e b [] K := by
 unfold aAppK aApp aAppB aTail; simp only [Option.map_some, List.map_nil]; cases hget hp j <;> rfl
theorem app_nils (j : Nat) (ty : TypeId) (e b : Nat) (es : List AV) : aAppK hp j ty e b .nils (.sl es) K = ((((∀ x ∈ es.map (AV.pur hp), x.cells.length = e) ∧ (es.map (AV.pur hp)).length * b ≤ 140737488355328 ∧ (es.map (AV.pur hp)).length ≤ maxLen)) ∧
  ∀ v, K (.row j v (es.map (AV.pur hp)).length) ((j, ⟨v, false, ty, e, es.map (AV.pur hp)⟩) :: hp)) := rfl
theorem appB_some (b : Box) (j v n : Nat) (ty : TypeId) (esz bytes : Nat) (es : List AV) : aAppB (some b) hp j v n ty esz bytes es K = ((b.ver = v ∧ b.frz = false ∧ b.ty = ty ∧ b.esz = esz ∧ n ≤ b.es.length ∧ (∀ e ∈ es, e.cells.length = esz) ∧ (n + es.length) * bytes ≤ 140737488355328 ∧ n + es.length ≤ maxLen) ∧
   ∀ v', K (.row j v' (n + es.length)) ((j, ⟨v', false, ty, esz, b.es.take n ++ es⟩) :: hp)) := rfl
def aMkK (x : AV) (j : Nat) (ty : TypeId) (bytes : Nat) (z : AV) (hp : Hp) (K : AV → Hp → Prop) : Prop :=
 match x with
 | .int _ n => (0 ≤ n ∧ n * bytes ≤ 140737488355328) ∧ ∀ v, K (.row j v n.toNat) ((j, ⟨v, false, ty, z.cells.length, List.replicate n.toNat z⟩) :: hp)
 | _ => False
theorem sem_mk (F : Nat → AV) (j : Nat) (ty : TypeId) (b : Nat) (z : AV) (x : IArg) : (IOp.mkSlice j ty b z x).sem P F hp K = Bd2 (fun k => aMkK (x.ev F) j ty b z hp k) K ⟨⟩ := eqq rfl
theorem mk_int (q : IntKind) (n : Int) (j : Nat) (ty : TypeId) (b : Nat) (z : AV) : aMkK (.int q n) j ty b z hp K = ((0 ≤ n ∧ n * b ≤ 140737488355328) ∧ ∀ v, K (.row j v n.toNat) ((j, ⟨v, false, ty, z.cells.length, List.replicate n.toNat z⟩) :: hp)) := eqq rfl
def aB2sK (hp : Hp) (x : AV) (k : AV → Prop) : Prop := aB2s (aTail hp x) k
theorem sem_b2s (F : Nat → AV) (x : IArg) : (IOp.b2s x).sem P F hp K = Bd (fun k => aB2sK hp (x.ev F) k) (fun v => K v hp) ⟨⟩ := eqq rfl
def aAppZK (s n : AV) (j : Nat) (ty : TypeId) (bytes : Nat) (z : AV) (hp : Hp) (K : AV → Hp → Prop) : Prop := aAppZ s n bytes fun m => ∀ v, K (.row j v m) ((j, ⟨v, false, ty, z.cells.length, List.replicate m z⟩) :: hp)
theorem sem_appZ (F : Nat → AV) (j : Nat) (ty : TypeId) (b : Nat) (z : AV) (s x : IArg) : (IOp.appZ j ty b z s x).sem P F hp K = Bd2 (fun k => aAppZK (s.ev F) (x.ev F) j ty b z hp k) K ⟨⟩ := eqq rfl
theorem appZ_nils (q : IntKind) (n : Int) (j : Nat) (ty : TypeId) (b : Nat) (z : AV) : aAppZK .nils (.int q n) j ty b z hp K = ((0 < n ∧ n * b ≤ 140737488355328 ∧ n ≤ 1099511627776) ∧ ∀ v, K (.row j v n.toNat) ((j, ⟨v, false, ty, z.cells.length, List.replicate n.toNat z⟩) :: hp)) := eqq rfl
def aS2bK (x : AV) (j : Nat) (ty : TypeId) (hp : Hp) (K : AV → Hp → Prop) : Prop := aS2b x fun s => ∀ v, K (.row j v s.size) ((j, ⟨v, false, ty, 1, bytesAv s⟩) :: hp)
theorem sem_s2b (F : Nat → AV) (j : Nat) (ty : TypeId) (x : IArg) : (IOp.s2b j ty x).sem P F hp K = Bd2 (fun k => aS2bK (x.ev F) j ty hp k) K ⟨⟩ := eqq rfl
theorem s2b_str (s : ByteArray) (j : Nat) (ty : TypeId) : aS2bK (.str s) j ty hp K = ∀ v, K (.row j v s.size) ((j, ⟨v, false, ty, 1, bytesAv s⟩) :: hp) := eqq rfl
theorem sem_cap (F : Nat → AV) (x : IArg) : (IOp.cap x).sem P F hp K = Bd (fun k => aCap (x.ev F) k) (fun v => K v hp) ⟨⟩ := eqq rfl
theorem cap_nils : aCap .nils k = k (.int .i64 0) := eqq rfl
theorem b2s_of {x : AV} {es : List AV} (l : List UInt8) (h : aTail hp x = some es) (he : es = l.map fun b => .int .u8 b.toNat) (hk : k (.str ⟨l.toArray⟩)) : aB2sK hp x k := by unfold aB2sK aB2s; rw [h]; exact ⟨l, he, hk⟩

/-! scrutinees decided -/
theorem pick_bool (t : Bool) (a b : AV) : aPick (.bool t) a b k = Pk t a b k := eqq rfl
theorem binF_int (op : BinOp) (q : IntKind) (a b : Int) : aBinF op (.int q a) (.int q b) k = aInt op q a b k := by simp [aBinF]
theorem bin_int (op : BinOp) (kd : EqK) (q : IntKind) (a b : Int) : aBin op kd (.int q a) (.int q b) k = aInt op q a b k := by simp [aBin]
theorem bin_str (op : BinOp) (kd : EqK) (a b : ByteArray) : aBin op kd (.str a) (.str b) k = aStr op a b k := eqq rfl
theorem bin_bool (op : BinOp) (a b : Bool) : aBin op .bool (.bool a) (.bool b) k = aBool op (a == b) k := by simp [aBin]
theorem bin_pp0 (op : BinOp) : aBin op .ptr .nilp .nilp k = aBool op true k := by simp [aBin]
theorem bin_pp1 (op : BinOp) (cs : List AV) : aBin op .ptr (.obj cs) .nilp k = aBool op false k := by simp [aBin]
theorem bin_pp2 (op : BinOp) (cs : List AV) : aBin op .ptr .nilp (.obj cs) k = aBool op false k := by simp [aBin]
theorem bin_pp3 (op : BinOp) (j v i o : Nat) : aBin op .ptr (.ptr j v i o) .nilp k = aBool op false k := by simp [aBin]
theorem bin_ss0 (op : BinOp) : aBin op .slice .nils .nils k = aBool op true k := by simp [aBin]
theorem bin_ss1 (op : BinOp) (es : List AV) : aBin op .slice (.sl es) .nils k = (es ≠ [] ∧ aBool op false k) := by simp [aBin]
theorem bin_flat (op : BinOp) (ks : List Nat) (xs ys : List AV) : aBin op (.flat ks) (.agg xs) (.agg ys) k = aFlatO op (flatEq ks xs ys) k := by simp [aBin, aFlat]
theorem flatO_some (op : BinOp) (b : Bool) : aFlatO op (some b) k = aBool op b k := eqq rfl
theorem flat_nil : flatEq [] [] [] = some true := eqq rfl
theorem flat_int (q : IntKind) (a b : Int) (ks : List Nat) (xs ys : List AV) : flatEq (1 :: ks) (.int q a :: xs) (.int q b :: ys) = (flatEq ks xs ys).map (decide (a = b) && ·) := by simp [flatEq]
theorem flat_bool (a b : Bool) (ks : List Nat) (xs ys : List AV) : flatEq (0 :: ks) (.bool a :: xs) (.bool b :: ys) = (flatEq ks xs ys).map (decide (a = b) && ·) := eqq rfl
theorem flat_str (a b : ByteArray) (ks : List Nat) (xs ys : List AV) : flatEq (2 :: ks) (.str a :: xs) (.str b :: ys) = (flatEq ks xs ys).map (decide (a = b) && ·) := eqq rfl
theorem int_add (q : IntKind) (a b : Int) : aInt .add q a b k = (inR q (a + b) ∧ k (.int q (a + b))) := eqq rfl
theorem int_sub (q : IntKind) (a b : Int) : aInt .sub q a b k = (inR q (a - b) ∧ k (.int q (a - b))) := eqq rfl
theorem int_mul (q : IntKind) (a b : Int) : aInt .mul q a b k = (inR q (a * b) ∧ k (.int q (a * b))) := eqq rfl
theorem int_quo (q : IntKind) (a b : Int) : aInt .quo q a b k = ((b ≠ 0 ∧ inR q (a.tdiv b)) ∧ k (.int q (a.tdiv b))) := eqq rfl
theorem int_rem (q : IntKind) (a b : Int) : aInt .rem q a b k = ((b ≠ 0 ∧ inR q (a.tmod b)) ∧ k (.int q (a.tmod b))) := eqq rfl
theorem int_eql (q : IntKind) (a b : Int) : aInt .eql q a b k = k (.bool (decide (a = b))) := eqq rfl
theorem int_neq (q : IntKind) (a b : Int) : aInt .neq q a b k = k (.bool (!decide (a = b))) := eqq rfl
theorem int_lss (q : IntKind) (a b : Int) : aInt .lss q a b k = k (.bool (decide (a < b))) := eqq rfl
theorem int_leq (q : IntKind) (a b : Int) : aInt .leq q a b k = k (.bool (decide (a ≤ b))) := eqq rfl
theorem int_gtr (q : IntKind) (a b : Int) : aInt .gtr q a b k = k (.bool (decide (b < a))) := eqq rfl
theorem int_geq (q : IntKind) (a b : Int) : aInt .geq q a b k = k (.bool (decide (b ≤ a))) := eqq rfl
theorem str_add (a b : ByteArray) : aStr .add a b k = (a.size + b.size ≤ maxLen ∧ k (.str (a ++ b))) := eqq rfl
theorem str_eql (a b : ByteArray) : aStr .eql a b k = k (.bool (decide (a = b))) := eqq rfl
theorem str_neq (a b : ByteArray) : aStr .neq a b k = k (.bool (!decide (a = b))) := eqq rfl
theorem str_lss (a b : ByteArray) : aStr .lss a b k = k (.bool (Op.bytesLess a.toList b.toList)) := eqq rfl
theorem bool_eql (b : Bool) : aBool .eql b k = k (.bool b) := eqq rfl
theorem bool_neq (b : Bool) : aBool .neq b k = k (.bool (!b)) := eqq rfl
theorem un_not (b : Bool) : aUn .not (.bool b) k = k (.bool (!b)) := eqq rfl
theorem un_neg (q : IntKind) (n : Int) : aUn .neg (.int q n) k = (inR q (-n) ∧ k (.int q (-n))) := eqq rfl
theorem load_obj (g : Bool) (n : Nat) (cs : List AV) : aLoad hp g n (.obj cs) k = aPart g cs 0 n k := eqq rfl
def aLoadB (bx : Option Box) (g : Bool) (n v i off : Nat) (k : AV → Prop) : Prop :=
 match bx with
 | some b => (b.ver = v ∧ i < b.es.length) ∧ aPart g (b.es.getD i .top).cells off n k
 | none => False
theorem load_ptr (g : Bool) (n j v i off : Nat) : aLoad hp g n (.ptr j v i off) k = aLoadB (hget hp j) g n v i off k := by cases h : hget hp j <;> simp [aLoad, aLoadB, h]
theorem loadB_some (b : Box) (g : Bool) (n v i off : Nat) : aLoadB (some b) g n v i off k = ((b.ver = v ∧ i < b.es.length) ∧ aPart g (b.es.getD i .top).cells off n k) := eqq rfl
theorem part_true (cs : List AV) (off n : Nat) : aPart true cs off n k = (off + n ≤ cs.length ∧ k (.agg ((cs.drop off).take n))) := eqq rfl
theorem part_false (cs : List AV) (off n : Nat) : aPart false cs off n k = (off < cs.length ∧ k (cs.getD off .top)) := eqq rfl
def aStoreB (bx : Option Box) (hp : Hp) (n j v i off : Nat) (x : AV) (K : Hp → Prop) : Prop :=
 match bx with
 | some b => (b.ver = v ∧ b.frz = false ∧ i < b.es.length ∧ x.ok = true ∧ x.cells.length = n ∧ off + n ≤ (b.es.getD i .top).cells.length) ∧
     K ((j, { b with es := b.es.set i ((b.es.getD i .top).setc off x.cells) }) :: hp)
 | none => False
theorem store_ptr (n j v i off : Nat) (x : AV) (K : Hp → Prop) : aStore hp n (.ptr j v i off) x K = aStoreB (hget hp j) hp n j v i off x K := by cases h : hget hp j <;> simp [aStore, aStoreB, h]
theorem storeB_some (b : Box) (n j v i off : Nat) (x : AV) (K : Hp → Prop) : aStoreB (some b) hp n j v i off x K = ((b.ver = v ∧ b.frz = false ∧ i < b.es.length ∧ x.ok = true ∧ x.cells.length = n ∧ off + n ≤ (b.es.getD i .top).cells.length) ∧
     K ((j, { b with es := b.es.set i ((b.es.getD i .top).setc off x.cells) }) :: hp)) := rfl
theorem faddr_obj (off : Nat) (cs : List AV) : aFaddr off (.obj cs) k = k (.obj (cs.drop off)) := eqq rfl
theorem faddr_ptr (off j v i o : Nat) : aFaddr off (.ptr j v i o) k = k (.ptr j v i (o + off)) := eqq rfl
theorem fld_agg (g : Bool) (off n : Nat) (cs : List AV) : aFld g off n (.agg cs) k = aPart g cs off n k := eqq rfl
theorem iaddr_sl (e : Nat) (es : List AV) (q : IntKind) (i : Int) : aIaddr hp e (.sl es) (.int q i) k = ((0 ≤ i ∧ i < es.length ∧ (es.getD i.toNat .top).cells.length = e) ∧ k (.obj (es.getD i.toNat .top).cells)) := eqq rfl
def aIaddrB (bx : Option Box) (e j v n : Nat) (i : Int) (k : AV → Prop) : Prop :=
 match bx with
 | some b => (b.ver = v ∧ b.esz = e ∧ 0 ≤ i ∧ i < n) ∧ k (.ptr j v i.toNat 0)
 | none => False
theorem iaddr_row (e j v n : Nat) (q : IntKind) (i : Int) : aIaddr hp e (.row j v n) (.int q i) k = aIaddrB (hget hp j) e j v n i k := by cases h : hget hp j <;> simp [aIaddr, aIaddrB, h]
theorem iaddrB_some (b : Box) (e j v n : Nat) (i : Int) : aIaddrB (some b) e j v n i k = ((b.ver = v ∧ b.esz = e ∧ 0 ≤ i ∧ i < n) ∧ k (.ptr j v i.toNat 0)) := eqq rfl
theorem sidx_str (s : ByteArray) (q : IntKind) (i : Int) : aSidx (.str s) (.int q i) k = ((0 ≤ i ∧ i < s.size) ∧ k (.int .u8 (byteAt s i.toNat).toNat)) := eqq rfl
theorem len_str (s : ByteArray) : aLen true (.str s) k = k (.int .i64 s.size) := by simp [aLen]
theorem len_sl (es : List AV) : aLen false (.sl es) k = k (.int .i64 es.length) := by simp [aLen]
theorem len_row (j v n : Nat) : aLen false (.row j v n) k = k (.int .i64 n) := by simp [aLen]
theorem len_nils : aLen false .nils k = k (.int .i64 0) := by simp [aLen]
theorem conv_int (d q : IntKind) (n : Int) : aConv d (.int q n) k = (inR d n ∧ k (.int d n)) := eqq rfl
theorem extract_tup (i : Nat) (xs : List AV) : aExtract i (.tup xs) k = (i < xs.length ∧ k (xs.getD i .top)) := eqq rfl
theorem nilchk_obj (cs : List AV) : aNilchk (.obj cs) k = k (.obj cs) := eqq rfl
theorem nilchk_ptr (j v i o : Nat) : aNilchk (.ptr j v i o) k = k (.ptr j v i o) := eqq rfl
theorem nilchk_fn (f : FuncId) (cs : List AV) : aNilchk (.fn f cs) k = k (.fn f cs) := eqq rfl
theorem res_nil (F : Nat → AV) (k : List AV → Prop) : aResults hp F [] k = k [] := eqq rfl
theorem res_t (F : Nat → AV) (i : Nat) (rs : List IRes) (k : List AV → Prop) : aResults hp F (.t i :: rs) k = aResults hp F rs fun xs => k (F i :: xs) := eqq rfl
theorem res_c (F : Nat → AV) (g : Bool) (n i : Nat) (rs : List IRes) (k : List AV → Prop) : aResults hp F (.c g n i :: rs) k = aLoad hp g n (F i) fun x => aResults hp F rs fun xs => k (x :: xs) := eqq rfl
theorem entry_nil (i : Nat) : entry i [] = [] := eqq rfl
theorem entry_cons (i : Nat) (x : AV) (xs : List AV) : entry i (x :: xs) = (i, x) :: entry (i + 1) xs := eqq rfl

/-! reading own rows for good -/
theorem pur_int (q : IntKind) (n : Int) : (AV.int q n).pur hp = .int q n := eqq rfl
theorem pur_bool (b : Bool) : (AV.bool b).pur hp = .bool b := eqq rfl
theorem pur_str (s : ByteArray) : (AV.str s).pur hp = .str s := eqq rfl
theorem pur_sl (es : List AV) : (AV.sl es).pur hp = .sl es := eqq rfl
theorem pur_obj (cs : List AV) : (AV.obj cs).pur hp = .obj cs := eqq rfl
theorem pur_nils : AV.nils.pur hp = .nils := eqq rfl
theorem pur_nilp : AV.nilp.pur hp = .nilp := eqq rfl
theorem pur_fn (f : FuncId) (cs : List AV) : (AV.fn f cs).pur hp = .fn f cs := eqq rfl
theorem pur_agg (cs : List AV) : (AV.agg cs).pur hp = .agg (cs.map (AV.pur1 hp)) := eqq rfl
theorem pur_tup (cs : List AV) : (AV.tup cs).pur hp = .tup (cs.map (AV.pur1 hp)) := eqq rfl
theorem pur_row (j v n : Nat) : (AV.row j v n).pur hp = (AV.row j v n).pur1 hp := eqq rfl
theorem pur_ptr (j v i o : Nat) : (AV.ptr j v i o).pur hp = (AV.ptr j v i o).pur1 hp := eqq rfl
theorem pur1_int (q : IntKind) (n : Int) : (AV.int q n).pur1 hp = .int q n := eqq rfl
theorem pur1_bool (b : Bool) : (AV.bool b).pur1 hp = .bool b := eqq rfl
theorem pur1_str (s : ByteArray) : (AV.str s).pur1 hp = .str s := eqq rfl
theorem pur1_sl (es : List AV) : (AV.sl es).pur1 hp = .sl es := eqq rfl
theorem pur1_obj (cs : List AV) : (AV.obj cs).pur1 hp = .obj cs := eqq rfl
theorem pur1_nils : AV.nils.pur1 hp = .nils := eqq rfl
theorem pur1_nilp : AV.nilp.pur1 hp = .nilp := eqq rfl
theorem pur1_fn (f : FuncId) (cs : List AV) : (AV.fn f cs).pur1 hp = .fn f cs := eqq rfl
theorem pur1_agg (cs : List AV) : (AV.agg cs).pur1 hp = .agg cs := eqq rfl
def purB (bx : Option Box) (j v n : Nat) : AV :=
 match bx with
 | some b => if b.ver = v ∧ b.frz = true ∧ n ≤ b.es.length then .sl (b.es.take n) else .row j v n
 | none => .row j v n
theorem pur1_row (j v n : Nat) : (AV.row j v n).pur1 hp = purB (hget hp j) j v n := eqq rfl
theorem purB_some (b : Box) (j v n : Nat) : purB (some b) j v n = if b.ver = v ∧ b.frz = true ∧ n ≤ b.es.length then .sl (b.es.take n) else .row j v n := eqq rfl
theorem purB_none (j v n : Nat) : purB none j v n = .row j v n := eqq rfl
def purBp (bx : Option Box) (j v i o : Nat) : AV :=
 match bx with
 | some b => if b.ver = v ∧ b.frz = true ∧ i < b.es.length then .obj ((b.es.getD i .top).cells.drop o) else .ptr j v i o
 | none => .ptr j v i o
theorem pur1_ptr (j v i o : Nat) : (AV.ptr j v i o).pur1 hp = purBp (hget hp j) j v i o := eqq rfl
theorem purBp_some (b : Box) (j v i o : Nat) : purBp (some b) j v i o = if b.ver = v ∧ b.frz = true ∧ i < b.es.length then .obj ((b.es.getD i .top).cells.drop o) else .ptr j v i o := eqq rfl
theorem purBp_none (j v i o : Nat) : purBp none j v i o = .ptr j v i o := eqq rfl
theorem pur1_nil (x : AV) : AV.pur1 [] x = x := by cases x <;> rfl
theorem map_pur1_nil (l : List AV) : l.map (AV.pur1 []) = l := by
 have : AV.pur1 [] = id := funext pur1_nil
 rw [this, List.map_id]
theorem pur_nil (x : AV) : AV.pur [] x = x := by cases x <;> first | rfl | exact congrArg AV.agg (map_pur1_nil _) | exact congrArg AV.tup (map_pur1_nil _)
theorem map_pur_nil (l : List AV) : l.map (AV.pur []) = l := by
 have : AV.pur [] = id := funext pur_nil
 rw [this, List.map_id]
theorem purA_nil (x : AV) : AV.purA [] x = x := by cases x <;> first | rfl | exact pur_nil _ | exact congrArg (AV.fn _) (map_pur1_nil _) | exact congrArg AV.agg (map_pur1_nil _) | exact congrArg AV.tup (map_pur1_nil _)
theorem purA_fn (f : FuncId) (cs : List AV) : (AV.fn f cs).purA hp = .fn f (cs.map (AV.pur1 hp)) := eqq rfl
theorem purA_int (q : IntKind) (n : Int) : (AV.int q n).purA hp = .int q n := eqq rfl
theorem purA_bool (b : Bool) : (AV.bool b).purA hp = .bool b := eqq rfl
theorem purA_str (s : ByteArray) : (AV.str s).purA hp = .str s := eqq rfl
theorem purA_sl (es : List AV) : (AV.sl es).purA hp = .sl es := eqq rfl
theorem purA_obj (cs : List AV) : (AV.obj cs).purA hp = .obj cs := eqq rfl
theorem purA_nils : AV.nils.purA hp = .nils := eqq rfl
theorem purA_nilp : AV.nilp.purA hp = .nilp := eqq rfl
theorem purA_agg (cs : List AV) : (AV.agg cs).purA hp = .agg (cs.map (AV.pur1 hp)) := eqq rfl
theorem purA_row (j v n : Nat) : (AV.row j v n).purA hp = (AV.row j v n).pur1 hp := eqq rfl
theorem purA_ptr (j v i o : Nat) : (AV.ptr j v i o).purA hp = (AV.ptr j v i o).pur1 hp := eqq rfl
theorem cells_agg (cs : List AV) : (AV.agg cs).cells = cs := eqq rfl
theorem one_int (q : IntKind) (n : Int) : AV.one (.int q n) = true := eqq rfl
theorem ok_int (q : IntKind) (n : Int) : AV.ok (.int q n) = true := eqq rfl
theorem cells_int (q : IntKind) (n : Int) : AV.cells (.int q n) = [.int q n] := eqq rfl
theorem setc_int (q : IntKind) (n : Int) (x : AV) : AV.setc (.int q n) 0 [x] = x := eqq rfl
theorem one_bool (b : Bool) : AV.one (.bool b) = true := eqq rfl
theorem ok_bool (b : Bool) : AV.ok (.bool b) = true := eqq rfl
theorem cells_bool (b : Bool) : AV.cells (.bool b) = [.bool b] := eqq rfl
theorem setc_bool (b : Bool) (x : AV) : AV.setc (.bool b) 0 [x] = x := eqq rfl
theorem one_str (s : ByteArray) : AV.one (.str s) = true := eqq rfl
theorem ok_str (s : ByteArray) : AV.ok (.str s) = true := eqq rfl
theorem cells_str (s : ByteArray) : AV.cells (.str s) = [.str s] := eqq rfl
theorem setc_str (s : ByteArray) (x : AV) : AV.setc (.str s) 0 [x] = x := eqq rfl
theorem one_sl (es : List AV) : AV.one (.sl es) = true := eqq rfl
theorem ok_sl (es : List AV) : AV.ok (.sl es) = true := eqq rfl
theorem cells_sl (es : List AV) : AV.cells (.sl es) = [.sl es] := eqq rfl
theorem setc_sl (es : List AV) (x : AV) : AV.setc (.sl es) 0 [x] = x := eqq rfl
theorem one_obj (cs : List AV) : AV.one (.obj cs) = true := eqq rfl
theorem ok_obj (cs : List AV) : AV.ok (.obj cs) = true := eqq rfl
theorem cells_obj (cs : List AV) : AV.cells (.obj cs) = [.obj cs] := eqq rfl
theorem setc_obj (cs : List AV) (x : AV) : AV.setc (.obj cs) 0 [x] = x := eqq rfl
theorem one_nils  : AV.one (.nils) = true := eqq rfl
theorem ok_nils  : AV.ok (.nils) = true := eqq rfl
theorem cells_nils  : AV.cells (.nils) = [.nils] := eqq rfl
theorem setc_nils  (x : AV) : AV.setc (.nils) 0 [x] = x := eqq rfl
theorem one_nilp  : AV.one (.nilp) = true := eqq rfl
theorem ok_nilp  : AV.ok (.nilp) = true := eqq rfl
theorem cells_nilp  : AV.cells (.nilp) = [.nilp] := eqq rfl
theorem setc_nilp  (x : AV) : AV.setc (.nilp) 0 [x] = x := eqq rfl
theorem one_nilf  : AV.one (.nilf) = true := eqq rfl
theorem ok_nilf  : AV.ok (.nilf) = true := eqq rfl
theorem cells_nilf  : AV.cells (.nilf) = [.nilf] := eqq rfl
theorem setc_nilf  (x : AV) : AV.setc (.nilf) 0 [x] = x := eqq rfl
theorem one_fn (f : FuncId) (cs : List AV) : AV.one (.fn f cs) = true := eqq rfl
theorem ok_fn (f : FuncId) (cs : List AV) : AV.ok (.fn f cs) = true := eqq rfl
theorem cells_fn (f : FuncId) (cs : List AV) : AV.cells (.fn f cs) = [.fn f cs] := eqq rfl
theorem setc_fn (f : FuncId) (cs : List AV) (x : AV) : AV.setc (.fn f cs) 0 [x] = x := eqq rfl
theorem one_row (j v n : Nat) : AV.one (.row j v n) = true := eqq rfl
theorem ok_row (j v n : Nat) : AV.ok (.row j v n) = true := eqq rfl
theorem cells_row (j v n : Nat) : AV.cells (.row j v n) = [.row j v n] := eqq rfl
theorem setc_row (j v n : Nat) (x : AV) : AV.setc (.row j v n) 0 [x] = x := eqq rfl
theorem one_ptr (j v i o : Nat) : AV.one (.ptr j v i o) = true := eqq rfl
theorem ok_ptr (j v i o : Nat) : AV.ok (.ptr j v i o) = true := eqq rfl
theorem cells_ptr (j v i o : Nat) : AV.cells (.ptr j v i o) = [.ptr j v i o] := eqq rfl
theorem setc_ptr (j v i o : Nat) (x : AV) : AV.setc (.ptr j v i o) 0 [x] = x := eqq rfl
theorem ok_agg (cs : List AV) : AV.ok (.agg cs) = true := eqq rfl
theorem setc_agg (cs : List AV) (o : Nat) (xs : List AV) : AV.setc (.agg cs) o xs = .agg (lay cs o xs) := eqq rfl
theorem lay_as (cs : List AV) (o : Nat) (xs : List AV) : lay cs o xs = cs.take o ++ xs ++ cs.drop (o + xs.length) := eqq rfl
theorem finR_one (x : AV) : finR hp [x] = x.pur hp := eqq rfl
theorem finR_two (x y : AV) : finR hp [x, y] = .tup [x.pur hp, y.pur hp] := eqq rfl
theorem finR_three (x y z : AV) : finR hp [x, y, z] = .tup [x.pur hp, y.pur hp, z.pur hp] := eqq rfl
theorem finR_zero : finR hp [] = .tup [] := eqq rfl
theorem inR_i64 (n : Int) : inR .i64 n = (-9223372036854775808 ≤ n ∧ n ≤ 9223372036854775807) := eqq rfl
theorem inR_u8 (n : Int) : inR .u8 n = (0 ≤ n ∧ n ≤ 255) := eqq rfl
end

theorem zA.{u} {p : Prop} (α : Sort u) [Nonempty α] : (α → p) ↔ p := forall_const α
theorem zI.{u} (α : Sort u) : (α → True) = True := implies_true α
theorem zN.{u} {α : Sort u} (a b : α) : (a ≠ b) = ¬(a = b) := ne_eq a b
theorem zE.{u} {α : Sort u} {p : α → Prop} {a' : α} : (∀ a, a = a' → p a) ↔ p a' := forall_eq
theorem SD : type_of% (And.intro (And.intro (And.intro (And.intro (And.intro (And.intro @awp_skip @awp_region) (And.intro @awp_draw (And.intro @awp_both @awp_seq))) (And.intro (And.intro @ops_qseq_n @ops_qseq_e) (And.intro @ops_qseq_r (And.intro @brt @brf)))) (And.intro (And.intro (And.intro @bnt @bnf) (And.intro @pkt (And.intro @pkf @awp_cond))) (And.intro (And.intro @awp_block (And.intro @ops_qblock_n @ops_qblock_r)) (And.intro @ops_qblock_e (And.intro @ops_qblock_o @awp_exit))))) (And.intro (And.intro (And.intro (And.intro @awp_scope @ops_qscope_n) (And.intro @ops_qscope_r (And.intro @ops_qscope_e @awp_ret))) (And.intro (And.intro @ops_qloop_n (And.intro @ops_qloop_e @ops_qloop_r)) (And.intro @ops_RetH_normal (And.intro @ops_RetH_ret @awp_retK)))) (And.intro (And.intro (And.intro @sem_callH @sem_callvH) (And.intro @ops_Ret_normal (And.intro @ops_Ret_ret @ops_nil))) (And.intro (And.intro @ops_one (And.intro @ops_zero @ops_guard)) (And.intro @ops_guard0 (And.intro @ev_t @ev_c)))))) (And.intro (And.intro (And.intro (And.intro (And.intro @ev_s @fget_eq) (And.intro @fget_ne (And.intro @hget_eq @hget_ne))) (And.intro (And.intro @hget_nil (And.intro @sem_mov @sem_pick)) (And.intro @sem_bin (And.intro @sem_binw @sem_un)))) (And.intro (And.intro (And.intro @sem_boxP @sem_boxO) (And.intro @sem_build (And.intro @sem_loadF @sem_load))) (And.intro (And.intro @sem_store (And.intro @sem_faddr @sem_fld)) (And.intro @sem_iaddr (And.intro @sem_iaddrF @sem_sidx))))) (And.intro (And.intro (And.intro (And.intro @sem_len @sem_conv) (And.intro @sem_extract (And.intro @sem_nilchk @sem_isnil))) (And.intro (And.intro @sem_mkfn (And.intro @sem_call @sem_callF)) (And.intro @sem_callv (And.intro @sem_mm @sem_slice)))) (And.intro (And.intro (And.intro @sem_slP @sem_binF) (And.intro @sem_slF (And.intro @sem_slO @sem_append))) (And.intro (And.intro @sem_appF (And.intro @sem_mk @sem_b2s)) (And.intro @sem_appZ (And.intro @sem_s2b @sem_cap))))))) := (And.intro (And.intro (And.intro (And.intro (And.intro (And.intro @awp_skip @awp_region) (And.intro @awp_draw (And.intro @awp_both @awp_seq))) (And.intro (And.intro @ops_qseq_n @ops_qseq_e) (And.intro @ops_qseq_r (And.intro @brt @brf)))) (And.intro (And.intro (And.intro @bnt @bnf) (And.intro @pkt (And.intro @pkf @awp_cond))) (And.intro (And.intro @awp_block (And.intro @ops_qblock_n @ops_qblock_r)) (And.intro @ops_qblock_e (And.intro @ops_qblock_o @awp_exit))))) (And.intro (And.intro (And.intro (And.intro @awp_scope @ops_qscope_n) (And.intro @ops_qscope_r (And.intro @ops_qscope_e @awp_ret))) (And.intro (And.intro @ops_qloop_n (And.intro @ops_qloop_e @ops_qloop_r)) (And.intro @ops_RetH_normal (And.intro @ops_RetH_ret @awp_retK)))) (And.intro (And.intro (And.intro @sem_callH @sem_callvH) (And.intro @ops_Ret_normal (And.intro @ops_Ret_ret @ops_nil))) (And.intro (And.intro @ops_one (And.intro @ops_zero @ops_guard)) (And.intro @ops_guard0 (And.intro @ev_t @ev_c)))))) (And.intro (And.intro (And.intro (And.intro (And.intro @ev_s @fget_eq) (And.intro @fget_ne (And.intro @hget_eq @hget_ne))) (And.intro (And.intro @hget_nil (And.intro @sem_mov @sem_pick)) (And.intro @sem_bin (And.intro @sem_binw @sem_un)))) (And.intro (And.intro (And.intro @sem_boxP @sem_boxO) (And.intro @sem_build (And.intro @sem_loadF @sem_load))) (And.intro (And.intro @sem_store (And.intro @sem_faddr @sem_fld)) (And.intro @sem_iaddr (And.intro @sem_iaddrF @sem_sidx))))) (And.intro (And.intro (And.intro (And.intro @sem_len @sem_conv) (And.intro @sem_extract (And.intro @sem_nilchk @sem_isnil))) (And.intro (And.intro @sem_mkfn (And.intro @sem_call @sem_callF)) (And.intro @sem_callv (And.intro @sem_mm @sem_slice)))) (And.intro (And.intro (And.intro @sem_slP @sem_binF) (And.intro @sem_slF (And.intro @sem_slO @sem_append))) (And.intro (And.intro @sem_appF (And.intro @sem_mk @sem_b2s)) (And.intro @sem_appZ (And.intro @sem_s2b @sem_cap)))))))
theorem SU : type_of% (And.intro (And.intro (And.intro (And.intro (And.intro (And.intro (And.intro @Bd_k (And.intro @Bd_and @Bd_imp)) (And.intro (And.intro @Bd_const @Bd2_k) (And.intro @Bd2_and @Bd2_imp))) (And.intro (And.intro (And.intro @Bd2_all @Bd2_const) (And.intro @br_any @bn_any)) (And.intro (And.intro @pk_any @aCond_bool) (And.intro @frzAll_nil @frzAll_as)))) (And.intro (And.intro (And.intro (And.intro @hnames_nil @hnames_cons) (And.intro @frzL_nil @frzL_cons)) (And.intro (And.intro @hfrz_as @hfrzB_some) (And.intro @hfrzB_none @frLe_nil))) (And.intro (And.intro (And.intro @frLe_cons @hpLe_nil) (And.intro @hpLe_cons @hsel_nil)) (And.intro (And.intro @hsel_cons @hselB_some) (And.intro @hselB_none @hrest_nil))))) (And.intro (And.intro (And.intro (And.intro @hrest_cons (And.intro @aCallvHK_fn @aGuard_true)) (And.intro (And.intro @aGuard_false @aGuard_tup) (And.intro @str_nil @binw_add))) (And.intro (And.intro (And.intro @binw_sub @binw_mul) (And.intro @binw_shl @binw_shr)) (And.intro (And.intro @aBox_agg @aBox_int) (And.intro @aBox_bool @aBox_str)))) (And.intro (And.intro (And.intro (And.intro @aBox_sl @aBox_obj) (And.intro @aBox_nils @aBox_nilp)) (And.intro (And.intro @aBox_fn @aBoxO_agg) (And.intro @aBoxO_one @aBuild_nil))) (And.intro (And.intro (And.intro @aBuild_cons @aBuild1_agg) (And.intro @aBuild1_one @aNil_sl)) (And.intro (And.intro @aNil_nils @aCallvK_fn) (And.intro @aMmK_max @aMmK_min)))))) (And.intro (And.intro (And.intro (And.intro (And.intro @slice_str_lh (And.intro @slice_str_l @slice_str_h)) (And.intro (And.intro @slice_sl_lh @slice_sl_l) (And.intro @slice_sl_h @slice_nils_h))) (And.intro (And.intro (And.intro @slice_row_h @elems_nil) (And.intro @elems_cons @elem1_agg)) (And.intro (And.intro @elem1_one @plain_nil) (And.intro @plain_cons @plain_int)))) (And.intro (And.intro (And.intro (And.intro @plain_str @plain_bool) (And.intro @frzR_row @app_row)) (And.intro (And.intro @app_row0 @app_nils) (And.intro @appB_some @mk_int))) (And.intro (And.intro (And.intro @appZ_nils @s2b_str) (And.intro @cap_nils @pick_bool)) (And.intro (And.intro @binF_int @bin_int) (And.intro @bin_str @bin_bool))))) (And.intro (And.intro (And.intro (And.intro @bin_pp0 (And.intro @bin_pp1 @bin_pp2)) (And.intro (And.intro @bin_pp3 @bin_ss0) (And.intro @bin_ss1 @bin_flat))) (And.intro (And.intro (And.intro @flatO_some @flat_nil) (And.intro @flat_int @flat_bool)) (And.intro (And.intro @flat_str @int_add) (And.intro @int_sub @int_mul)))) (And.intro (And.intro (And.intro (And.intro @int_quo @int_rem) (And.intro @int_eql @int_neq)) (And.intro (And.intro @int_lss @int_leq) (And.intro @int_gtr @int_geq))) (And.intro (And.intro (And.intro @str_add @str_eql) (And.intro @str_neq @str_lss)) (And.intro (And.intro @bool_eql @bool_neq) (And.intro @un_not @un_neg))))))) (And.intro (And.intro (And.intro (And.intro (And.intro (And.intro @load_obj (And.intro @load_ptr @loadB_some)) (And.intro (And.intro @part_true @part_false) (And.intro @store_ptr @storeB_some))) (And.intro (And.intro (And.intro @faddr_obj @faddr_ptr) (And.intro @fld_agg @iaddr_sl)) (And.intro (And.intro @iaddr_row @iaddrB_some) (And.intro @sidx_str @len_str)))) (And.intro (And.intro (And.intro (And.intro @len_sl @len_row) (And.intro @len_nils @conv_int)) (And.intro (And.intro @extract_tup @nilchk_obj) (And.intro @nilchk_ptr @nilchk_fn))) (And.intro (And.intro (And.intro @res_nil @res_t) (And.intro @res_c @entry_nil)) (And.intro (And.intro @entry_cons @pur_int) (And.intro @pur_bool @pur_str))))) (And.intro (And.intro (And.intro (And.intro @pur_sl (And.intro @pur_obj @pur_nils)) (And.intro (And.intro @pur_nilp @pur_fn) (And.intro @pur_agg @pur_tup))) (And.intro (And.intro (And.intro @pur_row @pur_ptr) (And.intro @pur1_int @pur1_bool)) (And.intro (And.intro @pur1_str @pur1_sl) (And.intro @pur1_obj @pur1_nils)))) (And.intro (And.intro (And.intro (And.intro @pur1_nilp @pur1_fn) (And.intro @pur1_agg @pur1_row)) (And.intro (And.intro @purB_some @purB_none) (And.intro @pur1_ptr @purBp_some))) (And.intro (And.intro (And.intro @purBp_none @pur1_nil) (And.intro @map_pur1_nil @pur_nil)) (And.intro (And.intro @map_pur_nil @purA_nil) (And.intro @purA_fn @purA_int)))))) (And.intro (And.intro (And.intro (And.intro (And.intro @purA_bool (And.intro @purA_str @purA_sl)) (And.intro (And.intro @purA_obj @purA_nils) (And.intro @purA_nilp @purA_agg))) (And.intro (And.intro (And.intro @purA_row @purA_ptr) (And.intro @cells_agg @one_int)) (And.intro (And.intro @ok_int @cells_int) (And.intro @setc_int @one_bool)))) (And.intro (And.intro (And.intro (And.intro @ok_bool @cells_bool) (And.intro @setc_bool @one_str)) (And.intro (And.intro @ok_str @cells_str) (And.intro @setc_str @one_sl))) (And.intro (And.intro (And.intro @ok_sl @cells_sl) (And.intro @setc_sl @one_obj)) (And.intro (And.intro @ok_obj @cells_obj) (And.intro @setc_obj @one_nils))))) (And.intro (And.intro (And.intro (And.intro (And.intro @ok_nils @cells_nils) (And.intro @setc_nils @one_nilp)) (And.intro (And.intro @ok_nilp @cells_nilp) (And.intro @setc_nilp @one_nilf))) (And.intro (And.intro (And.intro @ok_nilf @cells_nilf) (And.intro @setc_nilf @one_fn)) (And.intro (And.intro @ok_fn @cells_fn) (And.intro @setc_fn @one_row)))) (And.intro (And.intro (And.intro (And.intro @ok_row @cells_row) (And.intro @setc_row @one_ptr)) (And.intro (And.intro @ok_ptr @cells_ptr) (And.intro @setc_ptr @ok_agg))) (And.intro (And.intro (And.intro @setc_agg @lay_as) (And.intro @finR_one @finR_two)) (And.intro (And.intro @finR_three @finR_zero) (And.intro @inR_i64 @inR_u8)))))))) := (And.intro (And.intro (And.intro (And.intro (And.intro (And.intro (And.intro @Bd_k (And.intro @Bd_and @Bd_imp)) (And.intro (And.intro @Bd_const @Bd2_k) (And.intro @Bd2_and @Bd2_imp))) (And.intro (And.intro (And.intro @Bd2_all @Bd2_const) (And.intro @br_any @bn_any)) (And.intro (And.intro @pk_any @aCond_bool) (And.intro @frzAll_nil @frzAll_as)))) (And.intro (And.intro (And.intro (And.intro @hnames_nil @hnames_cons) (And.intro @frzL_nil @frzL_cons)) (And.intro (And.intro @hfrz_as @hfrzB_some) (And.intro @hfrzB_none @frLe_nil))) (And.intro (And.intro (And.intro @frLe_cons @hpLe_nil) (And.intro @hpLe_cons @hsel_nil)) (And.intro (And.intro @hsel_cons @hselB_some) (And.intro @hselB_none @hrest_nil))))) (And.intro (And.intro (And.intro (And.intro @hrest_cons (And.intro @aCallvHK_fn @aGuard_true)) (And.intro (And.intro @aGuard_false @aGuard_tup) (And.intro @str_nil @binw_add))) (And.intro (And.intro (And.intro @binw_sub @binw_mul) (And.intro @binw_shl @binw_shr)) (And.intro (And.intro @aBox_agg @aBox_int) (And.intro @aBox_bool @aBox_str)))) (And.intro (And.intro (And.intro (And.intro @aBox_sl @aBox_obj) (And.intro @aBox_nils @aBox_nilp)) (And.intro (And.intro @aBox_fn @aBoxO_agg) (And.intro @aBoxO_one @aBuild_nil))) (And.intro (And.intro (And.intro @aBuild_cons @aBuild1_agg) (And.intro @aBuild1_one @aNil_sl)) (And.intro (And.intro @aNil_nils @aCallvK_fn) (And.intro @aMmK_max @aMmK_min)))))) (And.intro (And.intro (And.intro (And.intro (And.intro @slice_str_lh (And.intro @slice_str_l @slice_str_h)) (And.intro (And.intro @slice_sl_lh @slice_sl_l) (And.intro @slice_sl_h @slice_nils_h))) (And.intro (And.intro (And.intro @slice_row_h @elems_nil) (And.intro @elems_cons @elem1_agg)) (And.intro (And.intro @elem1_one @plain_nil) (And.intro @plain_cons @plain_int)))) (And.intro (And.intro (And.intro (And.intro @plain_str @plain_bool) (And.intro @frzR_row @app_row)) (And.intro (And.intro @app_row0 @app_nils) (And.intro @appB_some @mk_int))) (And.intro (And.intro (And.intro @appZ_nils @s2b_str) (And.intro @cap_nils @pick_bool)) (And.intro (And.intro @binF_int @bin_int) (And.intro @bin_str @bin_bool))))) (And.intro (And.intro (And.intro (And.intro @bin_pp0 (And.intro @bin_pp1 @bin_pp2)) (And.intro (And.intro @bin_pp3 @bin_ss0) (And.intro @bin_ss1 @bin_flat))) (And.intro (And.intro (And.intro @flatO_some @flat_nil) (And.intro @flat_int @flat_bool)) (And.intro (And.intro @flat_str @int_add) (And.intro @int_sub @int_mul)))) (And.intro (And.intro (And.intro (And.intro @int_quo @int_rem) (And.intro @int_eql @int_neq)) (And.intro (And.intro @int_lss @int_leq) (And.intro @int_gtr @int_geq))) (And.intro (And.intro (And.intro @str_add @str_eql) (And.intro @str_neq @str_lss)) (And.intro (And.intro @bool_eql @bool_neq) (And.intro @un_not @un_neg))))))) (And.intro (And.intro (And.intro (And.intro (And.intro (And.intro @load_obj (And.intro @load_ptr @loadB_some)) (And.intro (And.intro @part_true @part_false) (And.intro @store_ptr @storeB_some))) (And.intro (And.intro (And.intro @faddr_obj @faddr_ptr) (And.intro @fld_agg @iaddr_sl)) (And.intro (And.intro @iaddr_row @iaddrB_some) (And.intro @sidx_str @len_str)))) (And.intro (And.intro (And.intro (And.intro @len_sl @len_row) (And.intro @len_nils @conv_int)) (And.intro (And.intro @extract_tup @nilchk_obj) (And.intro @nilchk_ptr @nilchk_fn))) (And.intro (And.intro (And.intro @res_nil @res_t) (And.intro @res_c @entry_nil)) (And.intro (And.intro @entry_cons @pur_int) (And.intro @pur_bool @pur_str))))) (And.intro (And.intro (And.intro (And.intro @pur_sl (And.intro @pur_obj @pur_nils)) (And.intro (And.intro @pur_nilp @pur_fn) (And.intro @pur_agg @pur_tup))) (And.intro (And.intro (And.intro @pur_row @pur_ptr) (And.intro @pur1_int @pur1_bool)) (And.intro (And.intro @pur1_str @pur1_sl) (And.intro @pur1_obj @pur1_nils)))) (And.intro (And.intro (And.intro (And.intro @pur1_nilp @pur1_fn) (And.intro @pur1_agg @pur1_row)) (And.intro (And.intro @purB_some @purB_none) (And.intro @pur1_ptr @purBp_some))) (And.intro (And.intro (And.intro @purBp_none @pur1_nil) (And.intro @map_pur1_nil @pur_nil)) (And.intro (And.intro @map_pur_nil @purA_nil) (And.intro @purA_fn @purA_int)))))) (And.intro (And.intro (And.intro (And.intro (And.intro @purA_bool (And.intro @purA_str @purA_sl)) (And.intro (And.intro @purA_obj @purA_nils) (And.intro @purA_nilp @purA_agg))) (And.intro (And.intro (And.intro @purA_row @purA_ptr) (And.intro @cells_agg @one_int)) (And.intro (And.intro @ok_int @cells_int) (And.intro @setc_int @one_bool)))) (And.intro (And.intro (And.intro (And.intro @ok_bool @cells_bool) (And.intro @setc_bool @one_str)) (And.intro (And.intro @ok_str @cells_str) (And.intro @setc_str @one_sl))) (And.intro (And.intro (And.intro @ok_sl @cells_sl) (And.intro @setc_sl @one_obj)) (And.intro (And.intro @ok_obj @cells_obj) (And.intro @setc_obj @one_nils))))) (And.intro (And.intro (And.intro (And.intro (And.intro @ok_nils @cells_nils) (And.intro @setc_nils @one_nilp)) (And.intro (And.intro @ok_nilp @cells_nilp) (And.intro @setc_nilp @one_nilf))) (And.intro (And.intro (And.intro @ok_nilf @cells_nilf) (And.intro @setc_nilf @one_fn)) (And.intro (And.intro @ok_fn @cells_fn) (And.intro @setc_fn @one_row)))) (And.intro (And.intro (And.intro (And.intro @ok_row @cells_row) (And.intro @setc_row @one_ptr)) (And.intro (And.intro @ok_ptr @cells_ptr) (And.intro @setc_ptr @ok_agg))) (And.intro (And.intro (And.intro @setc_agg @lay_as) (And.intro @finR_one @finR_two)) (And.intro (And.intro @finR_three @finR_zero) (And.intro @inR_i64 @inR_u8))))))))
theorem SB : type_of% (And.intro (And.intro (And.intro (And.intro (And.intro (And.intro @List.map_cons.{0,0} @List.map_nil.{0,0}) (And.intro @List.drop_succ_cons.{0} @List.drop_zero.{0})) (And.intro (And.intro @List.take_succ_cons.{0} @List.take_zero.{0}) (And.intro @List.take_nil.{0} @List.drop_nil.{0}))) (And.intro (And.intro (And.intro @List.getD_cons_zero.{0} @List.getD_cons_succ.{0}) (And.intro @List.length_cons.{0} @List.length_nil.{0})) (And.intro (And.intro @List.cons_append.{0} @List.nil_append.{0}) (And.intro @List.append_nil.{0} (And.intro @List.replicate_succ.{0} @List.replicate_zero.{0}))))) (And.intro (And.intro (And.intro (And.intro @List.set_cons_zero.{0} @List.set_cons_succ.{0}) (And.intro @Option.map_some.{0,0} @Option.map_none.{0,0})) (And.intro (And.intro @Nat.add_zero @Nat.zero_add) (And.intro @decide_eq_true_eq (And.intro @decide_eq_false_iff_not @Bool.not_eq_true')))) (And.intro (And.intro (And.intro @Bool.not_eq_false' @Bool.not_true) (And.intro @Bool.not_false @true_and)) (And.intro (And.intro @and_true @not_false_eq_true) (And.intro @not_true_eq_false (And.intro @Int.toNat_natCast @Nat.lt_add_one)))))) (And.intro (And.intro (And.intro (And.intro (And.intro @Bool.decide_eq_true @Bool.true_eq_false) (And.intro @Bool.false_eq_true @false_implies)) (And.intro (And.intro @true_implies @List.mem_cons.{0}) (And.intro @List.not_mem_nil.{0} @or_false))) (And.intro (And.intro (And.intro @Int.ofNat_lt @Int.ofNat_le) (And.intro @Int.natCast_inj @Int.natCast_zero)) (And.intro (And.intro @Int.natCast_one @Int.cast_ofNat_Int) (And.intro @Int.natCast_nonneg (And.intro @Nat.zero_le @Nat.le_refl))))) (And.intro (And.intro (And.intro (And.intro @List.contains_nil.{0} @List.contains_cons.{0}) (And.intro @Bool.or_false @Bool.or_true)) (And.intro (And.intro @Bool.false_or @Bool.true_or) (And.intro @decide_true (And.intro @decide_false @Bool.false_and)))) (And.intro (And.intro (And.intro @Bool.true_and @Bool.and_true) (And.intro @Bool.and_false @zA.{0})) (And.intro (And.intro @zA.{1} @zI.{0}) (And.intro @zI.{1} (And.intro @zN.{1} @zE.{1}))))))) := (And.intro (And.intro (And.intro (And.intro (And.intro (And.intro @List.map_cons.{0,0} @List.map_nil.{0,0}) (And.intro @List.drop_succ_cons.{0} @List.drop_zero.{0})) (And.intro (And.intro @List.take_succ_cons.{0} @List.take_zero.{0}) (And.intro @List.take_nil.{0} @List.drop_nil.{0}))) (And.intro (And.intro (And.intro @List.getD_cons_zero.{0} @List.getD_cons_succ.{0}) (And.intro @List.length_cons.{0} @List.length_nil.{0})) (And.intro (And.intro @List.cons_append.{0} @List.nil_append.{0}) (And.intro @List.append_nil.{0} (And.intro @List.replicate_succ.{0} @List.replicate_zero.{0}))))) (And.intro (And.intro (And.intro (And.intro @List.set_cons_zero.{0} @List.set_cons_succ.{0}) (And.intro @Option.map_some.{0,0} @Option.map_none.{0,0})) (And.intro (And.intro @Nat.add_zero @Nat.zero_add) (And.intro @decide_eq_true_eq (And.intro @decide_eq_false_iff_not @Bool.not_eq_true')))) (And.intro (And.intro (And.intro @Bool.not_eq_false' @Bool.not_true) (And.intro @Bool.not_false @true_and)) (And.intro (And.intro @and_true @not_false_eq_true) (And.intro @not_true_eq_false (And.intro @Int.toNat_natCast @Nat.lt_add_one)))))) (And.intro (And.intro (And.intro (And.intro (And.intro @Bool.decide_eq_true @Bool.true_eq_false) (And.intro @Bool.false_eq_true @false_implies)) (And.intro (And.intro @true_implies @List.mem_cons.{0}) (And.intro @List.not_mem_nil.{0} @or_false))) (And.intro (And.intro (And.intro @Int.ofNat_lt @Int.ofNat_le) (And.intro @Int.natCast_inj @Int.natCast_zero)) (And.intro (And.intro @Int.natCast_one @Int.cast_ofNat_Int) (And.intro @Int.natCast_nonneg (And.intro @Nat.zero_le @Nat.le_refl))))) (And.intro (And.intro (And.intro (And.intro @List.contains_nil.{0} @List.contains_cons.{0}) (And.intro @Bool.or_false @Bool.or_true)) (And.intro (And.intro @Bool.false_or @Bool.true_or) (And.intro @decide_true (And.intro @decide_false @Bool.false_and)))) (And.intro (And.intro (And.intro @Bool.true_and @Bool.and_true) (And.intro @Bool.and_false @zA.{0})) (And.intro (And.intro @zA.{1} @zI.{0}) (And.intro @zI.{1} (And.intro @zN.{1} @zE.{1})))))))

end Go.Proofs.YteeiaaogmjbcjaaGreat.Av
