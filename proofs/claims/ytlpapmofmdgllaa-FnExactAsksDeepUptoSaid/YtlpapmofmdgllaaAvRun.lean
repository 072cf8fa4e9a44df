/-
  CODE AND FUNCTIONS: what the abstract code asks is enough for the model's. Conditions: none.
-/
import Derived.Test.YtlpapmofmdgllaaAvSnd9
import Derived.Tactics
import Derived.Scope
set_option linter.unusedVariables false
set_option linter.unusedSimpArgs false
namespace Go.Proofs.Ytlpapmofmdgllaa.Av
open Go.RowKit

/-- the abstract state stands for the frame and the world -/
def Rep (E : Env) (nt : Nat) (s : St) (a : Act) (w : World) : Prop :=
  a.defers = [] ∧ a.tmps.size = nt ∧ ∃ S μ, WI E S w μ s.hp ∧ ∀ t, VR S w μ (a.tmps.getD t undef) (fget s.fr t)

theorem VR.undef {S : Nat → Prop} {w : World} {μ : Mu} : VR S w μ undef (.tup []) := VR.tup #[] [] rfl (fun i v x p => by simp at p)

theorem Rep.put {E : Env} {nt : Nat} {s : St} {a : Act} {w w' : World} {d : Option Nat} {v : Value} {x : AV} {hp' : Hp} {S S' : Nat → Prop} {μ μ' : Mu} (hd : a.defers = []) (hn : a.tmps.size = nt) (hf : ∀ t, VR S w μ (a.tmps.getD t Go.undef) (fget s.fr t)) (hdok : dstOk nt d = true)
    (hv : VR S' w' μ' v x) (hw : WI E S' w' μ' hp') (hS : ∀ b, S b → S' b) (hsame : Same S w w') (hμ : Mu.le μ μ') : Rep E nt (s.put d x hp') (a.put d v) w' := by
  cases d with
  | none => exact ⟨hd, hn, S', μ', hw, fun t => (hf t).mono hS hsame hμ⟩
  | some d =>
    have hlt : d < nt := by simpa [dstOk] using hdok
    refine ⟨hd, by simp [Act.put, hn], S', μ', hw, fun t => ?_⟩
    show VR S' w' μ' ((a.tmps.setIfInBounds d v).getD t Go.undef) (if d = t then x else fget s.fr t)
    by_cases h : d = t
    · subst h
      have : (a.tmps.setIfInBounds d v).getD d Go.undef = v := by simp [hn, hlt]
      rw [this, if_pos rfl]; exact hv
    · rw [if_neg h]
      have : (a.tmps.setIfInBounds d v).getD t Go.undef = a.tmps.getD t Go.undef := by
        simp [Array.getElem?_setIfInBounds_ne h]
      rw [this]
      exact (hf t).mono hS hsame hμ

theorem lowArg_ok {S : Nat → Prop} {w : World} {μ : Mu} {a : Act} {fr : Nat → AV} (hf : ∀ t, VR S w μ (a.tmps.getD t Go.undef) (fr t)) {x : Operand} {ix : IArg} (hl : lowArg x = some ix) : VR S w μ (a.eval x) (ix.ev fr) := by
  unfold lowArg at hl
  split at hl
  · cases hl; exact hf _
  · rename_i v
    cases hv : lowVal v with
    | none => rw [hv] at hl; cases hl
    | some x => rw [hv] at hl; cases hl; exact (lowVal_ok hv).1
  · cases hl; exact .fn _ #[] [] rfl (fun i v x p => by simp at p)
  · cases hl
theorem fits_all {S : Nat → Prop} {w : World} {μ : Mu} {a : Act} {fr : Nat → AV} (hf : ∀ t, VR S w μ (a.tmps.getD t Go.undef) (fr t)) (xs : List Operand) : Fits S w μ fr a.eval xs := fun x _ ix hl => lowArg_ok hf hl

/-- whether an operation is wanted -/
theorem wanted_of {S : Nat → Prop} {w : World} {μ : Mu} {a : Act} {fr : Nat → AV} (hf : ∀ t, VR S w μ (a.tmps.getD t Go.undef) (fr t)) {ops : Array Oper} {o : Oper} {t : Nat} {want : Bool} (hg : lowGuard ops o.guard = some (some (t, want))) :
    (∀ b, fr t = .bool b → Region.wanted o (yielded ops a.tmps) = (b == want)) ∧ (∀ xs, fr t = .tup xs → Region.wanted o (yielded ops a.tmps) = false) := by
  unfold lowGuard at hg
  split at hg
  · cases hg
  · rename_i j w' hgo
    split at hg
    · rename_i t' ht
      cases hg
      refine ⟨fun b hb => ?_, fun xs hb => ?_⟩
      · have := hf t
        rw [hb] at this
        generalize hv : a.tmps.getD t Go.undef = v at this
        cases this
        have : a.tmps[t]? = some (.bool b) := by
          simp only [Array.getD_eq_getD_getElem?] at hv
          cases hq : a.tmps[t]? with
          | none => rw [hq] at hv; simp [Go.undef] at hv
          | some u => rw [hq] at hv; simp at hv; rw [hv]
        simp only [Region.wanted, hgo, yielded, ht, Option.bind_some, this]
        cases b <;> cases want <;> rfl
      · have := hf t
        rw [hb] at this
        generalize hv : a.tmps.getD t Go.undef = v at this
        cases this with
        | tup cs _ _ _ =>
        have : ∀ b, a.tmps[t]? ≠ some (.bool b) := by
          intro b hq
          simp [hq] at hv
        simp only [Region.wanted, hgo, yielded, ht, Option.bind_some]
        cases hq : a.tmps[t]? with
        | none => rfl
        | some u =>
          cases u <;> first | rfl | exact absurd hq (this _)
    · cases hg
theorem wanted_none {ops : Array Oper} {o : Oper} {a : Act} (hg : lowGuard ops o.guard = some none) : Region.wanted o (yielded ops a.tmps) = true := by
  unfold lowGuard at hg
  split at hg
  · rename_i h; simp [Region.wanted, h]
  · split at hg <;> cases hg

section
variable {P : Program} {E : Env} {nt : Nat}

/-- an exit and a state that stand for an exit, a frame and a world -/
def conc (E : Env) (nt : Nat) (Q : Exit → St → Prop) : Exit → Act → World → Prop := fun e a w => ∃ s, Q e s ∧ Rep E nt s a w

theorem seq_ops {own : List (Nat × Nat)} {ops : Array Oper} {Q : Exit → St → Prop} : ∀ {l : List Oper} {il : List IOper} {s : St} {a : Act} {w : World}, lowOpers P nt own ops l = some il → awpOps P (Q .normal) il s → Rep E nt s a w → wpList P ops (conc E nt Q) l a w
  | [], il, s, a, w, hl, h, hr => by cases hl; exact ⟨s, h, hr⟩
  | o :: l, il, s, a, w, hl, h, hr => by
    unfold lowOpers at hl
    split at hl
    · rename_i io is h1 h2
      cases hl
      unfold lowOper at h1
      split at h1
      · rename_i g op hg hop
        split at h1
        · rename_i hdok
          cases h1
          obtain ⟨hd, hn, S, μ, hw, hf⟩ := hr
          have go : (op.sem P (fget s.fr) s.hp fun v hp => awpOps P (Q .normal) is (s.put o.dst v hp)) → o.wp P a w (wpList P ops (conc E nt Q) l) (conc E nt Q) := by
            intro hs
            refine (low_any hop hs hw (fits_all hf _) (fun _ => rfl) (fun _ => rfl)).wp fun v w' ⟨x, hp', S', μ', hk, hv, hw', hS, hsm, hμ⟩ => ?_
            exact seq_ops h2 hk (Rep.put hd hn hf hdok hv hw' hS hsm hμ)
          have skip : awpOps P (Q .normal) is (s.put o.dst (.tup []) s.hp) → wpList P ops (conc E nt Q) l (a.put o.dst Go.undef) w := fun hs =>
            seq_ops h2 hs (Rep.put hd hn hf hdok VR.undef hw (fun _ h => h) (Same.refl _ _) (Mu.le.refl _))
          unfold awpOps at h
          unfold wpList
          cases g with
          | none =>
            rw [if_pos (wanted_none hg)]
            exact .inl (go h)
          | some tw =>
            obtain ⟨t, want⟩ := tw
            obtain ⟨w1, w2⟩ := wanted_of hf hg
            simp only at h
            split at h
            · rename_i b hb
              by_cases hbw : b = want
              · rw [if_pos (by rw [w1 b hb]; simp [hbw])]
                exact .inl (go (h.1 hbw))
              · have hnb : b = !want := by cases b <;> cases want <;> simp at hbw ⊢
                rw [if_neg (by rw [w1 b hb]; simp [hbw])]
                exact skip (h.2 hnb)
            · rename_i xs hb
              rw [if_neg (by rw [w2 xs hb]; simp)]
              exact skip h
            · exact h.elim
        · cases h1
      · cases h1
    · cases hl

theorem WI.frz {S : Nat → Prop} {w : World} {μ : Mu} {hp : Hp} (h : WI E S w μ hp) {k : Nat} {bx : Box} (hk : hget hp k = some bx) : ∃ S', WI E S' w μ (hfrz hp k) ∧ (∀ b, S b → S' b) := by
  obtain ⟨B, hB, hz, hh⟩ := h.box k bx hk
  let g : Nat → Prop := fun b => B.blk = some b
  have hget' : ∀ j, hget (hfrz hp k) j = if k = j then some { bx with frz := true, es := bx.es.map (AV.pur hp) } else hget hp j := fun j => by
    unfold hfrz; rw [hk]; rfl
  have hblk : ∀ b, B.blk = some b → b < w.heap.size := fun b hb => by
    rw [hb] at hh
    obtain ⟨_, _, _, cur, a4, _⟩ := hh
    exact (Array.getElem?_eq_some_iff.1 a4).1
  have hokE : ∀ b, B.blk = some b → ∀ e ∈ bx.es, e.ok = true := fun b hb e he => by
    rw [hb] at hh
    obtain ⟨_, _, _, cur, a4, a5, a6, a7, a8⟩ := hh
    by_cases hq : e.isAgg = true
    · simp [AV.ok, hq]
    · have : e.cells = [e] := by cases e <;> first | rfl | (simp [AV.isAgg] at hq)
      simp [AV.ok, (a8.1 e he).2 e (by rw [this]; simp)]
  cases hfz : bx.frz with
  | true =>
    refine ⟨S, ⟨h.ext, h.lt, h.base, h.new, h.fresh, fun j bj hj => ?_, ?_, h.le⟩, fun _ h => h⟩
    · rw [hget'] at hj
      by_cases hkj : k = j
      · rw [if_pos hkj] at hj; cases hj; subst hkj
        refine ⟨B, hB, hz, ?_⟩
        cases hbl : B.blk with
        | none => rw [hbl] at hh; simp only at hh; simp [hh]
        | some b =>
          have hok := hokE b hbl
          rw [hbl] at hh
          obtain ⟨a1, a2, a3, cur, a4, a5, a6, a7, a8⟩ := hh
          exact ⟨fun e => (by cases e), fun _ => a2 hfz, fun e => (by cases e), cur, a4, a5, a6, by simpa using a7, a8.pur h hok⟩
      · rw [if_neg hkj] at hj; exact h.box j bj hj
    · intro j j' bj bj' Bj Bj' b hj hj' hne hf1 hf2
      rw [hget'] at hj hj'
      by_cases hkj : k = j
      · rw [if_pos hkj] at hj; cases hj; cases hf1
      · rw [if_neg hkj] at hj
        by_cases hkj' : k = j'
        · rw [if_pos hkj'] at hj'; cases hj'; cases hf2
        · rw [if_neg hkj'] at hj'; exact h.apart j j' bj bj' Bj Bj' b hj hj' hne hf1 hf2
  | false =>
    have hmono : ∀ b, S b → (S b ∨ B.blk = some b) := fun b hb => .inl hb
    refine ⟨fun b => S b ∨ B.blk = some b, ⟨h.ext, fun b hb => hb.elim (h.lt b) (hblk b), fun b hb => .inl (h.base b hb), fun b hb => ?_, h.fresh, fun j bj hj => ?_, ?_, h.le⟩, hmono⟩
    · rcases hb with hb | hb
      · exact h.new b hb
      · rw [hb] at hh
        exact .inr (hh.1 hfz)
    · rw [hget'] at hj
      by_cases hkj : k = j
      · rw [if_pos hkj] at hj; cases hj; subst hkj
        refine ⟨B, hB, hz, ?_⟩
        cases hbl : B.blk with
        | none => rw [hbl] at hh; simp only at hh; simp [hh]
        | some b =>
          have hok := hokE b hbl
          rw [hbl] at hh
          obtain ⟨a1, a2, a3, cur, a4, a5, a6, a7, a8⟩ := hh
          exact ⟨fun e => (by cases e), fun _ => .inr (by first | rfl | exact hbl), fun e => (by cases e), cur, a4, a5, a6, by simpa using a7, (a8.pur h hok).mono (fun b' hb' => .inl hb') (Same.refl _ _) (Mu.le.refl _)⟩
      · rw [if_neg hkj] at hj
        obtain ⟨B0, h0, hz0, hh0⟩ := h.box j bj hj
        refine ⟨B0, h0, hz0, ?_⟩
        cases hbl0 : B0.blk with
        | none => rw [hbl0] at hh0; exact hh0
        | some b0 =>
          rw [hbl0] at hh0
          obtain ⟨a1, a2, a3, cur, a4, a5, a6, a7, a8⟩ := hh0
          refine ⟨a1, fun e => .inl (a2 e), fun e hb => ?_, cur, a4, a5, a6, a7, a8.mono hmono (Same.refl _ _) (Mu.le.refl _)⟩
          rcases hb with hb | hb
          · exact a3 e hb
          · exact h.apart j k bj bx B0 B b0 hj hk (Ne.symm hkj) e hfz h0 hB hbl0 hb
    · intro j j' bj bj' Bj Bj' b hj hj' hne hf1 hf2
      rw [hget'] at hj hj'
      by_cases hkj : k = j
      · rw [if_pos hkj] at hj; cases hj; cases hf1
      · rw [if_neg hkj] at hj
        by_cases hkj' : k = j'
        · rw [if_pos hkj'] at hj'; cases hj'; cases hf2
        · rw [if_neg hkj'] at hj'; exact h.apart j j' bj bj' Bj Bj' b hj hj' hne hf1 hf2

theorem WI.frzL {S : Nat → Prop} {w : World} {μ : Mu} : ∀ (l : List Nat) {hp : Hp} {S : Nat → Prop}, WI E S w μ hp → ∃ S', WI E S' w μ (frzL l hp) ∧ ∀ b, S b → S' b
  | [], hp, S, h => ⟨S, h, fun _ h => h⟩
  | k :: r, hp, S, h => by
    cases hk : hget hp k with
    | none =>
      have e : hfrz hp k = hp := by unfold hfrz; rw [hk]
      obtain ⟨S', h1, h2⟩ := WI.frzL (S := S) r h
      exact ⟨S', by simp only [Av.frzL, e]; exact h1, h2⟩
    | some bx =>
      obtain ⟨S1, h1, h2⟩ := h.frz hk
      obtain ⟨S', h3, h4⟩ := WI.frzL (S := S1) r h1
      exact ⟨S', h3, fun b hb => h4 b (h2 b hb)⟩
theorem Rep.frzAll {s : St} {a : Act} {w : World} (h : Rep E nt s a w) : Rep E nt ⟨s.fr, frzAll s.hp⟩ a w := by
  obtain ⟨hd, hn, S, μ, hw, hf⟩ := h
  obtain ⟨S1, h1, h2⟩ := WI.frzL (S := S) (hnames s.hp) hw
  obtain ⟨S2, h3, h4⟩ := WI.frzL (S := S1) (hnames s.hp) h1
  exact ⟨hd, hn, S2, μ, h3, fun t => (hf t).mono (fun b hb => h4 b (h2 b hb)) (Same.refl _ _) (Mu.le.refl _)⟩

/-- what stands for s stands for one of T -/
structure Goes (s : St) (T : St → Prop) : Prop where
  mk ::
  run : ∀ (E : Env) nt a w, Rep E nt s a w → ∃ t, T t ∧ Rep E nt t a w

def awp (P : Program) : ICode → (Exit → St → Prop) → St → Prop
  | .skip, Q, s => Q .normal s
  | .region ops, Q, s => awpOps P (Q .normal) ops s
  | .draw ops, Q, s => awpOps P (Q .normal) ops s
  | .seq a b, Q, s => awp P a (fun e s' => match e with | .normal => awp P b Q s' | e => Q e s') s
  | .cond c a b, Q, s => match c.ev (fget s.fr) with
      | .bool t => (t = true → awp P a Q s) ∧ (t = false → awp P b Q s)
      | _ => False
  | .block id a, Q, s => awp P a (fun e s' => match e with | .exit id' => if id' = id then Q .normal s' else Q (.exit id') s' | e => Q e s') s
  | .loop a, Q, s => ∃ (X : Type) (I : X → St) (pre : X → Prop) (m : X → Nat), Goes s (fun t => ∃ x, pre x ∧ t = I x) ∧
      ∀ x, pre x → awp P a (fun e s' => match e with | .normal => Goes s' (fun t => ∃ x', (pre x' ∧ m x' < m x) ∧ t = I x') | e => Q e s') (I x)
  | .exit id, Q, s => Q (.exit id) s
  | .scope a, Q, s => awp P a (fun e s' => match e with | .goto _ => False | e => Q e s') s
  | .ret, Q, s => Q .ret ⟨s.fr, frzAll s.hp⟩
  | .retK, Q, s => Q .ret s
  | .ghost a, Q, s => Goes s (fun t => awp P a Q t)

theorem conc_mono {Q Q' : Exit → St → Prop} (h : ∀ e s, Q e s → Q' e s) {e : Exit} {a : Act} {w : World} (hc : conc E nt Q e a w) : conc E nt Q' e a w := let ⟨s, h1, h2⟩ := hc; ⟨s, h _ _ h1, h2⟩

/-- a region that draws its order: shown in a text of its own -/
def DrawOk (P : Program) (nt : Nat) (ops : Array Oper) (il : List IOper) : Prop :=
  ∀ (E : Env) (Q : Exit → St → Prop) (id : Nat) s a w, awpOps P (Q .normal) il s → Rep E nt s a w → (Code.region id ops true).wp P (conc E nt Q) a w

/-- the abstract code of a code -/
inductive Low (P : Program) (nt : Nat) (own : List (Nat × Nat)) : Code → ICode → Prop where
  | skip : Low P nt own .skip .skip
  | region (id : Nat) (ops : Array Oper) (il : List IOper) (h : lowOpers P nt own ops ops.toList = some il) : Low P nt own (.region id ops false) (.region il)
  | draw (id : Nat) (ops : Array Oper) (il : List IOper) (h : DrawOk P nt ops il) : Low P nt own (.region id ops true) (.draw il)
  | seq {a b : Code} {ia ib : ICode} (ha : Low P nt own a ia) (hb : Low P nt own b ib) : Low P nt own (.seq a b) (.seq ia ib)
  | cond {c : Operand} {a b : Code} {ic : IArg} {ia ib : ICode} (hc : lowArg c = some ic) (ha : Low P nt own a ia) (hb : Low P nt own b ib) : Low P nt own (.cond c a b) (.cond ic ia ib)
  | block (id : Nat) {a : Code} {ia : ICode} (ha : Low P nt own a ia) : Low P nt own (.block id a) (.block id ia)
  | loop {a : Code} {ia : ICode} (ha : Low P nt own a ia) : Low P nt own (.loop a) (.loop ia)
  | exit (id : Nat) : Low P nt own (.exit id) (.exit id)
  | scope {a : Code} {ia : ICode} (ha : Low P nt own a ia) : Low P nt own (.scope a) (.scope ia)
  | label (l : Nat) : Low P nt own (.label l) .skip
  | ret : Low P nt own .ret .ret
  | retK : Low P nt own .ret .retK
  | ghost {a : Code} {ia : ICode} (ha : Low P nt own a ia) : Low P nt own a (.ghost ia)

theorem awp_sound {own : List (Nat × Nat)} {c : Code} {ic : ICode} (hl : Low P nt own c ic) : ∀ {Q : Exit → St → Prop} {s : St} {a : Act} {w : World}, awp P ic Q s → Rep E nt s a w → c.wp P (conc E nt Q) a w := by
  induction hl with
  | skip => intro Q s a w h hr; exact wp_skip ⟨s, h, hr⟩
  | region id ops il hlo => intro Q s a w h hr; exact wp_region_list (seq_ops hlo h hr)
  | draw id ops il hd => intro Q s a w h hr; exact hd E Q id s a w h hr
  | seq ha hb iha ihb =>
    intro Q s a w h hr
    refine wp_seq (wp_mono (iha h hr) fun e a' w' ⟨s', h1, h2⟩ => ?_)
    cases e <;> first | exact ihb h1 h2 | exact ⟨s', h1, h2⟩
  | cond hc ha hb iha ihb =>
    intro Q s a w h hr
    unfold awp at h
    have hf := hr.2.2
    obtain ⟨S, μ, hw, hf⟩ := hf
    have hv := lowArg_ok hf hc
    split at h
    · rename_i t ht
      rw [ht] at hv
      generalize hcv : a.eval _ = v at hv
      cases hv
      exact wp_cond_split hcv (fun e => iha (h.1 e) hr) (fun e => ihb (h.2 e) hr)
    · exact h.elim
  | block id ha iha =>
    intro Q s a w h hr
    refine wp_block (wp_mono (iha h hr) fun e a' w' ⟨s', h1, h2⟩ => ?_)
    cases e with
    | exit id' =>
      simp only [Exit.inBlock]
      simp only at h1
      split at h1
      · rename_i hid; rw [if_pos hid]; exact ⟨s', h1, h2⟩
      · rename_i hid; rw [if_neg hid]; exact ⟨s', h1, h2⟩
    | _ => exact ⟨s', h1, h2⟩
  | loop ha iha =>
    intro Q s a w h hr
    obtain ⟨X, I, pre, m, h0, hround⟩ := h
    rename_i c ic
    intro b k cs
    have key : ∀ n x a w, m x = n → pre x → Rep E nt (I x) a w →
        ∃ e a' w', conc E nt Q e a' w' ∧ Arrives P (lone (b.at a (.code c :: .inLoop c :: k)) cs w) b k cs e a' w' := by
      intro n
      induction n using Nat.strongRecOn with
      | _ n ih =>
        intro x a w hn hx hr
        obtain ⟨e, a₁, w₁, ⟨s₁, hq, hr₁⟩, harr⟩ := iha (hround x hx) hr b (.inLoop c :: k) cs
        cases e with
        | normal =>
          obtain ⟨t, ⟨x', ⟨hx', hlt⟩, rfl⟩, hr'⟩ := Goes.run hq E nt a₁ w₁ hr₁
          obtain ⟨e₂, a₂, w₂, hq₂, harr₂⟩ := ih (m x') (hn ▸ hlt) x' a₁ w₁ rfl hx' hr'
          exact ⟨e₂, a₂, w₂, hq₂, .of_steps (Steps.trans harr (.one step_inLoop)) harr₂⟩
        | exit id => exact ⟨_, a₁, w₁, ⟨s₁, hq, hr₁⟩, .pass (x := .inLoop c) rfl (fun _ _ => .inl (by simp)) harr⟩
        | goto l => exact ⟨_, a₁, w₁, ⟨s₁, hq, hr₁⟩, .pass (x := .inLoop c) rfl (fun _ _ => .inl (by simp)) harr⟩
        | ret => exact ⟨_, a₁, w₁, ⟨s₁, hq, hr₁⟩, .pass (x := .inLoop c) rfl (fun _ _ => .inl (by simp)) harr⟩
        | panic ch => exact ⟨_, a₁, w₁, ⟨s₁, hq, hr₁⟩, .pass (x := .inLoop c) rfl (fun _ _ => .inl (by simp)) harr⟩
        | outgrown => exact ⟨_, a₁, w₁, ⟨s₁, hq, hr₁⟩, .pass (x := .inLoop c) rfl (fun _ _ => .inl (by simp)) harr⟩
    obtain ⟨t, ⟨x, hx, rfl⟩, hr'⟩ := h0.run E nt a w hr
    obtain ⟨e, a', w', hq, harr⟩ := key _ x a w rfl hx hr'
    exact ⟨e, a', w', hq, .of_steps (.one step_loop) harr⟩
  | exit id => intro Q s a w h hr; exact wp_exit ⟨s, h, hr⟩
  | scope ha iha =>
    intro Q s a w h hr
    refine wp_scope_straight (wp_mono (iha h hr) fun e a' w' ⟨s', h1, h2⟩ => ?_)
    cases e <;> first | exact h1.elim | exact ⟨s', h1, h2⟩
  | label l => intro Q s a w h hr; exact wp_label ⟨s, h, hr⟩
  | ret => intro Q s a w h hr; exact wp_ret ⟨_, h, hr.frzAll⟩
  | retK => intro Q s a w h hr; exact wp_ret ⟨_, h, hr⟩
  | ghost ha iha =>
    intro Q s a w h hr
    obtain ⟨t, h1, h2⟩ := h.run E nt a w hr
    exact iha h1 h2
end

end Go.Proofs.Ytlpapmofmdgllaa.Av
