/-
  THE QUIET OPERATIONS: what an abstract operation asks is enough for the model's operation to yield a value that stands for the abstract one. Conditions: none.
-/
import Derived.Test.YtlpapmofmdgllaaAvLow
import Derived.Laws.Cells
import Derived.Laws.Tables
import Derived.Laws.CopyRow
set_option linter.unusedVariables false
set_option linter.unusedSimpArgs false
namespace Go.Proofs.Ytlpapmofmdgllaa.Av
open Go.RowKit

/-- what an operation has yielded -/
def Yield (P : Program) (ρ : Operand → Value) (o : Oper) (w : World) (R : Value → World → Prop) : Prop :=
  match (execOp ρ o).run P w with
  | .ok (.value v) w' => R v w'
  | .ok .skip w' => R undef w'
  | .ok (.enter f args) w' => Calls P f args w' fun e w'' => ∃ v, e = .returned v ∧ R v w''
  | _ => False
theorem Yield.wp {P : Program} {a : Act} {o : Oper} {w : World} {R : Value → World → Prop} {K : Act → World → Prop} {Q : Exit → Act → World → Prop} (h : Yield P a.eval o w R) (hk : ∀ v w', R v w' → K (a.put o.dst v) w') : o.wp P a w K Q := by
  unfold Yield at h
  unfold Oper.wp Oper.upon
  split at h
  · rename_i v w' hr; rw [hr]; exact hk _ _ h
  · rename_i w' hr; rw [hr]; exact hk _ _ h
  · rename_i f args w' hr
    rw [hr]
    exact h.mono fun e w'' ⟨v, he, hv⟩ => by subst he; exact hk _ _ hv
  · exact h.elim
theorem Yield.mono {P : Program} {ρ : Operand → Value} {o : Oper} {w : World} {R R' : Value → World → Prop} (h : Yield P ρ o w R) (hk : ∀ v w', R v w' → R' v w') : Yield P ρ o w R' := by
  unfold Yield at *
  split at h
  · rename_i v w' hr; exact hk _ _ h
  · rename_i w' hr; exact hk _ _ h
  · rename_i f args w' hr
    exact h.mono fun e w'' ⟨v, he, hv⟩ => ⟨v, he, hk _ _ hv⟩
  · exact h.elim
theorem Yield.val {P : Program} {ρ : Operand → Value} {o : Oper} {w w' : World} {R : Value → World → Prop} {v : Value} (hr : (execOp ρ o).run P w = .ok (.value v) w') (h : R v w') : Yield P ρ o w R := by
  unfold Yield; rw [hr]; exact h

/-- behind a quiet operation -/
def QPost (E : Env) (S : Nat → Prop) (μ : Mu) (w : World) (hp : Hp) (x : AV) (v : Value) (w' : World) : Prop :=
  ∃ S', VR S' w' μ v x ∧ WI E S' w' μ hp ∧ (∀ b, S b → S' b) ∧ Same S w w'
theorem QPost.here {E : Env} {S : Nat → Prop} {μ : Mu} {w : World} {hp : Hp} {x : AV} {v : Value} (hw : WI E S w μ hp) (h : VR S w μ v x) : QPost E S μ w hp x v w :=
  ⟨S, h, hw, fun _ h => h, Same.refl _ _⟩

/-- what is known of operands -/
def Fits (S : Nat → Prop) (w : World) (μ : Mu) (fr : Nat → AV) (ρ : Operand → Value) (xs : List Operand) : Prop :=
  ∀ x ∈ xs, ∀ ix, lowArg x = some ix → VR S w μ (ρ x) (ix.ev fr)

theorem low1_ok {S : Nat → Prop} {w : World} {μ : Mu} {v : Value} {x : AV} (h : low1 v = some x) : VR S w μ v x ∧ x.one = true := by
  unfold low1 at h
  split at h
  · cases h; exact ⟨.bool _, rfl⟩
  · split at h
    · rename_i hr; cases h; exact ⟨.int _ _ hr.1 hr.2, rfl⟩
    · cases h
  · split at h
    · rename_i hr; cases h; exact ⟨.str _ hr, rfl⟩
    · cases h
  · cases h; exact ⟨.nilp, rfl⟩
  · cases h; exact ⟨.nils, rfl⟩
  · cases h; exact ⟨.nilf, rfl⟩
  · cases h
theorem lowL_ok {S : Nat → Prop} {w : World} {μ : Mu} : ∀ {vs : List Value} {xs : List AV}, lowL vs = some xs → VRs S w μ vs xs ∧ ∀ x ∈ xs, x.one = true
  | [], xs, h => by cases h; exact ⟨VRs.nil, by simp⟩
  | v :: vs, xs, h => by
    unfold lowL at h
    split at h
    · rename_i x ys h1 h2
      cases h
      have a := low1_ok (S := S) (w := w) (μ := μ) h1
      have b := lowL_ok (S := S) (w := w) (μ := μ) h2
      exact ⟨VRs.cons a.1 b.1, by intro y hy; rcases List.mem_cons.1 hy with e | e; exact e ▸ a.2; exact b.2 y e⟩
    · cases h
theorem lowVal_ok {S : Nat → Prop} {w : World} {μ : Mu} {v : Value} {x : AV} (h : lowVal v = some x) : VR S w μ v x ∧ x.ok = true := by
  unfold lowVal at h
  split at h
  · rename_i cs
    cases hl : lowL cs.toList with
    | none => rw [hl] at h; cases h
    | some xs =>
      rw [hl] at h
      cases h
      have a := lowL_ok (S := S) (w := w) (μ := μ) hl
      exact ⟨.agg cs xs (by simpa using a.1.1) a.2 (fun i v x h1 h2 => a.1.2 i v x (by simpa using h1) h2), rfl⟩
  · have a := low1_ok (S := S) (w := w) (μ := μ) h
    exact ⟨a.1, by simp [AV.ok, a.2]⟩
theorem AV.ok_iff {x : AV} : x.ok = true ↔ x.one = true ∨ x.isAgg = true := by simp [AV.ok]

section
variable {P : Program} {E : Env} {S : Nat → Prop} {w : World} {μ : Mu} {hp : Hp} {fr : Nat → AV} {ρ : Operand → Value}

theorem Fits.one {x : Operand} {ix : IArg} {xs : List Operand} (h : Fits S w μ fr ρ xs) (hx : x ∈ xs) (hl : lowArg x = some ix) : VR S w μ (ρ x) (ix.ev fr) := h x hx ix hl
theorem Fits.args {xs : List Operand} : ∀ {l : List Operand} {is : List IArg}, Fits S w μ fr ρ xs → (∀ x ∈ l, x ∈ xs) → lowArgs l = some is → VRs S w μ (l.map ρ) (is.map fun x => x.ev fr)
  | [], is, h, hs, hl => by cases hl; exact VRs.nil
  | x :: l, is, h, hs, hl => by
    unfold lowArgs at hl
    split at hl
    · rename_i y ys h1 h2
      cases hl
      exact VRs.cons (h x (hs x (by simp)) y h1) (Fits.args h (fun z hz => hs z (by simp [hz])) h2)
    · cases hl

/-- the way from what is asked to the yield: ONE abstract value, in whatever world -/
def QOk (P : Program) (E : Env) (fr : Nat → AV) (hp : Hp) (o : Oper) (K : AV → Prop) : Prop :=
  ∃ x, K x ∧ ∀ S w μ ρ, WI E S w μ hp → Fits S w μ fr ρ o.op.operands.toList → (∀ v, ρ (.const v) = v) → (∀ f, ρ (.func f) = .func (.func f) #[] #[]) → Yield P ρ o w (QPost E S μ w hp x)

theorem q_mov {o : Oper} {x : Operand} {ix : IArg} {K : AV → Prop} (ho : o.op = .move x ∨ o.op = .assign x) (hl : lowArg x = some ix) (h : K (ix.ev fr)) : QOk P E fr hp o K := by
  refine ⟨_, h, fun S w μ ρ hw hf _ _ => ?_⟩
  have hv := hf.one (x := x) (by rcases ho with ho | ho <;> simp [ho, Op.operands]) hl
  exact Yield.val (v := ρ x) (w' := w) (by rcases ho with ho | ho <;> simp [execOp, ho]) (QPost.here hw hv)

theorem q_pick {o : Oper} {c a b : Operand} {ic ia ib : IArg} {K : AV → Prop} (ho : o.op = .pick c a b) (hc : lowArg c = some ic) (ha : lowArg a = some ia) (hb : lowArg b = some ib)
    (h : aPick (ic.ev fr) (ia.ev fr) (ib.ev fr) K) : QOk P E fr hp o K := by
  unfold aPick at h
  split at h
  · rename_i t ht
    have key : ∀ (x : AV), (t = true → x = ia.ev fr) → (t = false → x = ib.ev fr) → ∀ S w μ ρ, WI E S w μ hp → Fits S w μ fr ρ o.op.operands.toList → Yield P ρ o w (QPost E S μ w hp x) := by
      intro x h1 h2 S w μ ρ hw hf
      have hcv := hf.one (x := c) (by simp [ho, Op.operands]) hc
      have hav := hf.one (x := a) (by simp [ho, Op.operands]) ha
      have hbv := hf.one (x := b) (by simp [ho, Op.operands]) hb
      rw [ht] at hcv
      generalize hcc : ρ c = vc at hcv
      cases hcv
      refine Yield.val (v := if t then ρ a else ρ b) (w' := w) (by simp [execOp, ho, hcc, asBool]) (QPost.here hw ?_)
      cases t
      · rw [h2 rfl]; exact hbv
      · rw [h1 rfl]; exact hav
    cases t
    · exact ⟨_, h.2 rfl, fun S w μ ρ hw hf _ _ => key _ (by simp) (fun _ => rfl) S w μ ρ hw hf⟩
    · exact ⟨_, h.1 rfl, fun S w μ ρ hw hf _ _ => key _ (fun _ => rfl) (by simp) S w μ ρ hw hf⟩
  · exact h.elim

end

end Go.Proofs.Ytlpapmofmdgllaa.Av
