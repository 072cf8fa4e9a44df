/-
  THE QUIET OPERATIONS: numbers, strings, equalities. Conditions: none.
-/
import Derived.Test.YtlpapmofmdgllaaAvSnd
import Derived.IntWalk
import Derived.WalkSpells
set_option linter.unusedVariables false
set_option linter.unusedSimpArgs false
namespace Go.Proofs.Ytlpapmofmdgllaa.Av
open Go.RowKit

theorem wrap_id (k : IntKind) (n : Int) (h : inR k n) : k.wrap n = n := by
  obtain ⟨h1, h2⟩ := h
  cases k <;> simp only [IntKind.min, IntKind.max, IntKind.signed, IntKind.bits] at h1 h2 <;> simp only [IntKind.wrap, IntKind.signed, IntKind.bits] <;> simp at h1 h2 ⊢ <;> omega
theorem wrap_in (k : IntKind) (n : Int) : inR k (k.wrap n) := by
  unfold inR
  cases k <;> simp only [IntKind.min, IntKind.max, IntKind.signed, IntKind.bits, IntKind.wrap] <;> simp <;> omega

/-- an operation on two values that leaves the world alone -/
def Bins (P : Program) (t : TypeId) (op : BinOp) (a b : Value) (v : Value) : Prop := ∀ w, (binOp op t a b).run P w = .ok v w

theorem bins_int {P : Program} {t : TypeId} {op : BinOp} {k : IntKind} {a b : Int} {K : AV → Prop} (h : aInt op k a b K) (hs : op ≠ .shl ∧ op ≠ .shr) :
    ∃ x v, K x ∧ Bins P t op (.int k a) (.int k b) v ∧ ∀ S w μ, VR S w μ v x := by
  unfold aInt at h
  cases op <;> simp only at h <;> try exact h.elim
  case add => exact ⟨_, .int k (a + b), h.2, fun w => by simp [binOp, Op.intArith, wrap_id k _ h.1], fun _ _ _ => .int _ _ h.1.1 h.1.2⟩
  case sub => exact ⟨_, .int k (a - b), h.2, fun w => by simp [binOp, Op.intArith, wrap_id k _ h.1], fun _ _ _ => .int _ _ h.1.1 h.1.2⟩
  case mul => exact ⟨_, .int k (a * b), h.2, fun w => by simp [binOp, Op.intArith, wrap_id k _ h.1], fun _ _ _ => .int _ _ h.1.1 h.1.2⟩
  case quo => exact ⟨_, .int k (a.tdiv b), h.2, fun w => by simp [binOp, Op.intDiv, h.1.1, wrap_id k _ h.1.2], fun _ _ _ => .int _ _ h.1.2.1 h.1.2.2⟩
  case rem => exact ⟨_, .int k (a.tmod b), h.2, fun w => by simp [binOp, Op.intDiv, h.1.1], fun _ _ _ => .int _ _ h.1.2.1 h.1.2.2⟩
  case eql => exact ⟨_, .bool (decide (a = b)), h, fun w => by simp [binOp, Op.intCmp]; rfl, fun _ _ _ => .bool _⟩
  case neq => exact ⟨_, .bool (!decide (a = b)), h, fun w => by simp [binOp, Op.intCmp, bne]; rfl, fun _ _ _ => .bool _⟩
  case lss => exact ⟨_, .bool (decide (a < b)), h, fun w => by simp [binOp, Op.intCmp], fun _ _ _ => .bool _⟩
  case leq => exact ⟨_, .bool (decide (a ≤ b)), h, fun w => by simp [binOp, Op.intCmp], fun _ _ _ => .bool _⟩
  case gtr => exact ⟨_, .bool (decide (b < a)), h, fun w => by simp [binOp, Op.intCmp], fun _ _ _ => .bool _⟩
  case geq => exact ⟨_, .bool (decide (b ≤ a)), h, fun w => by simp [binOp, Op.intCmp], fun _ _ _ => .bool _⟩

theorem bytes_inj {a b : ByteArray} (h : a.toList = b.toList) : a = b := by
  rw [ByteArray.toList_eq, ByteArray.toList_eq] at h
  exact ByteArray.ext (Array.toList_inj.1 h)
theorem strB (a b : ByteArray) : (a.toList == b.toList) = decide (a = b) := by
  by_cases h : a = b
  · subst h; simp
  · rw [beq_eq_false_iff_ne.2 fun e => h (bytes_inj e)]; simp [h]

theorem bins_str {P : Program} {t : TypeId} {op : BinOp} {a b : ByteArray} {K : AV → Prop} (h : aStr op a b K) :
    ∃ x v, K x ∧ Bins P t op (.string a) (.string b) v ∧ ∀ S w μ, VR S w μ v x := by
  unfold aStr at h
  cases op <;> simp only at h <;> try exact h.elim
  case add =>
    refine ⟨_, .string (a ++ b), h.2, fun w => ?_, fun _ _ _ => .str _ (by simpa using h.1)⟩
    have : ¬ (IntKind.i64.max < ((a.size + b.size : Nat) : Int)) := by
      have := h.1; unfold maxLen at this; show ¬ ((9223372036854775807 : Int) < _); omega
    simp only [binOp, Op.stringOp, gt_iff_lt, if_neg this]
    rfl
  case eql => exact ⟨_, .bool (decide (a = b)), h, fun w => by simp [binOp, Op.stringOp, strB], fun _ _ _ => .bool _⟩
  case neq => exact ⟨_, .bool (!decide (a = b)), h, fun w => by simp [binOp, Op.stringOp, strB], fun _ _ _ => .bool _⟩
  case lss => exact ⟨_, .bool (Op.bytesLess a.toList b.toList), h, fun w => by simp [binOp, Op.stringOp], fun _ _ _ => .bool _⟩

theorem bins_bool {P : Program} {t : TypeId} {op : BinOp} {x : Bool} {K : AV → Prop} {va vb : Value} (h : aBool op x K)
    (he : ∀ w, (binOp .eql t va vb).run P w = .ok (.bool x) w) (hn : ∀ w, (binOp .neq t va vb).run P w = .ok (.bool (!x)) w) :
    ∃ x v, K x ∧ Bins P t op va vb v ∧ ∀ S w μ, VR S w μ v x := by
  unfold aBool at h
  cases op <;> simp only at h <;> try exact h.elim
  case eql => exact ⟨_, .bool x, h, he, fun _ _ _ => .bool _⟩
  case neq => exact ⟨_, .bool (!x), h, hn, fun _ _ _ => .bool _⟩

theorem eqKind_bool {P : Program} {t : TypeId} (h : eqKind P t = .bool) : P.underlying t = some .bool := by
  unfold eqKind at h; split at h <;> first | assumption | cases h
theorem eqKind_ptr {P : Program} {t : TypeId} (h : eqKind P t = .ptr) : ∃ e, P.underlying t = some (.pointer e) := by
  unfold eqKind at h; split at h <;> first | (exact ⟨_, by assumption⟩) | cases h
theorem eqKind_slice {P : Program} {t : TypeId} (h : eqKind P t = .slice) : ∃ e, P.underlying t = some (.slice e) := by
  unfold eqKind at h; split at h <;> first | (exact ⟨_, by assumption⟩) | cases h
theorem eqKind_flat {P : Program} {t : TypeId} {ks : List Nat} : eqKind P t ≠ .flat ks := by
  unfold eqKind; split <;> simp

theorem equalIn_of {P : Program} {t : TypeId} {va vb : Value} {x : Bool} (h : ∀ w, (Op.equalIn Op.maxDepth t va vb).run P w = .ok x w) (h1 : ∀ op, binOp op t va vb = match op with | .eql => (do pure (.bool (← Op.equal t va vb))) | .neq => (do pure (.bool (!(← Op.equal t va vb)))) | _ => binOp op t va vb) :
    (∀ w, (binOp .eql t va vb).run P w = .ok (.bool x) w) ∧ (∀ w, (binOp .neq t va vb).run P w = .ok (.bool (!x)) w) := by
  refine ⟨fun w => ?_, fun w => ?_⟩ <;> rw [h1] <;> simp [Op.equal, h]

theorem eq_bool {P : Program} {t : TypeId} (ht : P.underlying t = some .bool) (a b : Bool) : ∀ w, (Op.equalIn Op.maxDepth t (.bool a) (.bool b)).run P w = .ok (a == b) w := fun w => by
  show (Op.equalIn (9999 + 1) _ _ _).run P w = _; rw [Op.equalIn]; simp [run_underlying ht]
theorem eq_ptr {P : Program} {t e : TypeId} (ht : P.underlying t = some (.pointer e)) (a b : Option Addr) (h : a = none ∨ b = none) : ∀ w, (Op.equalIn Op.maxDepth t (.pointer a) (.pointer b)).run P w = .ok (a.isNone && b.isNone) w := fun w => by
  rcases h with h | h <;> subst h
  · show (Op.equalIn (9999 + 1) _ _ _).run P w = _; rw [Op.equalIn]; simp [run_underlying ht]
  · show (Op.equalIn (9999 + 1) _ _ _).run P w = _; rw [Op.equalIn]; cases a <;> simp [run_underlying ht]
theorem eq_slice {P : Program} {t e : TypeId} (ht : P.underlying t = some (.slice e)) (a b : Option Addr) (n c m d : Nat) (h : a = none ∨ b = none) : ∀ w, (Op.equalIn Op.maxDepth t (.slice a n c) (.slice b m d)).run P w = .ok (a.isNone && b.isNone) w := fun w => by
  rcases h with h | h <;> subst h
  · show (Op.equalIn (9999 + 1) _ _ _).run P w = _; rw [Op.equalIn]; simp [run_underlying ht]
  · show (Op.equalIn (9999 + 1) _ _ _).run P w = _; rw [Op.equalIn]; cases a <;> simp [run_underlying ht]

theorem bins_ptr {P : Program} {t e : TypeId} {op : BinOp} {x : Bool} {K : AV → Prop} (ht : P.underlying t = some (.pointer e)) (h : aBool op x K) :
    ∃ z, K z ∧ ∀ (a b : Option Addr), (a = none ∨ b = none) → (a.isNone && b.isNone) = x → ∃ v, Bins P t op (.pointer a) (.pointer b) v ∧ ∀ S w μ, VR S w μ v z := by
  unfold aBool at h
  cases op <;> simp only at h <;> try exact h.elim
  case eql => exact ⟨_, h, fun a b h1 h2 => ⟨.bool _, (equalIn_of (eq_ptr ht a b h1) (fun op => by cases op <;> rfl)).1, fun _ _ _ => by rw [h2]; exact .bool _⟩⟩
  case neq => exact ⟨_, h, fun a b h1 h2 => ⟨.bool _, (equalIn_of (eq_ptr ht a b h1) (fun op => by cases op <;> rfl)).2, fun _ _ _ => by rw [h2]; exact .bool _⟩⟩
theorem bins_slice {P : Program} {t e : TypeId} {op : BinOp} {x : Bool} {K : AV → Prop} (ht : P.underlying t = some (.slice e)) (h : aBool op x K) :
    ∃ z, K z ∧ ∀ (a b : Option Addr) (n c m d : Nat), (a = none ∨ b = none) → (a.isNone && b.isNone) = x → ∃ v, Bins P t op (.slice a n c) (.slice b m d) v ∧ ∀ S w μ, VR S w μ v z := by
  unfold aBool at h
  cases op <;> simp only at h <;> try exact h.elim
  case eql => exact ⟨_, h, fun a b n c m d h1 h2 => ⟨.bool _, (equalIn_of (eq_slice ht a b n c m d h1) (fun op => by cases op <;> rfl)).1, fun _ _ _ => by rw [h2]; exact .bool _⟩⟩
  case neq => exact ⟨_, h, fun a b n c m d h1 h2 => ⟨.bool _, (equalIn_of (eq_slice ht a b n c m d h1) (fun op => by cases op <;> rfl)).2, fun _ _ _ => by rw [h2]; exact .bool _⟩⟩

section
variable {P : Program} {E : Env} {hp : Hp} {fr : Nat → AV}

theorem q_of_bins {o : Oper} {op : BinOp} {t ty : TypeId} {x y : Operand} {K : AV → Prop} (ho : o.op = .binOp op t x y ty)
    (h : ∃ z, K z ∧ ∀ S w μ (ρ : Operand → Value), WI E S w μ hp → Fits S w μ fr ρ [x, y] → ∃ v, Bins P t op (ρ x) (ρ y) v ∧ VR S w μ v z)
    (hg : ∀ S w μ (ρ : Operand → Value), WI E S w μ hp → Fits S w μ fr ρ [x, y] → ∀ w, (eqGuard op t x y (ρ x) (ρ y)).run P w = .ok () w) : QOk P E fr hp o K := by
  obtain ⟨z, hz, h⟩ := h
  refine ⟨z, hz, fun S w μ ρ hw hf _ _ => ?_⟩
  have hf' : Fits S w μ fr ρ [x, y] := fun u hu => hf u (by simp [ho, Op.operands] at *; exact hu)
  obtain ⟨v, hb, hv⟩ := h S w μ ρ hw hf'
  refine Yield.val (v := v) (w' := w) ?_ (QPost.here hw hv)
  have hg' := hg S w μ ρ hw hf' w
  simp [execOp, ho, hg', hb w]

/-- a value that is no interface and no struct has no guard -/
def noGuard : Value → Bool
  | .nilIface | .agg _ => false
  | _ => true
theorem run_eqGuard {op : BinOp} {t : TypeId} {x y : Operand} {a b : Value} (h : noGuard a = true ∨ noGuard b = true) (w : World) : (eqGuard op t x y a b).run P w = .ok () w := by
  unfold eqGuard
  cases op <;> cases a <;> cases b <;> first | rfl | (simp [noGuard] at h)

theorem q_bin {o : Oper} {op : BinOp} {t ty : TypeId} {x y : Operand} {ix iy : IArg} {K : AV → Prop} (ho : o.op = .binOp op t x y ty) (hx : lowArg x = some ix) (hy : lowArg y = some iy)
    (hs : op ≠ .shl ∧ op ≠ .shr) (h : aBin op (eqKind P t) (ix.ev fr) (iy.ev fr) K) : QOk P E fr hp o K := by
  have inv : ∀ {S w μ} {ρ : Operand → Value}, Fits S w μ fr ρ [x, y] → VR S w μ (ρ x) (ix.ev fr) ∧ VR S w μ (ρ y) (iy.ev fr) := fun hf => ⟨hf.one (by simp) hx, hf.one (by simp) hy⟩
  unfold aBin at h
  split at h
  · rename_i k a k' b e1 e2
    obtain ⟨rfl, h⟩ := h
    obtain ⟨z, v, hz, hb, hv⟩ := bins_int (P := P) (t := t) h hs
    refine q_of_bins ho ⟨z, hz, fun S w μ ρ hw hf => ?_⟩ (fun S w μ ρ hw hf => ?_)
    · obtain ⟨h1, h2⟩ := inv hf
      rw [e1] at h1; rw [e2] at h2
      generalize ρ x = vx at h1 ⊢; generalize ρ y = vy at h2 ⊢
      cases h1; cases h2
      exact ⟨v, hb, hv _ _ _⟩
    · obtain ⟨h1, h2⟩ := inv hf
      rw [e1] at h1
      generalize ρ x = vx at h1 ⊢
      cases h1
      exact run_eqGuard (.inl rfl)
  · rename_i a b e1 e2
    obtain ⟨z, v, hz, hb, hv⟩ := bins_str (P := P) (t := t) h
    refine q_of_bins ho ⟨z, hz, fun S w μ ρ hw hf => ?_⟩ (fun S w μ ρ hw hf => ?_)
    · obtain ⟨h1, h2⟩ := inv hf
      rw [e1] at h1; rw [e2] at h2
      generalize ρ x = vx at h1 ⊢; generalize ρ y = vy at h2 ⊢
      cases h1; cases h2
      exact ⟨v, hb, hv _ _ _⟩
    · obtain ⟨h1, h2⟩ := inv hf
      rw [e1] at h1
      generalize ρ x = vx at h1 ⊢
      cases h1
      exact run_eqGuard (.inl rfl)
  · rename_i a b e1 e2
    obtain ⟨hk, h⟩ := h
    obtain ⟨he, hn⟩ := equalIn_of (eq_bool (eqKind_bool hk) a b) (fun op => by cases op <;> rfl)
    obtain ⟨z, v, hz, hb, hv⟩ := bins_bool (P := P) (t := t) h he hn
    refine q_of_bins ho ⟨z, hz, fun S w μ ρ hw hf => ?_⟩ (fun S w μ ρ hw hf => ?_)
    · obtain ⟨h1, h2⟩ := inv hf
      rw [e1] at h1; rw [e2] at h2
      generalize ρ x = vx at h1 ⊢; generalize ρ y = vy at h2 ⊢
      cases h1; cases h2
      exact ⟨v, hb, hv _ _ _⟩
    · obtain ⟨h1, h2⟩ := inv hf
      rw [e1] at h1
      generalize ρ x = vx at h1 ⊢
      cases h1
      exact run_eqGuard (.inl rfl)
  iterate 5
    · rename_i e1 e2
      obtain ⟨hk, h⟩ := h
      obtain ⟨e, ht⟩ := eqKind_ptr hk
      obtain ⟨z, hz, hb⟩ := bins_ptr ht h
      refine q_of_bins ho ⟨z, hz, fun S w μ ρ hw hf => ?_⟩ (fun S w μ ρ hw hf => ?_)
      · obtain ⟨h1, h2⟩ := inv hf
        rw [e1] at h1; rw [e2] at h2
        generalize ρ x = vx at h1 ⊢; generalize ρ y = vy at h2 ⊢
        cases h1 <;> cases h2 <;> (refine (hb _ _ ?_ ?_).imp (fun v h => ⟨h.1, h.2 _ _ _⟩) <;> first | rfl | simp)
      · obtain ⟨h1, h2⟩ := inv hf
        rw [e1] at h1
        generalize ρ x = vx at h1 ⊢
        cases h1
        exact run_eqGuard (.inl rfl)
  iterate 3
    · rename_i e1 e2
      have hk := h.1
      have h := h.2
      have hk' : eqKind P t = .slice := by first | exact hk | exact hk.1
      obtain ⟨e, ht⟩ := eqKind_slice hk'
      obtain ⟨z, hz, hb⟩ := bins_slice ht h
      refine q_of_bins ho ⟨z, hz, fun S w μ ρ hw hf => ?_⟩ (fun S w μ ρ hw hf => ?_)
      · obtain ⟨h1, h2⟩ := inv hf
        rw [e1] at h1; rw [e2] at h2
        generalize ρ x = vx at h1 ⊢; generalize ρ y = vy at h2 ⊢
        cases h1 <;> cases h2 <;> first | (exact absurd rfl hk.2) | (refine (hb _ _ _ _ _ _ ?_ ?_).imp (fun v h => ⟨h.1, h.2 _ _ _⟩) <;> first | rfl | simp)
      · obtain ⟨h1, h2⟩ := inv hf
        rw [e1] at h1
        generalize ρ x = vx at h1 ⊢
        cases h1 <;> exact run_eqGuard (.inl rfl)
  · unfold aFlat at h
    split at h
    · rename_i hk; exact absurd hk eqKind_flat
    · exact h.elim
  · exact h.elim

theorem q_binw {o : Oper} {op : BinOp} {t ty : TypeId} {x y : Operand} {ix iy : IArg} {K : AV → Prop} (ho : o.op = .binOp op t x y ty) (hx : lowArg x = some ix) (hy : lowArg y = some iy)
    (h : aBinw op (ix.ev fr) (iy.ev fr) K) : QOk P E fr hp o K := by
  have inv : ∀ {S w μ} {ρ : Operand → Value}, Fits S w μ fr ρ [x, y] → VR S w μ (ρ x) (ix.ev fr) ∧ VR S w μ (ρ y) (iy.ev fr) := fun hf => ⟨hf.one (by simp) hx, hf.one (by simp) hy⟩
  unfold aBinw at h
  split at h
  · rename_i k a k' b e1 e2
    obtain ⟨rfl, h⟩ := h
    have hz : ∃ z v, K z ∧ Bins P t op (.int k a) (.int k b) v ∧ ∀ S w μ, VR S w μ v z := by
      cases op <;> simp only at h <;> try exact h.elim
      case add => exact ⟨_, .int k _, h, fun w => by simp [binOp, Op.intArith], fun _ _ _ => .int _ _ (wrap_in _ _).1 (wrap_in _ _).2⟩
      case sub => exact ⟨_, .int k _, h, fun w => by simp [binOp, Op.intArith], fun _ _ _ => .int _ _ (wrap_in _ _).1 (wrap_in _ _).2⟩
      case mul => exact ⟨_, .int k _, h, fun w => by simp [binOp, Op.intArith], fun _ _ _ => .int _ _ (wrap_in _ _).1 (wrap_in _ _).2⟩
      case and => exact ⟨_, .int k _, h, fun w => by simp only [binOp, Op.intBits, ne_eq, not_true_eq_false, if_false]; rfl, fun _ _ _ => .int _ _ (wrap_in _ _).1 (wrap_in _ _).2⟩
      case or => exact ⟨_, .int k _, h, fun w => by simp only [binOp, Op.intBits, ne_eq, not_true_eq_false, if_false]; rfl, fun _ _ _ => .int _ _ (wrap_in _ _).1 (wrap_in _ _).2⟩
      case xor => exact ⟨_, .int k _, h, fun w => by simp only [binOp, Op.intBits, ne_eq, not_true_eq_false, if_false]; rfl, fun _ _ _ => .int _ _ (wrap_in _ _).1 (wrap_in _ _).2⟩
      case shl => exact ⟨_, .int k _, h.2, fun w => by simp only [binOp, Op.shift, if_neg (Int.not_lt.2 h.1)]; rfl, fun _ _ _ => .int _ _ (wrap_in _ _).1 (wrap_in _ _).2⟩
      case shr => exact ⟨_, .int k _, h.2, fun w => by simp only [binOp, Op.shift, if_neg (Int.not_lt.2 h.1.1)]; rfl, fun _ _ _ => .int _ _ h.1.2.1 h.1.2.2⟩
    obtain ⟨z, v, hz, hb, hv⟩ := hz
    refine q_of_bins ho ⟨z, hz, fun S w μ ρ hw hf => ?_⟩ (fun S w μ ρ hw hf => ?_)
    · obtain ⟨h1, h2⟩ := inv hf
      rw [e1] at h1; rw [e2] at h2
      generalize ρ x = vx at h1 ⊢; generalize ρ y = vy at h2 ⊢
      cases h1; cases h2
      exact ⟨v, hb, hv _ _ _⟩
    · obtain ⟨h1, h2⟩ := inv hf
      rw [e1] at h1
      generalize ρ x = vx at h1 ⊢
      cases h1
      exact run_eqGuard (.inl rfl)
  · exact h.elim

theorem q_un {o : Oper} {op : UnOp} {t : TypeId} {x : Operand} {ix : IArg} {K : AV → Prop} (ho : o.op = .unOp op t x) (hx : lowArg x = some ix) (h : aUn op (ix.ev fr) K) : QOk P E fr hp o K := by
  have hf' : ∀ {S w μ} {ρ : Operand → Value}, Fits S w μ fr ρ o.op.operands.toList → VR S w μ (ρ x) (ix.ev fr) := fun hf => hf.one (by simp [ho, Op.operands]) hx
  unfold aUn at h
  split at h
  · rename_i b e1
    cases op <;> simp only at h <;> try exact h.elim
    refine ⟨_, h, fun S w μ ρ hw hf _ _ => ?_⟩
    have h1 := hf' hf
    rw [e1] at h1
    generalize hv : ρ x = vx at h1
    cases h1
    exact Yield.val (v := .bool (!b)) (w' := w) (by simp [execOp, ho, hv, Op.unary]) (QPost.here hw (.bool _))
  · rename_i k n e1
    cases op <;> simp only at h <;> try exact h.elim
    refine ⟨_, h.2, fun S w μ ρ hw hf _ _ => ?_⟩
    have h1 := hf' hf
    rw [e1] at h1
    generalize hv : ρ x = vx at h1
    cases h1
    exact Yield.val (v := .int k (-n)) (w' := w) (by simp [execOp, ho, hv, Op.unary, Op.intArith, wrap_id k _ h.1]) (QPost.here hw (.int _ _ h.1.1 h.1.2))
  · exact h.elim

theorem q_conv {o : Oper} {s d : TypeId} {x : Operand} {ix : IArg} {sk k : IntKind} {K : AV → Prop} (ho : o.op = .convert s d x) (hs : P.underlying s = some (.int sk)) (hd : P.underlying d = some (.int k)) (hx : lowArg x = some ix)
    (h : aConv k (ix.ev fr) K) : QOk P E fr hp o K := by
  unfold aConv at h
  split at h
  · rename_i k0 n e1
    refine ⟨_, h.2, fun S w μ ρ hw hf _ _ => ?_⟩
    have h1 := hf.one (x := x) (by simp [ho, Op.operands]) hx
    rw [e1] at h1
    generalize hv : ρ x = vx at h1
    cases h1
    exact Yield.val (v := .int k n) (w' := w) (by simp [execOp, ho, hv, convert, run_underlying hs, run_underlying hd, Conv.intToInt, wrap_id k _ h.1]) (QPost.here hw (.int _ _ h.1.1 h.1.2))
  · exact h.elim

theorem q_extract {o : Oper} {i : Nat} {x : Operand} {ix : IArg} {K : AV → Prop} (ho : o.op = .extract x i) (hx : lowArg x = some ix) (h : aExtract i (ix.ev fr) K) : QOk P E fr hp o K := by
  unfold aExtract at h
  split at h
  · rename_i xs e1
    refine ⟨_, h.2, fun S w μ ρ hw hf _ _ => ?_⟩
    have h1 := hf.one (x := x) (by simp [ho, Op.operands]) hx
    rw [e1] at h1
    generalize hv : ρ x = vx at h1
    cases h1 with
    | tup cs _ hl hh =>
      have hi : i < cs.size := by rw [hl]; exact h.1
      refine Yield.val (v := cs[i]) (w' := w) (by simp [execOp, ho, hv, Instr.extract, hi]) (QPost.here hw ?_)
      exact hh i _ _ (by simp [hi]) (by simp [List.getD_eq_getElem?_getD, h.1])
  · exact h.elim

theorem q_mm {o : Oper} {mx : Bool} {is : List IArg} {c : Call} {K : AV → Prop} (ho : o.op = .call c) (hc : c.callee = .builtin (if mx then .max else .min)) (hx : lowArgs c.args.toList = some is)
    (h : aMm mx (is.map fun x => x.ev fr) K) : QOk P E fr hp o K := by
  unfold aMm at h
  split at h
  · rename_i k a k' b e1
    obtain ⟨rfl, h⟩ := h
    refine ⟨_, h, fun S w μ ρ hw hf _ _ => ?_⟩
    have h1 := hf.args (l := c.args.toList) (is := is) (fun x hx => by cases mx <;> simp [ho, Op.operands, Call.operands, hc] <;> exact Array.mem_def.2 hx) hx
    rw [e1] at h1
    obtain ⟨hl, hh⟩ := h1
    obtain ⟨callee, args, argTypes⟩ := c
    simp only at hc hl hh ho
    subst hc
    obtain ⟨l⟩ := args
    match l, hl, hh with
    | [x, y], _, hh =>
      have ha := hh 0 (ρ x) (.int k a) rfl rfl
      have hb := hh 1 (ρ y) (.int k b) rfl rfl
      generalize hv : ρ x = vx at ha
      generalize hv' : ρ y = vy at hb
      cases ha with | int _ _ a1 a2 =>
      cases hb with | int _ _ b1 b2 =>
      cases mx
      · refine Yield.val (v := .int k (min a b)) (w' := w) ?_ (QPost.here hw (by simp only [Bool.false_eq_true, if_false]; exact .int _ _ (by omega) (by omega)))
        simp [execOp, ho, resolve, invoke, builtin, Builtin.min_, Builtin.min2, hv, hv']
        omega
      · refine Yield.val (v := .int k (max a b)) (w' := w) ?_ (QPost.here hw (by simp only [if_true]; exact .int _ _ (by omega) (by omega)))
        simp [execOp, ho, resolve, invoke, builtin, Builtin.max_, Builtin.max2, hv, hv']
        omega
  · exact h.elim
end

end Go.Proofs.Ytlpapmofmdgllaa.Av
