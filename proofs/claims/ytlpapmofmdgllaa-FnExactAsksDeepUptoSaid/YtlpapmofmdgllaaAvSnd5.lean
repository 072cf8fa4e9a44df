/-
  THE QUIET OPERATIONS: loads, places, parts, lengths, calls. Conditions: none.
-/
import Derived.Test.YtlpapmofmdgllaaAvSnd4
set_option linter.unusedVariables false
set_option linter.unusedSimpArgs false
namespace Go.Proofs.Ytlpapmofmdgllaa.Av
open Go.RowKit

theorem tyElem_ok {P : Program} {t e : TypeId} (he : tyElem P t = some e) : P.underlying t = some (.slice e) := by
  unfold tyElem at he; split at he
  · rename_i h; cases he; exact h
  · cases he

section
variable {P : Program} {E : Env} {hp : Hp} {fr : Nat → AV}

theorem getD_get {α : Type} {l : List α} {i : Nat} (h : i < l.length) (d : α) : l.getD i d = l[i] := by simp [List.getD_eq_getElem?_getD, h]

theorem q_load {o : Oper} {t : TypeId} {a : Operand} {ia : IArg} {g : Bool} {n : Nat} {K : AV → Prop} (ho : o.op = .load t a) (hg : tyAgg P t = some g) (hn : tySize P t = some n) (ha : lowArg a = some ia)
    (h : aLoad hp g n (ia.ev fr) K) : QOk P E fr hp o K := by
  unfold aLoad at h
  have fin : ∀ (cs : List AV) (off : Nat), aPart g cs off n K → (∀ S w μ (ρ : Operand → Value), WI E S w μ hp → VR S w μ (ρ a) (ia.ev fr) → ∃ b p, ρ a = .pointer (some ⟨b, p, none⟩) ∧ CellsAt S w μ b p (cs.drop off)) → QOk P E fr hp o K := by
    intro cs off hk hc
    unfold aPart at hk
    cases g with
    | true =>
      refine ⟨_, hk.2, fun S w μ ρ hw hf _ _ => ?_⟩
      obtain ⟨b, p, h1, h2⟩ := hc S w μ ρ hw (hf.one (x := a) (by simp [ho, Op.operands]) ha)
      obtain ⟨v, h3, h4⟩ := (run_loadVar_av (P := P) hg hn h2).1 rfl (by simp; omega)
      exact Yield.val (v := v) (w' := w) (by simp [execOp, ho, h1, Instr.loadAt, Instr.sureAddr, h3]) (QPost.here hw h4)
    | false =>
      refine ⟨_, hk.2, fun S w μ ρ hw hf _ _ => ?_⟩
      obtain ⟨b, p, h1, h2⟩ := hc S w μ ρ hw (hf.one (x := a) (by simp [ho, Op.operands]) ha)
      obtain ⟨v, h3, h4⟩ := (run_loadVar_av (P := P) hg hn h2).2 rfl (cs.getD off .top) (by rw [getD_get hk.1]; simp [hk.1])
      exact Yield.val (v := v) (w' := w) (by simp [execOp, ho, h1, Instr.loadAt, Instr.sureAddr, h3]) (QPost.here hw h4)
  split at h
  · rename_i cs e1
    refine fin cs 0 h (fun S w μ ρ hw hv => ?_)
    rw [e1] at hv
    obtain ⟨b, p, hb⟩ := hv.obj_form
    rw [hb] at hv
    exact ⟨b, p, hb, by simpa using hv.cellsAt.1⟩
  · rename_i k v i off e1
    split at h
    · rename_i bx hk
      obtain ⟨⟨hver, hi⟩, h⟩ := h
      refine fin _ off h (fun S w μ ρ hw hv => ?_)
      rw [e1] at hv
      generalize hra : ρ a = va at hv
      cases hv with
      | ptr _ _ _ _ b cap esz hμ =>
        obtain ⟨B, hB, hz, hh⟩ := hw.box k bx hk
        rw [hver, hμ] at hB
        cases hB
        obtain ⟨a1, a2, a3, cur, a4, a5, a6, a7, a8⟩ := hh
        refine ⟨b, i * esz + off, rfl, ?_⟩
        rw [getD_get hi]
        exact (a8.at_ a4 hi).drop off
    · exact h.elim
  · exact h.elim

theorem q_faddr {o : Oper} {s : TypeId} {fs : Array Field} {fd : Field} {x : Operand} {ix : IArg} {f n : Nat} {K : AV → Prop} (ho : o.op = .fieldAddr s x f) (hs : P.underlying s = some (.struct fs)) (hf' : fs[f]? = some fd) (hn : tySize P fd.type = some (n + 1))
    (hx : lowArg x = some ix) (h : aFaddr fd.offset (ix.ev fr) K) : QOk P E fr hp o K := by
  have run : ∀ (b p : Nat) (w : World), (Instr.fieldAt s (.pointer (some ⟨b, p, none⟩)) f).run P w = .ok (.pointer (some ⟨b, p + fd.offset, none⟩)) w := by
    intro b p w
    simp [Instr.fieldAt, run_underlying hs, hf', Instr.sureAddr, fieldPlace, run_tySize hn, addr_add]
  unfold aFaddr at h
  split at h
  · rename_i cs e1
    refine ⟨_, h, fun S w μ ρ hw hf _ _ => ?_⟩
    have hv := hf.one (x := x) (by simp [ho, Op.operands]) hx
    rw [e1] at hv
    obtain ⟨b, p, hb⟩ := hv.obj_form
    rw [hb] at hv
    obtain ⟨c1, c2⟩ := hv.cellsAt
    exact Yield.val (v := .pointer (some ⟨b, p + fd.offset, none⟩)) (w' := w) (by simp [execOp, ho, hb, run]) (QPost.here hw ((c1.drop fd.offset).vr c2))
  · rename_i k v i off e1
    refine ⟨_, h, fun S w μ ρ hw hf _ _ => ?_⟩
    have hv := hf.one (x := x) (by simp [ho, Op.operands]) hx
    rw [e1] at hv
    generalize hra : ρ x = va at hv
    cases hv with
    | ptr _ _ _ _ b cap esz hμ =>
      exact Yield.val (v := .pointer (some ⟨b, i * esz + (off + fd.offset), none⟩)) (w' := w) (by simp [execOp, ho, hra, run, Nat.add_assoc]) (QPost.here hw (.ptr k v i _ b cap esz hμ))
  · exact h.elim

theorem q_fld {o : Oper} {s : TypeId} {fs : Array Field} {fd : Field} {x : Operand} {ix : IArg} {f n : Nat} {g : Bool} {K : AV → Prop} (ho : o.op = .field s x f) (hs : P.underlying s = some (.struct fs)) (hf' : fs[f]? = some fd) (hn : tySize P fd.type = some n) (hg : tyAgg P fd.type = some g)
    (hx : lowArg x = some ix) (h : aFld g fd.offset n (ix.ev fr) K) : QOk P E fr hp o K := by
  unfold aFld at h
  split at h
  · rename_i cs e1
    unfold aPart at h
    cases g with
    | true =>
      refine ⟨_, h.2, fun S w μ ρ hw hf _ _ => ?_⟩
      have hv := hf.one (x := x) (by simp [ho, Op.operands]) hx
      rw [e1] at hv
      generalize hra : ρ x = va at hv
      cases hv with
      | agg vs _ hl h1 hh =>
        refine Yield.val (v := .agg (vs.extract fd.offset (fd.offset + n))) (w' := w) (by simp [execOp, ho, hra, Instr.field, run_underlying hs, hf', asAgg, part, run_isAgg hg, run_tySize hn]) (QPost.here hw ?_)
        refine .agg _ _ (by simp [hl]; omega) (fun y hy => h1 y (List.mem_of_mem_drop (List.mem_of_mem_take hy))) (fun i v y p q => ?_)
        rw [List.getElem?_take] at q
        split at q
        · rename_i hi
          rw [List.getElem?_drop] at q
          refine hh (fd.offset + i) v y ?_ q
          rw [Array.getElem?_extract] at p
          split at p
          · exact p
          · cases p
        · cases q
    | false =>
      refine ⟨_, h.2, fun S w μ ρ hw hf _ _ => ?_⟩
      have hv := hf.one (x := x) (by simp [ho, Op.operands]) hx
      rw [e1] at hv
      generalize hra : ρ x = va at hv
      cases hv with
      | agg vs _ hl h1 hh =>
        have hlt : fd.offset < vs.size := by omega
        refine Yield.val (v := vs[fd.offset]) (w' := w) (by simp [execOp, ho, hra, Instr.field, run_underlying hs, hf', asAgg, part, run_isAgg hg, hlt]) (QPost.here hw ?_)
        exact hh fd.offset _ _ (by simp [hlt]) (by rw [getD_get h.1]; simp [h.1])
  · exact h.elim

theorem q_iaddr {o : Oper} {t e : TypeId} {x i : Operand} {ix ii : IArg} {n : Nat} {K : AV → Prop} (ho : o.op = .indexAddr t x i) (he : tyElem P t = some e) (hn : tySize P e = some (n + 1)) (hx : lowArg x = some ix) (hi : lowArg i = some ii)
    (h : aIaddr hp (n + 1) (ix.ev fr) (ii.ev fr) K) : QOk P E fr hp o K := by
  have hu := tyElem_ok he
  have run : ∀ (b p len cap : Nat) (k : IntKind) (z : Int) (w : World), 0 ≤ z → z < len → (Instr.indexAt t (.slice (some ⟨b, p, none⟩) len cap) (.int k z)).run P w = .ok (.pointer (some ⟨b, p + z.toNat * (n + 1), none⟩)) w := by
    intro b p len cap k z w h0 h1
    simp [Instr.indexAt, asIntOf, run_underlying hu, h0, h1, run_tySize hn, addr_add]
  unfold aIaddr at h
  split at h
  · rename_i es k z e1 e2
    obtain ⟨⟨h0, h1, h2⟩, h⟩ := h
    refine ⟨_, h, fun S w μ ρ hw hf _ _ => ?_⟩
    have hv := hf.one (x := x) (by simp [ho, Op.operands]) hx
    have hz := hf.one (x := i) (by simp [ho, Op.operands]) hi
    rw [e1] at hv; rw [e2] at hz
    generalize hra : ρ x = va at hv
    generalize hrb : ρ i = vb at hz
    cases hz
    have hlt : z.toNat < es.length := by omega
    cases hv with
    | sl0 a cap hc => simp at h1; omega
    | sl b p cap esz vs _ hS hl hm hzz hc hh =>
      have hes : esz = n + 1 := by rw [getD_get hlt] at h2; rw [← h2]; exact ((hzz _ (List.getElem_mem hlt)).1).symm
      subst hes
      refine Yield.val (v := .pointer (some ⟨b, p + z.toNat * (n + 1), none⟩)) (w' := w) (by simp [execOp, ho, hra, hrb, run b p es.length cap k z w h0 h1]) (QPost.here hw ?_)
      refine CellsAt.vr ⟨fun y hy => ?_, fun j y hy => ?_⟩ hS
      · rw [getD_get hlt] at hy; exact (hzz _ (List.getElem_mem hlt)).2 y hy
      · rw [getD_get hlt] at hy h2
        have hj : j < n + 1 := by rw [← h2]; exact (List.getElem?_eq_some_iff.1 hy).1
        exact ⟨_, hc z.toNat j hlt hj, hh z.toNat j _ y (List.getElem?_eq_getElem hlt) hy⟩
  · rename_i k v m kk z e1 e2
    split at h
    · rename_i bx hk
      obtain ⟨⟨hver, hesz, h0, h1⟩, h⟩ := h
      refine ⟨_, h, fun S w μ ρ hw hf _ _ => ?_⟩
      have hv := hf.one (x := x) (by simp [ho, Op.operands]) hx
      have hz := hf.one (x := i) (by simp [ho, Op.operands]) hi
      rw [e1] at hv; rw [e2] at hz
      generalize hra : ρ x = va at hv
      generalize hrb : ρ i = vb at hz
      cases hz
      cases hv with
      | row _ _ _ b cap esz hμ hnn hm =>
        obtain ⟨B, hB, hzz, hh⟩ := hw.box k bx hk
        rw [hver, hμ] at hB
        cases hB
        simp only at hzz
        have e3 : esz = n + 1 := hzz.trans hesz
        subst e3
        refine Yield.val (v := .pointer (some ⟨b, z.toNat * (n + 1) + 0, none⟩)) (w' := w) (by simp [execOp, ho, hra, hrb, run b 0 m cap kk z w h0 h1]) (QPost.here hw (.ptr k v z.toNat 0 b cap _ hμ))
      | row0 _ _ cap esz hμ => simp at h1; omega
    · exact h.elim
  · exact h.elim

theorem q_sidx {o : Oper} {t : TypeId} {x i : Operand} {ix ii : IArg} {K : AV → Prop} (ho : o.op = .index t x i) (ht : P.underlying t = some .string) (hx : lowArg x = some ix) (hi : lowArg i = some ii)
    (h : aSidx (ix.ev fr) (ii.ev fr) K) : QOk P E fr hp o K := by
  unfold aSidx at h
  split at h
  · rename_i s k z e1 e2
    obtain ⟨⟨h0, h1⟩, h⟩ := h
    refine ⟨_, h, fun S w μ ρ hw hf _ _ => ?_⟩
    have hv := hf.one (x := x) (by simp [ho, Op.operands]) hx
    have hz := hf.one (x := i) (by simp [ho, Op.operands]) hi
    rw [e1] at hv; rw [e2] at hz
    generalize hra : ρ x = va at hv
    generalize hrb : ρ i = vb at hz
    cases hz; cases hv
    have hlt : z.toNat < s.size := by omega
    have hlt' : z.toNat < s.data.size := hlt
    have hb : byteAt s z.toNat = s[z.toNat] := by unfold byteAt; simp only [Array.getD, hlt', dif_pos]; rfl
    refine Yield.val (v := .int .u8 (byteAt s z.toNat).toNat) (w' := w) (by simp [execOp, ho, hra, hrb, Instr.index, asIntOf, run_underlying ht, h0, hlt, hb]) (QPost.here hw (.int _ _ ?_ ?_))
    · simp [IntKind.min, IntKind.signed]
    · have := (byteAt s z.toNat).toNat_lt; simp [IntKind.max, IntKind.signed, IntKind.bits]; omega
  · exact h.elim

theorem q_len {o : Oper} {c : Call} {t : TypeId} {g : Bool} {x : Operand} {ix : IArg} {K : AV → Prop} (ho : o.op = .call c) (hc : c.callee = .builtin .len) (ha : c.args.toList = [x]) (hat : c.argTypes.toList = [t])
    (ht : if g then P.underlying t = some .string else ∃ e, P.underlying t = some (.slice e)) (hx : lowArg x = some ix) (h : aLen g (ix.ev fr) K) : QOk P E fr hp o K := by
  obtain ⟨callee, args, argTypes⟩ := c
  simp only at hc ha hat
  subst hc
  obtain ⟨al⟩ := args
  obtain ⟨tl⟩ := argTypes
  simp only at ha hat
  subst ha hat
  have hrange : ∀ (n : Nat), n ≤ maxLen → ∀ S w μ, VR S w μ (.int .i64 n) (.int .i64 n) := fun n hn S w μ => .int _ _ (by simp [IntKind.min, IntKind.signed, IntKind.bits]) (by unfold maxLen at hn; simp [IntKind.max, IntKind.signed, IntKind.bits]; omega)
  have fin : ∀ (n : Nat), K (.int .i64 n) → (∀ S w μ (ρ : Operand → Value), WI E S w μ hp → VR S w μ (ρ x) (ix.ev fr) → n ≤ maxLen ∧ (Builtin.len_ #[t] o.type #[ρ x]).run P w = .ok (.int .i64 n) w) → QOk P E fr hp o K := by
    intro n hk hr
    refine ⟨_, hk, fun S w μ ρ hw hf _ _ => ?_⟩
    obtain ⟨h1, h2⟩ := hr S w μ ρ hw (hf.one (x := x) (by simp [ho, Op.operands, Call.operands]) hx)
    exact Yield.val (v := .int .i64 n) (w' := w) (by simp [execOp, ho, resolve, invoke, builtin, h2]) (QPost.here hw (hrange n h1 _ _ _))
  unfold aLen at h
  split at h
  · rename_i s e1
    obtain ⟨rfl, h⟩ := h
    refine fin s.size h (fun S w μ ρ hw hv => ?_)
    rw [e1] at hv
    generalize ρ x = va at hv
    cases hv with | str _ hs =>
    exact ⟨hs, by simp [Builtin.len_, run_underlying (by simpa using ht), goInt]⟩
  · rename_i es e1
    obtain ⟨rfl, h⟩ := h
    obtain ⟨e, ht⟩ : ∃ e, P.underlying t = some (.slice e) := by simpa using ht
    refine fin es.length h (fun S w μ ρ hw hv => ?_)
    rw [e1] at hv
    generalize ρ x = va at hv
    cases hv with
    | sl0 a cap hc => exact ⟨Nat.zero_le _, by simp [Builtin.len_, run_underlying ht, goInt]⟩
    | sl b p cap esz vs _ hS hl hm hzz hc hh => exact ⟨Nat.le_trans hl hm, by simp [Builtin.len_, run_underlying ht, goInt]⟩
  · rename_i k v n e1
    obtain ⟨rfl, h⟩ := h
    obtain ⟨e, ht⟩ : ∃ e, P.underlying t = some (.slice e) := by simpa using ht
    refine fin n h (fun S w μ ρ hw hv => ?_)
    rw [e1] at hv
    generalize ρ x = va at hv
    cases hv with
    | row _ _ _ b cap esz hμ hnn hm => exact ⟨Nat.le_trans hnn hm, by simp [Builtin.len_, run_underlying ht, goInt]⟩
    | row0 _ _ cap esz hμ => exact ⟨Nat.zero_le _, by simp [Builtin.len_, run_underlying ht, goInt]⟩
  · rename_i e1
    obtain ⟨rfl, h⟩ := h
    obtain ⟨e, ht⟩ : ∃ e, P.underlying t = some (.slice e) := by simpa using ht
    refine fin 0 h (fun S w μ ρ hw hv => ?_)
    rw [e1] at hv
    generalize ρ x = va at hv
    cases hv
    exact ⟨Nat.zero_le _, by simp [Builtin.len_, run_underlying ht, goInt]⟩
  · exact h.elim

theorem optNum_ok {S : Nat → Prop} {w : World} {μ : Mu} {ρ : Operand → Value} {d : Int} {x : Option Operand} {ix : Option IArg} (hl : ∀ y, x = some y → ∃ iy, ix = some iy ∧ lowArg y = some iy) (h0 : x = none → ix = none) (hi : optInt fr ix = true)
    (hv : ∀ y, x = some y → ∀ iy, lowArg y = some iy → VR S w μ (ρ y) (iy.ev fr)) : (x = none ∧ ix = none) ∨ ∃ y k, x = some y ∧ ρ y = .int k (optNum fr d ix) ∧ ix ≠ none := by
  cases x with
  | none => exact .inl ⟨rfl, h0 rfl⟩
  | some y =>
    obtain ⟨iy, rfl, hl'⟩ := hl y rfl
    right
    have := hv y rfl iy hl'
    simp only [optInt] at hi
    cases he : iy.ev fr with
    | int k n =>
      rw [he] at this
      generalize hr : ρ y = vy at this
      cases this
      exact ⟨y, k, rfl, by simp [optNum, he, AV.num, hr], by simp⟩
    | _ => rw [he] at hi; cases hi

theorem run_sliceBound {k : IntKind} {z : Int} {m : Nat} {c : BoundsCode} (h0 : 0 ≤ z) (h1 : z ≤ m) (w : World) : (Instr.sliceBound (.int k z) m c).run P w = .ok z.toNat w := by
  simp [Instr.sliceBound, asIntOf, h0, h1]

theorem run_sliceBounds {S : Nat → Prop} {w : World} {μ : Mu} {ρ : Operand → Value} {g : Bool} {len cap : Nat} {lo hi : Option Operand} {il ih : Option IArg} (hcap : len ≤ cap)
    (hl : (lo = none ∧ il = none) ∨ ∃ y k, lo = some y ∧ ρ y = .int k (optNum fr 0 il) ∧ il ≠ none) (hh : (hi = none ∧ ih = none) ∨ ∃ y k, hi = some y ∧ ρ y = .int k (optNum fr len ih) ∧ ih ≠ none)
    (h0 : 0 ≤ optNum fr 0 il) (h1 : optNum fr 0 il ≤ optNum fr len ih) (h2 : optNum fr len ih ≤ len) :
    (Instr.sliceBounds g len cap (lo.map ρ) (hi.map ρ) none).run P w = .ok ((optNum fr 0 il).toNat, (optNum fr len ih).toNat, cap) w := by
  unfold Instr.sliceBounds
  rcases hl with ⟨rfl, rfl⟩ | ⟨y, k, rfl, hy, _⟩ <;> rcases hh with ⟨rfl, rfl⟩ | ⟨y', k', rfl, hy', _⟩
  · simp [optNum]
  · simp only [Option.map_none, Option.map_some, hy', Sem.run_bind, Sem.run_pure, Result.andThen_ok]
    rw [run_sliceBound (by omega) (by omega)]
    simp [optNum]
  · simp only [Option.map_none, Option.map_some, hy, Sem.run_bind, Sem.run_pure, Result.andThen_ok]
    rw [run_sliceBound h0 (by simpa [optNum] using h1)]
    simp [optNum]
  · simp only [Option.map_some, hy, hy', Sem.run_bind, Sem.run_pure, Result.andThen_ok]
    rw [run_sliceBound (by omega) (by omega)]
    simp only [Result.andThen_ok]
    rw [run_sliceBound h0 (by omega)]
    simp

theorem q_slice {o : Oper} {t : TypeId} {n : Nat} {x : Operand} {ix : IArg} {lo hi : Option Operand} {il ih : Option IArg} {K : AV → Prop} (ho : o.op = .slice t x lo hi none) (ht : slEsz P t = some n) (hx : lowArg x = some ix)
    (hlo : ∀ y, lo = some y → ∃ iy, il = some iy ∧ lowArg y = some iy) (hlo0 : lo = none → il = none) (hhi : ∀ y, hi = some y → ∃ iy, ih = some iy ∧ lowArg y = some iy) (hhi0 : hi = none → ih = none)
    (h : aSlice fr n il ih (ix.ev fr) K) : QOk P E fr hp o K := by
  have hfit : ∀ {S w μ} {ρ : Operand → Value}, Fits S w μ fr ρ o.op.operands.toList → (∀ y, lo = some y → ∀ iy, lowArg y = some iy → VR S w μ (ρ y) (iy.ev fr)) ∧ (∀ y, hi = some y → ∀ iy, lowArg y = some iy → VR S w μ (ρ y) (iy.ev fr)) ∧ VR S w μ (ρ x) (ix.ev fr) := by
    intro S w μ ρ hf
    refine ⟨fun y hy iy h => hf y (by simp [ho, Op.operands, hy]) iy h, fun y hy iy h => hf y (by simp [ho, Op.operands, hy]) iy h, hf.one (x := x) (by simp [ho, Op.operands]) hx⟩
  unfold aSlice at h
  split at h
  · rename_i s e1
    obtain ⟨⟨rfl, i1, i2, h0, h1, h2⟩, h⟩ := h
    have hu : P.underlying t = some .string := by
      unfold slEsz at ht
      split at ht
      · assumption
      · split at ht <;> simp at ht
      · cases ht
    refine ⟨_, h, fun S w μ ρ hw hf _ _ => ?_⟩
    obtain ⟨f1, f2, hv⟩ := hfit hf
    rw [e1] at hv
    generalize hr : ρ x = va at hv
    cases hv with | str _ hs =>
    have hb := run_sliceBounds (P := P) (S := S) (w := w) (μ := μ) (g := false) (len := s.size) (cap := s.size) (Nat.le_refl _) (optNum_ok (d := 0) hlo hlo0 i1 f1) (optNum_ok (d := s.size) hhi hhi0 i2 f2) h0 h1 h2
    refine Yield.val (v := .string (s.extract (optNum fr 0 il).toNat (optNum fr s.size ih).toNat)) (w' := w) (by simp [execOp, ho, hr, Instr.sliceAt, run_underlying hu, Instr.slice, hb]) (QPost.here hw (.str _ ?_))
    have : (s.extract (optNum fr 0 il).toNat (optNum fr s.size ih).toNat).size ≤ s.size := by rw [ByteArray.size_extract]; omega
    omega
  · rename_i es e1
    obtain ⟨⟨hn, i1, i2, h0, h1, h2, h3⟩, h⟩ := h
    obtain ⟨e, hu, hz⟩ : ∃ e, P.underlying t = some (.slice e) ∧ tySize P e = some n := by
      unfold slEsz at ht
      split at ht
      · simp at ht; omega
      · split at ht
        · simp at ht; subst ht; exact ⟨_, by assumption, by assumption⟩
        · cases ht
      · cases ht
    refine ⟨_, h, fun S w μ ρ hw hf _ _ => ?_⟩
    obtain ⟨f1, f2, hv⟩ := hfit hf
    rw [e1] at hv
    generalize hr : ρ x = va at hv
    cases hv with
    | sl0 a cap hc =>
      have hb := run_sliceBounds (P := P) (S := S) (w := w) (μ := μ) (g := true) (len := 0) (cap := cap) (Nat.zero_le _) (optNum_ok (d := 0) hlo hlo0 i1 f1) (optNum_ok (d := ((0 : Nat) : Int)) hhi hhi0 i2 f2) h0 h1 h2
      simp only [List.length_nil] at h1 h2 ⊢
      have e3 : (optNum fr 0 il).toNat = 0 := by omega
      have e4 : (optNum fr ((0 : Nat) : Int) ih).toNat = 0 := by omega
      rw [e3, e4] at hb
      refine Yield.val (v := .slice (if cap = 0 then a else a.map (·.add (0 * n))) 0 cap) (w' := w) (by simp [execOp, ho, hr, Instr.sliceAt, run_underlying hu, Instr.slice, hb, run_tySize hz]) (QPost.here hw ?_)
      simp only [List.drop_nil, List.take_nil]
      exact .sl0 _ _ hc
    | sl b p cap esz vs _ hS hl hm hzz hc hh =>
      have hb := run_sliceBounds (P := P) (S := S) (w := w) (μ := μ) (g := true) (len := es.length) (cap := cap) hl (optNum_ok (d := 0) hlo hlo0 i1 f1) (optNum_ok (d := es.length) hhi hhi0 i2 f2) h0 h1 h2
      generalize hL : (optNum fr 0 il).toNat = L at *
      generalize hH : (optNum fr es.length ih).toNat = H at *
      have hLH : L ≤ H := by omega
      have hHe : H ≤ es.length := by omega
      have hlen : ((es.drop L).take (H - L)).length = H - L := by simp; omega
      refine Yield.val (v := .slice (if cap = L then some ⟨b, p, none⟩ else some ⟨b, p + L * n, none⟩) (H - L) (cap - L)) (w' := w) (by
        simp [execOp, ho, hr, Instr.sliceAt, run_underlying hu, Instr.slice, hb, run_tySize hz, addr_add]) (QPost.here hw ?_)
      by_cases hHL : H = L
      · have : (es.drop L).take (H - L) = [] := List.eq_nil_of_length_eq_zero (by rw [hlen]; omega)
        rw [this, hHL, Nat.sub_self]
        exact .sl0 _ _ (by omega)
      · have hne : cap ≠ L := by omega
        rw [if_neg hne]
        have hL0 : L * n = L * esz := by
          rcases h3 with h3 | h3
          · subst h3; simp [optNum] at hL; subst hL; simp
          · have : 0 < es.length := by omega
            have h4 := h3 es[0] (List.getElem_mem this)
            rw [(hzz _ (List.getElem_mem this)).1] at h4
            rw [h4]
        rw [hL0]
        have key : VR S w μ (.slice (some ⟨b, p + L * esz, none⟩) ((es.drop L).take (H - L)).length (cap - L)) (.sl ((es.drop L).take (H - L))) := by
          refine .sl b (p + L * esz) (cap - L) esz (fun i j => vs (L + i) j) _ hS (by rw [hlen]; omega) (by omega) (fun e he => hzz e (List.mem_of_mem_drop (List.mem_of_mem_take he))) (fun i j hi hj => ?_) (fun i j e x hp' hq => ?_)
          · rw [hlen] at hi
            rw [Nat.add_assoc p, ← Nat.add_mul]
            exact hc (L + i) j (by omega) hj
          · rw [List.getElem?_take] at hp'
            split at hp'
            · rw [List.getElem?_drop] at hp'
              exact hh (L + i) j e x hp' hq
            · cases hp'
        rw [hlen] at key
        exact key
  · rename_i k v m e1
    obtain ⟨⟨hn, rfl, i2, h0, h2⟩, h⟩ := h
    obtain ⟨e, hu, hz⟩ : ∃ e, P.underlying t = some (.slice e) ∧ tySize P e = some n := by
      unfold slEsz at ht
      split at ht
      · simp at ht; omega
      · split at ht
        · simp at ht; subst ht; exact ⟨_, by assumption, by assumption⟩
        · cases ht
      · cases ht
    refine ⟨_, h, fun S w μ ρ hw hf _ _ => ?_⟩
    obtain ⟨f1, f2, hv⟩ := hfit hf
    rw [e1] at hv
    generalize hr : ρ x = va at hv
    have hlo' : lo = none := by
      cases lo with
      | none => rfl
      | some y => obtain ⟨iy, h5, _⟩ := hlo y rfl; cases h5
    subst hlo'
    cases hv with
    | row _ _ _ b cap esz hμ hnn hm =>
      have hb := run_sliceBounds (P := P) (S := S) (w := w) (μ := μ) (g := true) (len := m) (cap := cap) (fr := fr) (il := none) (lo := none) hnn (.inl ⟨rfl, rfl⟩) (optNum_ok (d := m) hhi hhi0 i2 f2) (by simp [optNum]) (by simpa [optNum] using h0) h2
      refine Yield.val (v := .slice (some ⟨b, 0, none⟩) (optNum fr m ih).toNat cap) (w' := w) (by
        have e5 : (optNum fr 0 (none : Option IArg)).toNat = 0 := rfl
        simp only [Option.map_none] at hb
        simp [execOp, ho, hr, Instr.sliceAt, run_underlying hu, Instr.slice, hb, run_tySize hz, addr_add, e5]) (QPost.here hw (.row k v _ b cap esz hμ (by omega) hm))
    | row0 _ _ cap esz hμ =>
      have hb := run_sliceBounds (P := P) (S := S) (w := w) (μ := μ) (g := true) (len := 0) (cap := 0) (fr := fr) (il := none) (lo := none) (Nat.le_refl _) (.inl ⟨rfl, rfl⟩) (optNum_ok (d := ((0 : Nat) : Int)) hhi hhi0 i2 f2) (by simp [optNum]) (by simpa [optNum] using h0) h2
      have e4 : (optNum fr ((0 : Nat) : Int) ih).toNat = 0 := by omega
      rw [e4] at hb ⊢
      refine Yield.val (v := .slice none 0 0) (w' := w) (by
        have e5 : (optNum fr 0 (none : Option IArg)).toNat = 0 := rfl
        simp only [Option.map_none] at hb
        simp [execOp, ho, hr, Instr.sliceAt, run_underlying hu, Instr.slice, hb, run_tySize hz, e5]) (QPost.here hw (.row0 k v cap esz hμ))
  · exact h.elim
end

end Go.Proofs.Ytlpapmofmdgllaa.Av
