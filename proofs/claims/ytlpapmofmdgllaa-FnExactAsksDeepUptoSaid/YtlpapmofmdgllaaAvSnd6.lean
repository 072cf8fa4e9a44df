/-
  THE QUIET OPERATIONS: bytes to a string, closures, calls; and all of them together. Conditions: none.
-/
import Derived.Test.YtlpapmofmdgllaaAvSnd5
set_option linter.unusedVariables false
set_option linter.unusedSimpArgs false
namespace Go.Proofs.Ytlpapmofmdgllaa.Av
open Go.RowKit

theorem foldl_push (l : List UInt8) : ∀ (s : ByteArray), ((l.map fun b => (b.toNat : Int)).foldl (fun r n => r.push (UInt8.ofNat n.toNat)) s) = ⟨s.data ++ l.toArray⟩ := by
  induction l with
  | nil => intro s; simp
  | cons b l ih =>
    intro s
    simp only [List.map_cons, List.foldl_cons, ih]
    simp [ByteArray.push]

theorem run_b2s {P : Program} {w : World} {b p : Nat} {cap : Nat} {l : List UInt8} (h : ∀ j (hj : j < l.length), w.cell? ⟨b, p + j, none⟩ = some (.int .u8 l[j].toNat)) :
    (Conv.bytesToString (.slice (some ⟨b, p, none⟩) l.length cap)).run P w = .ok (.string ⟨l.toArray⟩) w := by
  have h1 := run_loadCells_list (P := P) w ⟨b, p, none⟩ ((l.map fun b => (b.toNat : Int)).map (Value.int .u8)) (fun j v hv => by
    rw [addr_add]
    simp only [List.map_map, List.getElem?_map, Option.map_eq_some_iff] at hv
    obtain ⟨x, hx, rfl⟩ := hv
    obtain ⟨hj, rfl⟩ := List.getElem?_eq_some_iff.1 hx
    exact h j hj)
  simp only [List.length_map] at h1
  rw [run_bytesToString w _ _ _ _ h1, foldl_push]
  simp

section
variable {P : Program} {E : Env} {hp : Hp} {fr : Nat → AV}

theorem q_b2s {o : Oper} {s d e : TypeId} {x : Operand} {ix : IArg} {K : AV → Prop} (ho : o.op = .convert s d x) (hs : P.underlying s = some (.slice e)) (hd : P.underlying d = some .string) (he : P.underlying e = some (.int .u8)) (hx : lowArg x = some ix)
    (h : aB2s (aTail hp (ix.ev fr)) K) : QOk P E fr hp o K := by
  have fin : ∀ (l : List UInt8), K (.str ⟨l.toArray⟩) → (∀ S w μ (ρ : Operand → Value), WI E S w μ hp → VR S w μ (ρ x) (ix.ev fr) → (l = [] ∧ ∃ a c, ρ x = .slice a 0 c) ∨ ∃ b p cap, ρ x = .slice (some ⟨b, p, none⟩) l.length cap ∧ l.length ≤ maxLen ∧ ∀ j (hj : j < l.length), w.cell? ⟨b, p + j, none⟩ = some (.int .u8 l[j].toNat)) → QOk P E fr hp o K := by
    intro l hk hc
    refine ⟨_, hk, fun S w μ ρ hw hf _ _ => ?_⟩
    rcases hc S w μ ρ hw (hf.one (x := x) (by simp [ho, Op.operands]) hx) with ⟨rfl, a, c, h1⟩ | ⟨b, p, cap, h1, h2, h3⟩
    · refine Yield.val (v := .string ⟨#[]⟩) (w' := w) ?_ (QPost.here hw (.str _ (Nat.zero_le _)))
      cases a with
      | none => simp [execOp, ho, h1, run_convert_bytes_string w s d e none 0 c hs he hd, Conv.bytesToString]; rfl
      | some a =>
        have := run_bytesToString (P := P) w a 0 c [] (by simp [loadCells, loadCellsFrom])
        simp [execOp, ho, h1, run_convert_bytes_string w s d e (some a) 0 c hs he hd, this]; rfl
    · exact Yield.val (v := .string ⟨l.toArray⟩) (w' := w) (by simp [execOp, ho, h1, run_convert_bytes_string w s d e _ _ cap hs he hd, run_b2s h3]) (QPost.here hw (.str _ (by simpa [ByteArray.size] using h2)))
  unfold aB2s at h
  split at h
  · rename_i es0 es e1
    obtain ⟨l, hes, h⟩ := h
    refine fin l h (fun S w μ ρ hw hv => ?_)
    have hget : ∀ j (hj : j < l.length), es[j]? = some (.int .u8 l[j].toNat) := fun j hj => by rw [hes]; simp [hj]
    have hlen : es.length = l.length := by rw [hes]; simp
    unfold aTail at e1
    split at e1
    · rename_i es' e2
      cases e1
      rw [e2] at hv
      generalize ρ x = va at hv
      cases hv with
      | sl0 a cap hc => exact .inl ⟨by simpa using hes.symm, a, cap, rfl⟩
      | sl b p cap esz vs _ hS hl hm hzz hc hh =>
        refine .inr ⟨b, p, cap, by rw [hlen], by omega, fun j hj => ?_⟩
        have hg := hget j hj
        have h1 := (hzz _ (List.mem_of_getElem? hg)).1
        simp [AV.cells] at h1
        subst h1
        have h2 := hc j 0 (by omega) (by omega)
        have h3 := hh j 0 _ _ hg rfl
        generalize vs j 0 = u at h2 h3
        cases h3
        simpa using h2
    · rename_i e2
      cases e1
      rw [e2] at hv
      generalize ρ x = va at hv
      cases hv
      exact .inl ⟨by simpa using hes.symm, none, 0, rfl⟩
    · rename_i k v n e2
      split at e1
      · rename_i bx hk
        split at e1
        · rename_i hc
          cases e1
          rw [e2] at hv
          generalize ρ x = va at hv
          have hn : n = l.length := by rw [← hlen]; simp; omega
          cases hv with
          | row _ _ _ b cap esz hμ hnn hm =>
            obtain ⟨B, hB, hz, hh⟩ := hw.box k bx hk
            rw [hc.1, hμ] at hB
            cases hB
            obtain ⟨a1, a2, a3, cur, a4, a5, a6, a7, a8⟩ := hh
            refine .inr ⟨b, 0, cap, by rw [hn], by omega, fun j hj => ?_⟩
            have hg := hget j hj
            rw [List.getElem?_take, if_pos (by omega)] at hg
            have h1 := (a8.1 _ (List.mem_of_getElem? hg)).1
            simp [AV.cells] at h1
            subst h1
            obtain ⟨u, h2, h3⟩ := a8.2 j 0 _ _ hg rfl
            cases h3
            rw [cell_of_block a4]
            simpa using h2
          | row0 _ _ cap esz hμ => exact .inl ⟨List.eq_nil_of_length_eq_zero hn.symm, none, 0, rfl⟩
        · cases e1
      · cases e1
    · cases e1
  · exact h.elim

theorem q_mkfn {o : Oper} {f : FuncId} {first caps : Array Operand} {is : List IArg} {K : AV → Prop} (ho : o.op = .makeFunc (.func f) first caps) (hf0 : first.isEmpty = true) (hx : lowArgs caps.toList = some is) (h : K (.fn f (is.map fun x => x.ev fr))) : QOk P E fr hp o K := by
  refine ⟨_, h, fun S w μ ρ hw hf _ _ => ?_⟩
  have hv := hf.args (l := caps.toList) (is := is) (fun x hx => by simp only [ho, Op.operands, Array.toList_append, List.mem_append]; exact .inr hx) hx
  have hfe : first = #[] := by simpa using hf0
  refine Yield.val (v := .func (.func f) #[] (caps.map ρ)) (w' := w) (by simp [execOp, ho, Instr.makeFunc, hfe]) (QPost.here hw (.fn f _ _ (by simpa using hv.1) (fun i v x p q => hv.2 i v x (by simpa using p) q)))

theorem q_nilchk {o : Oper} {x : Operand} {ix : IArg} {K : AV → Prop} (ho : o.op = .nilCheck x) (hx : lowArg x = some ix) (h : aNilchk (ix.ev fr) K) : QOk P E fr hp o K := by
  unfold aNilchk at h
  split at h
  · rename_i cs e1
    refine ⟨_, h, fun S w μ ρ hw hf _ _ => ?_⟩
    have hv := hf.one (x := x) (by simp [ho, Op.operands]) hx
    rw [e1] at hv ⊢
    obtain ⟨b, p, hb⟩ := hv.obj_form
    exact Yield.val (v := ρ x) (w' := w) (by simp [execOp, ho, hb]) (QPost.here hw hv)
  · rename_i k v i off e1
    refine ⟨_, h, fun S w μ ρ hw hf _ _ => ?_⟩
    have hv := hf.one (x := x) (by simp [ho, Op.operands]) hx
    rw [e1] at hv ⊢
    generalize hr : ρ x = va at hv
    cases hv with
    | ptr _ _ _ _ b cap esz hμ => exact Yield.val (v := .pointer (some ⟨b, i * esz + off, none⟩)) (w' := w) (by simp [execOp, ho, hr]) (QPost.here hw (.ptr k v i off b cap esz hμ))
  · rename_i f xs e1
    refine ⟨_, h, fun S w μ ρ hw hf _ _ => ?_⟩
    have hv := hf.one (x := x) (by simp [ho, Op.operands]) hx
    rw [e1] at hv ⊢
    generalize hr : ρ x = va at hv
    cases hv with
    | fn _ cs _ hl hh => exact Yield.val (v := .func (.func f) #[] cs) (w' := w) (by simp [execOp, ho, hr]) (QPost.here hw (.fn f cs xs hl hh))
  · exact h.elim

theorem VRs.clean {S : Nat → Prop} {w : World} {μ : Mu} {vs : List Value} {xs : List AV} (h : VRs S w μ vs xs) (hc : ∀ x ∈ xs, AvPure x) : VRs S w mu0 vs xs :=
  ⟨h.1, fun i v x a b => hc x (mem_of_get b) _ _ _ _ (h.2 i v x a b)⟩
theorem VRs.purA {S : Nat → Prop} {w : World} {μ : Mu} (hw : WI E S w μ hp) {vs : List Value} {xs : List IArg} (h : VRs S w μ vs (xs.map fun x => x.ev fr)) : VRs S w μ vs (xs.map fun x => (x.ev fr).purA hp) :=
  ⟨by simpa using h.1, fun i v y p q => by
    simp only [List.getElem?_map, Option.map_eq_some_iff] at q
    obtain ⟨x, hx, rfl⟩ := q
    exact (h.2 i v (x.ev fr) p (by simp [hx])).purA hw⟩

theorem calls_post {f : FuncId} {args : List AV} {res : AV} (hc : CallsF P f args res) {S : Nat → Prop} {w : World} {μ : Mu} (hw : WI E S w μ hp) {vs : List Value} (hv : VRs S w μ vs args) :
    Calls P f vs.toArray w fun e w' => ∃ v, e = .returned v ∧ QPost E S μ w hp res v w' := by
  obtain ⟨_, hcl, hc⟩ := hc
  refine (hc S w vs hw.lt (hv.clean hcl)).mono fun e w' ⟨v, he, h1, h2⟩ => ⟨v, he, _, h1.mono (fun b hb => hb) (Same.refl _ _) (Mu.le.zero μ), ?_, fun b hb => .inl hb, fun b hb => h2.block b (hw.lt b hb)⟩
  exact hw.step h2.os h2.tape h2.output h2.size (fun b hb => h2.block b hb) (fun b hb => .inl hb) (fun b hb => hb)

theorem callFunc_run {f : FuncId} (h : callable P f = true) (args : Array Value) (w : World) : (callFunc f args).run P w = .ok (.enter f args) w := by
  unfold callable at h
  split at h
  · rename_i fn hf
    simp only [Bool.and_eq_true, bne_iff_ne, ne_eq] at h
    obtain ⟨h1, h2⟩ := h
    have h3 : fn.body.isNone = false := by cases hb : fn.body <;> simp_all
    simp only [callFunc, Sem.run_bind]
    have h2' : (fn.name == "runtime.NumGoroutine") = false := by simpa using h2
    show Sem.run P (match P.funcs[f]? with | none => _ | some fn => _) w = _
    simp only [hf, h2', h3]
    rfl
  · cases h

theorem q_call {o : Oper} {c : Call} {f : FuncId} {is : List IArg} {K : AV → Prop} (ho : o.op = .call c) (hc : c.callee = .value (.func f)) (hcl : callable P f = true) (hx : lowArgs c.args.toList = some is)
    (h : aCall P f (is.map fun x => (x.ev fr).purA hp) K) : QOk P E fr hp o K := by
  obtain ⟨r, hr, hk⟩ := h
  refine ⟨r, hk, fun S w μ ρ hw hf _ hfun => ?_⟩
  have hv := (hf.args (l := c.args.toList) (is := is) (fun x hx => by simp only [ho, Op.operands, Call.operands, hc, Array.toList_append, List.mem_append]; exact .inr hx) hx).purA hw
  have := calls_post hr hw hv
  unfold Yield
  simp only [execOp, ho, resolve, hc, hfun, Deferred.ofValue, invoke, Sem.run_bind, Sem.run_pure, Result.andThen_ok, callFunc_run hcl]
  have e : (List.map ρ c.args.toList).toArray = #[] ++ Array.map ρ c.args ++ #[] := by apply Array.ext'; simp
  rw [e] at this
  exact this

theorem q_callv {o : Oper} {c : Call} {x : Operand} {ix : IArg} {is : List IArg} {K : AV → Prop} (ho : o.op = .call c) (hc : c.callee = .value x) (hx0 : lowArg x = some ix) (hx : lowArgs c.args.toList = some is)
    (h : aCallv P ((ix.ev fr).purA hp) (is.map fun x => (x.ev fr).purA hp) K) : QOk P E fr hp o K := by
  unfold aCallv at h
  split at h
  · rename_i f caps e1
    obtain ⟨r, hr, hk⟩ := h
    refine ⟨r, hk, fun S w μ ρ hw hf _ hfun => ?_⟩
    have hv := (hf.args (l := c.args.toList) (is := is) (fun x hx => by simp only [ho, Op.operands, Call.operands, hc, Array.toList_append, List.mem_append]; exact .inr hx) hx).purA hw
    have hfv := (hf.one (x := x) (by simp [ho, Op.operands, Call.operands, hc]) hx0).purA hw
    rw [e1] at hfv
    generalize hrx : ρ x = va at hfv
    cases hfv with
    | fn _ cs _ hl hh =>
      have hcv : VRs S w μ cs.toList caps := ⟨by simpa using hl, fun i v y p q => hh i v y (by simpa using p) q⟩
      have := calls_post hr hw (hv.append hcv)
      unfold Yield
      simp only [execOp, ho, resolve, hc, hrx, Deferred.ofValue, invoke, Sem.run_bind, Sem.run_pure, Result.andThen_ok, callFunc_run hr.1]
      have e : (List.map ρ c.args.toList ++ cs.toList).toArray = #[] ++ Array.map ρ c.args ++ cs := by apply Array.ext'; simp
      rw [e] at this
      exact this
  · exact h.elim

/-- ALL QUIET OPERATIONS -/
theorem low_quiet0 {own : List (Nat × Nat)} {o : Oper} {io : IOp} {K : AV → Hp → Prop} (hl : lowOp0 P own o = some io) (hq : io.quiet = true) (h : io.sem P fr hp K) : QOk P E fr hp o fun v => K v hp := by
  unfold lowOp0 at hl
  simp only at hl
  split at hl
  · rename_i x ho
    cases hx : lowArg x <;> rw [hx] at hl <;> cases hl
    exact q_mov (.inl ho) hx h
  · rename_i x ho
    cases hx : lowArg x <;> rw [hx] at hl <;> cases hl
    exact q_mov (.inr ho) hx h
  · rename_i c a b ho
    split at hl
    · cases hl; exact q_pick ho (by assumption) (by assumption) (by assumption) h
    · cases hl
  · rename_i op t x y ty ho
    split at hl
    · split at hl
      iterate 6
        · cases hl; exact q_binw ho (by assumption) (by assumption) h
      · rename_i h1 h2 _ _ _ _
        cases hl; exact q_bin ho (by assumption) (by assumption) ⟨by simp_all, by simp_all⟩ h
    · cases hl
  · rename_i op t x ho
    cases hx : lowArg x <;> rw [hx] at hl <;> cases hl
    exact q_un ho hx h
  · rename_i e ho
    split at hl
    · cases hl; exact q_allocP ho (by assumption) h
    · cases hl; cases hq
    · cases hl
  · rename_i e x ho
    split at hl
    · cases hl; exact q_boxP ho (by assumption) h
    · cases hl; cases hq
    · cases hl
  · rename_i t ps ho
    split at hl
    · split at hl
      · split at hl
        · rename_i hc
          cases hl
          exact q_build ho (by assumption) (by assumption) hc.1 (by assumption) (fun f hf => List.all_eq_true.1 hc.2 f hf) h
        · cases hl
      · cases hl
    · cases hl
  · rename_i t m ps ho
    split at hl
    · split at hl
      · split at hl
        · rename_i hc
          split at hl
          · cases hl
            exact q_slP ho (by assumption) (by rw [hc.1]; assumption) (by assumption) (by assumption) (by rw [hc.1]; exact hc.2.2) (by rw [hc.1]; exact hc.2.1) h
          · cases hl; cases hq
        · cases hl
      · cases hl
    · cases hl
  · rename_i t a ho
    split at hl
    · cases hl; exact q_load ho (by assumption) (by assumption) (by assumption) h
    · cases hl
  · rename_i t a x ho
    split at hl
    · cases hl; cases hq
    · cases hl
  · rename_i s x f ho
    split at hl
    · split at hl
      · split at hl
        · cases hl; exact q_faddr ho (by assumption) (by assumption) (by assumption) (by assumption) h
        · cases hl
      · cases hl
    · cases hl
  · rename_i s x f ho
    split at hl
    · split at hl
      · split at hl
        · cases hl; exact q_fld ho (by assumption) (by assumption) (by assumption) (by assumption) (by assumption) h
        · cases hl
      · cases hl
    · cases hl
  · rename_i t x i ho
    split at hl
    · split at hl
      · cases hl; exact q_iaddr ho (by assumption) (by assumption) (by assumption) (by assumption) h
      · cases hl
    · cases hl
  · rename_i t x i ho
    split at hl
    · cases hl; exact q_sidx ho (by assumption) (by assumption) (by assumption) h
    · cases hl
  · rename_i t x lo hi ho
    split at hl
    · split at hl
      · rename_i h1 h2
        cases hl
        refine q_slice ho (by assumption) (by assumption) ?_ ?_ ?_ ?_ h <;> cases lo <;> cases hi <;> simp_all
      · rename_i h1 h2
        cases hl
        refine q_slice ho (by assumption) (by assumption) ?_ ?_ ?_ ?_ h <;> cases lo <;> cases hi <;> simp_all
      · rename_i h1 h2
        cases hl
        refine q_slice ho (by assumption) (by assumption) ?_ ?_ ?_ ?_ h <;> cases lo <;> cases hi <;> simp_all
      · rename_i h1 h2
        cases hl
        refine q_slice ho (by assumption) (by assumption) ?_ ?_ ?_ ?_ h <;> cases lo <;> cases hi <;> simp_all
      · cases hl
    · cases hl
  · rename_i t l c ho
    split at hl
    · split at hl
      · split at hl
        · split at hl
          · cases hl; cases hq
          · cases hl
        · cases hl
      · cases hl
    · cases hl
  · rename_i s d x ho
    split at hl
    · cases hl; exact q_conv ho (by assumption) (by assumption) (by assumption) h
    · split at hl
      · split at hl
        · cases hl; exact q_b2s ho (by assumption) (by assumption) (by assumption) (by assumption) h
        · cases hl
      · cases hl
    · cases hl
  · rename_i x i ho
    cases hx : lowArg x <;> rw [hx] at hl <;> cases hl
    exact q_extract ho hx h
  · rename_i f first caps ho
    split at hl
    · rename_i hc
      cases hx : lowArgs caps.toList <;> rw [hx] at hl <;> cases hl
      exact q_mkfn ho hc hx h
    · cases hl
  · rename_i x ho
    cases hx : lowArg x <;> rw [hx] at hl <;> cases hl
    exact q_nilchk ho hx h
  · rename_i c ho
    split at hl
    · rename_i hc
      split at hl
      · split at hl
        · cases hl; exact q_len ho hc (by assumption) (by assumption) (by simp; assumption) (by assumption) h
        · cases hl; exact q_len ho hc (by assumption) (by assumption) (by simp; exact ⟨_, by assumption⟩) (by assumption) h
        · cases hl
      · cases hl
    · split at hl
      · split at hl
        · split at hl
          · split at hl
            · split at hl
              · cases hl; cases hq
              · cases hl
            · cases hl
          · cases hl
        · cases hl
      · cases hl
    · rename_i hc
      cases hx : lowArgs c.args.toList <;> rw [hx] at hl <;> cases hl
      exact q_mm (mx := true) ho hc hx h
    · rename_i hc
      cases hx : lowArgs c.args.toList <;> rw [hx] at hl <;> cases hl
      exact q_mm (mx := false) ho hc hx h
    · rename_i f hc
      split at hl
      · rename_i hcl
        cases hx : lowArgs c.args.toList <;> rw [hx] at hl <;> simp only [Option.map_none, Option.map_some, reduceCtorEq, Option.some.injEq] at hl
        subst hl
        split at h
        · rename_i hh; rw [if_pos hh] at hq; cases hq
        · exact q_call ho hc hcl hx h
      · cases hl
    · rename_i x _ hc
      split at hl
      · split at hl
        · cases hl; cases hq
        · cases hl; exact q_callv ho hc (by assumption) (by assumption) h
      · cases hl
    · cases hl
  · cases hl
theorem low_quiet {own : List (Nat × Nat)} {o : Oper} {io : IOp} {K : AV → Hp → Prop} (hl : lowOp P own o = some io) (hq : io.quiet = true) (h : io.sem P fr hp K) : QOk P E fr hp o fun v => K v hp := by
  unfold lowOp at hl
  split at hl
  · cases hl; exact low_quiet0 (by assumption) hq h
  · cases hl; exact h.elim
end

end Go.Proofs.Ytlpapmofmdgllaa.Av
