/-
  THE OPERATIONS THAT MAKE OR WRITE OWN ROWS. Conditions: none.
-/
import Derived.Test.YtlpapmofmdgllaaAvSnd6
set_option linter.unusedVariables false
set_option linter.unusedSimpArgs false
namespace Go.Proofs.Ytlpapmofmdgllaa.Av
open Go.RowKit

def Mu.put (μ : Mu) (k v : Nat) (b : Bk) : Mu := fun k' v' => if k' = k ∧ v' = v then some b else μ k' v'
theorem Mu.put_self (μ : Mu) (k v : Nat) (b : Bk) : μ.put k v b k v = some b := by simp [Mu.put]
theorem Mu.le_put {μ : Mu} {k v : Nat} {b : Bk} (h : μ k v = none) : Mu.le μ (μ.put k v b) := fun k' v' b' h' => by
  unfold Mu.put
  split
  · rename_i hc; rw [hc.1, hc.2, h] at h'; cases h'
  · exact h'
theorem Mu.put_fresh {μ : Mu} (h : ∃ N, ∀ k v, N ≤ v → μ k v = none) {k v : Nat} {b : Bk} : ∃ N, ∀ k' v', N ≤ v' → (μ.put k v b) k' v' = none := by
  obtain ⟨N, h⟩ := h
  refine ⟨max N (v + 1), fun k' v' hv => ?_⟩
  unfold Mu.put
  rw [if_neg (by omega)]
  exact h k' v' (by omega)

/-- behind an operation that makes or writes an own row -/
def WPost (E : Env) (S : Nat → Prop) (μ : Mu) (w : World) (K : AV → Hp → Prop) (v : Value) (w' : World) : Prop :=
  ∃ x hp' S' μ', K x hp' ∧ VR S' w' μ' v x ∧ WI E S' w' μ' hp' ∧ (∀ b, S b → S' b) ∧ Same S w w' ∧ Mu.le μ μ'

theorem WI.put {E : Env} {S : Nat → Prop} {w w' : World} {μ μ' : Mu} {hp : Hp} (h : WI E S w μ hp) (hos : w'.os = w.os) (ht : w'.tape = w.tape) (ho : w'.output = w.output) (hs : w.heap.size ≤ w'.heap.size)
    {k g : Nat} {bx : Box} {B : Bk} {cur : Array Value} (hb : ∀ b, b < w.heap.size → b ≠ g → w'.heap[b]? = w.heap[b]?) (hle : Mu.le μ μ') (hfr : ∃ N, ∀ k v, N ≤ v → μ' k v = none)
    (hB : μ' k bx.ver = some B) (hBb : B.blk = some g) (hz : B.esz = bx.esz) (hfz : bx.frz = false) (hSg : ¬ S g) (hg0 : E.w0.heap.size ≤ g ∨ E.own g) (hcur : w'.heap[g]? = some (.cells cur bx.ty (0, 0)))
    (hsz : cur.size = B.cap * B.esz) (hcap : B.cap ≤ maxLen) (hlen : bx.es.length ≤ B.cap) (hlies : Lies S w' μ' cur B.esz bx.es)
    (hoth : ∀ j bj Bj, hget hp j = some bj → j ≠ k → bj.frz = false → μ j bj.ver = some Bj → Bj.blk ≠ some g) : WI E S w' μ' ((k, bx) :: hp) ∧ Same S w w' := by
  have hsame : Same S w w' := fun b hb' => hb b (h.lt b hb') (fun e => hSg (e ▸ hb'))
  have hget' : ∀ j, hget ((k, bx) :: hp) j = if k = j then some bx else hget hp j := fun j => rfl
  have hold : ∀ j bj, hget hp j = some bj → ∀ B', μ' j bj.ver = some B' → μ j bj.ver = some B' := fun j bj hj B' hB' => by
    obtain ⟨B0, h0, _⟩ := h.box j bj hj
    have := hle _ _ _ h0
    rw [this] at hB'; cases hB'; exact h0
  refine ⟨⟨⟨hos.trans h.ext.os, ht.trans h.ext.tape, ho.trans h.ext.output, Nat.le_trans h.ext.size hs, fun b hb' hn => ?_⟩, fun b hb' => Nat.lt_of_lt_of_le (h.lt b hb') hs, h.base, h.new, hfr, fun j bj hj => ?_, ?_, h.le.trans hle⟩, hsame⟩
  · rw [hb b (Nat.lt_of_lt_of_le hb' h.ext.size) (fun e => by subst e; rcases hg0 with e | e; omega; exact hn e)]
    exact h.ext.block b hb' hn
  · rw [hget'] at hj
    by_cases hkj : k = j
    · rw [if_pos hkj] at hj
      cases hj
      subst hkj
      refine ⟨B, hB, hz, ?_⟩
      rw [hBb]
      exact ⟨fun _ => hg0, fun e => absurd (hfz.symm.trans e) (by simp), fun _ => hSg, cur, hcur, hsz, hcap, hlen, hlies⟩
    · rw [if_neg hkj] at hj
      obtain ⟨B0, h0, hz0, hh⟩ := h.box j bj hj
      refine ⟨B0, hle _ _ _ h0, hz0, ?_⟩
      cases hbl : B0.blk with
      | none => rw [hbl] at hh; exact hh
      | some b =>
        rw [hbl] at hh
        obtain ⟨a1, a2, a3, cu, a4, a5, a6, a7, a8⟩ := hh
        have hbg : b ≠ g := by
          intro e
          subst e
          cases hf : bj.frz with
          | true => exact hSg (a2 hf)
          | false => exact hoth j bj B0 hj (Ne.symm hkj) hf h0 hbl
        exact ⟨a1, a2, a3, cu, (hb b (Array.getElem?_eq_some_iff.1 a4).1 hbg).trans a4, a5, a6, a7, a8.mono (fun _ h => h) hsame hle⟩
  · intro j j' bj bj' Bj Bj' b hj hj' hne hf hf' hBj hBj' hbl
    rw [hget'] at hj hj'
    by_cases hkj : k = j
    · rw [if_pos hkj] at hj
      cases hj
      subst hkj
      rw [if_neg hne] at hj'
      rw [hB] at hBj
      cases hBj
      rw [hBb] at hbl
      cases hbl
      exact hoth j' bj' Bj' hj' (Ne.symm hne) hf' (hold j' bj' hj' _ hBj')
    · rw [if_neg hkj] at hj
      by_cases hkj' : k = j'
      · rw [if_pos hkj'] at hj'
        cases hj'
        subst hkj'
        rw [hB] at hBj'
        cases hBj'
        rw [hBb]
        intro e
        cases e
        exact hoth j bj Bj hj hne hf (hold j bj hj _ hBj) hbl
      · rw [if_neg hkj'] at hj'
        exact h.apart j j' bj bj' Bj Bj' b hj hj' hne hf hf' (hold j bj hj _ hBj) (hold j' bj' hj' _ hBj') hbl

/-- a new own row -/
theorem WI.fresh_row {E : Env} {S : Nat → Prop} {w w' : World} {μ : Mu} {hp : Hp} (h : WI E S w μ hp) (hos : w'.os = w.os) (ht : w'.tape = w.tape) (ho : w'.output = w.output) (hs : w.heap.size < w'.heap.size) (hb : ∀ b, b < w.heap.size → w'.heap[b]? = w.heap[b]?)
    {cur : Array Value} {ty : TypeId} {cap esz : Nat} {es : List AV} (hcur : w'.heap[w.heap.size]? = some (.cells cur ty (0, 0))) (hsz : cur.size = cap * esz) (hcap : cap ≤ maxLen) (hlen : es.length ≤ cap) (hlies : Lies S w μ cur esz es) (k : Nat) :
    ∃ v, WI E S w' (μ.put k v ⟨some w.heap.size, cap, esz⟩) ((k, ⟨v, false, ty, esz, es⟩) :: hp) ∧ Same S w w' ∧ Mu.le μ (μ.put k v ⟨some w.heap.size, cap, esz⟩) := by
  obtain ⟨N, hN⟩ := h.fresh
  have hle : Mu.le μ (μ.put k N ⟨some w.heap.size, cap, esz⟩) := Mu.le_put (hN k N (Nat.le_refl _))
  have hsame : Same S w w' := fun b hb' => hb b (h.lt b hb')
  refine ⟨N, ?_⟩
  have := h.put (bx := ⟨N, false, ty, esz, es⟩) (k := k) hos ht ho (Nat.le_of_lt hs) (fun b hb' _ => hb b hb') hle (Mu.put_fresh h.fresh) (Mu.put_self _ _ _ _) rfl rfl rfl (fun hS => Nat.lt_irrefl _ (h.lt _ hS)) (.inl h.ext.size) hcur hsz hcap hlen (hlies.mono (fun _ h => h) hsame hle)
    (fun j bj Bj hj _ _ hB e => by
      obtain ⟨B0, h0, _, hh⟩ := h.box j bj hj
      rw [h0] at hB
      cases hB
      rw [e] at hh
      obtain ⟨_, _, _, cu, a4, _⟩ := hh
      exact Nat.lt_irrefl _ (Array.getElem?_eq_some_iff.1 a4).1)
  exact ⟨this.1, this.2, hle⟩

section
variable {P : Program} {E : Env} {S : Nat → Prop} {w : World} {μ : Mu} {hp : Hp} {fr : Nat → AV} {ρ : Operand → Value}

theorem lies_one {v : Value} {x : AV} {n : Nat} (hv : VR S w μ v x) (hok : x.ok = true) (hn : x.cells.length = n) : Lies S w μ v.cells n [x] ∧ v.cells.size = 1 * n := by
  obtain ⟨c1, c2⟩ := hv.cells (AV.ok_iff.1 hok)
  have hs : v.cells.size = n := by have := c1.1; rw [hn] at this; simpa using this
  refine ⟨⟨fun e he => by rw [List.mem_singleton.1 he]; exact ⟨hn, c2⟩, fun i j e y p q => ?_⟩, by omega⟩
  cases i with
  | zero =>
    simp at p
    subst p
    have hj : j < v.cells.size := by rw [hs, ← hn]; exact (List.getElem?_eq_some_iff.1 q).1
    exact ⟨v.cells[j], by simp [hj], c1.2 j _ y (by simp [hj]) q⟩
  | succ i => simp at p

theorem w_box {o : Oper} {e : TypeId} {x : Operand} {ix : IArg} {k n : Nat} {K : AV → Hp → Prop} (ho : o.op = .box e x) (hx : lowArg x = some ix)
    (h : ((ix.ev fr).ok = true ∧ (ix.ev fr).cells.length = n) ∧ ∀ v, K (.ptr k v 0 0) ((k, ⟨v, false, e, n, [ix.ev fr]⟩) :: hp)) (hw : WI E S w μ hp) (hf : Fits S w μ fr ρ o.op.operands.toList) : Yield P ρ o w (WPost E S μ w K) := by
  have hv := hf.one (x := x) (by simp [ho, Op.operands]) hx
  obtain ⟨l1, l2⟩ := lies_one hv h.1.1 h.1.2
  obtain ⟨v, a, b, c⟩ := hw.fresh_row (w' := w.alloc (.cells (ρ x).cells e)) rfl rfl rfl (by simp) (fun b hb => Below.heap_alloc w _ b hb) (heap_alloc_new w _) l2 (by unfold maxLen; omega) (by simp) l1 k
  refine Yield.val (v := .pointer (some ⟨w.heap.size, 0 * n + 0, none⟩)) (w' := w.alloc (.cells (ρ x).cells e)) (by simp [execOp, ho, Instr.box, run_newVar]) ⟨_, _, S, _, h.2 v, .ptr k v 0 0 _ 1 n (Mu.put_self _ _ _ _), a, fun _ h => h, b, c⟩

theorem w_alloc {o : Oper} {e : TypeId} {z : AV} {k n : Nat} {K : AV → Hp → Prop} (ho : o.op = .alloc e) (hz : tyZero P e = some z)
    (h : (z.ok = true ∧ z.cells.length = n) ∧ ∀ v, K (.ptr k v 0 0) ((k, ⟨v, false, e, n, [z]⟩) :: hp)) (hw : WI E S w μ hp) : Yield P ρ o w (WPost E S μ w K) := by
  obtain ⟨zv, hr, hv, hk⟩ := tyZero_ok hz
  obtain ⟨l1, l2⟩ := lies_one (hv S w μ) h.1.1 h.1.2
  obtain ⟨v, a, b, c⟩ := hw.fresh_row (w' := w.alloc (.cells zv.cells e)) rfl rfl rfl (by simp) (fun b hb => Below.heap_alloc w _ b hb) (heap_alloc_new w _) l2 (by unfold maxLen; omega) (by simp) l1 k
  refine Yield.val (v := .pointer (some ⟨w.heap.size, 0 * n + 0, none⟩)) (w' := w.alloc (.cells zv.cells e)) (by simp [execOp, ho, Instr.alloc, hr, run_newVar]) ⟨_, _, S, _, h.2 v, .ptr k v 0 0 _ 1 n (Mu.put_self _ _ _ _), a, fun _ h => h, b, c⟩

theorem w_slO {o : Oper} {t e : TypeId} {m k : Nat} {ps : Array (Nat × Operand)} {z : AV} {is : List (Nat × IArg)} {K : AV → Hp → Prop} (ho : o.op = .buildSlice t m ps) (he : tyElem P t = some e) (hs : tySize P e = some z.cells.length) (hz : tyZero P e = some z)
    (hl : lowElems ps.toList = some is) (h24 : m * z.cells.length ≤ 2 ^ 24) (hpos : 0 < z.cells.length)
    (h : aElems fr z.cells.length (List.replicate m z) is fun es => ∀ v, K (.row k v m) ((k, ⟨v, false, e, z.cells.length, es⟩) :: hp)) (hw : WI E S w μ hp) (hf : Fits S w μ fr ρ o.op.operands.toList) : Yield P ρ o w (WPost E S μ w K) := by
  obtain ⟨zv, hr, hv, hk⟩ := tyZero_ok hz
  obtain ⟨fs, hK, hfl, hh⟩ := fill_elems hl h
  have hzs : zv.cells.size = z.cells.length := by simpa using ((hv S w μ).cells (AV.ok_iff.1 hk)).1.1
  obtain ⟨cur', d1, d2, d3⟩ := hh S w μ ρ _ (fun u hu => hf u (by
    simp only [ho, Op.operands]
    simpa using hu)) (Lies.zeros (hv S w μ) hk m) (by simp)
  have e' : (ps.map fun (p : Nat × Operand) => (p.1, ρ p.2)).toList = ps.toList.map fun p => (p.1, ρ p.2) := by simp
  have hlen : fs.length = m := by simpa using hfl
  have hml : m ≤ maxLen := by
    have : m * 1 ≤ m * z.cells.length := Nat.mul_le_mul_left m hpos
    unfold maxLen; omega
  obtain ⟨v, a, b, c⟩ := hw.fresh_row (w' := w.alloc (.cells cur' e)) rfl rfl rfl (by simp) (fun b hb => Below.heap_alloc w _ b hb) (heap_alloc_new w _) (by rw [d3, hlen]) hml (by omega) d2 k
  refine Yield.val (v := .slice (some ⟨w.heap.size, 0, none⟩) m m) (w' := w.alloc (.cells cur' e)) ?_ ⟨_, _, S, _, hK v, .row k v m _ m z.cells.length (Mu.put_self _ _ _ _) (Nat.le_refl _) hml, a, fun _ h => h, b, c⟩
  have := run_buildSlice (ps := ps.map fun (p : Nat × Operand) => (p.1, ρ p.2)) he hs hr hzs h24 (by rw [e']; exact d1) w
  simp only [execOp, ho, Sem.run_bind, this, Result.andThen_ok]
  rfl

theorem tyInfo_ok {e : TypeId} {i : TypeInfo} (h : P.info? e = some i) (w : World) : (typeInfo e).run P w = .ok i w := by simp [typeInfo, h]

theorem w_mkSlice {o : Oper} {t e : TypeId} {k : Nat} {l c : Operand} {il : IArg} {i : TypeInfo} {z : AV} {K : AV → Hp → Prop} (ho : o.op = .makeSlice t l c) (he : tyElem P t = some e) (hi : P.info? e = some i) (hz : tyZero P e = some z) (hl : lowArg l = some il)
    (hsame : sameOpd l c = true) (hcl : z.cells.length = i.size) (hpos : 0 < i.size) (hby : 0 < i.bytes)
    (h : (IOp.mkSlice k e i.bytes z il).sem P fr hp K) (hρc : ∀ v, ρ (.const v) = v) (hw : WI E S w μ hp) (hf : Fits S w μ fr ρ o.op.operands.toList) : Yield P ρ o w (WPost E S μ w K) := by
  have hu := tyElem_ok he
  obtain ⟨zv, hr, hv, hk⟩ := tyZero_ok hz
  have hzs : zv.cells.size = z.cells.length := by simpa using ((hv S w μ).cells (AV.ok_iff.1 hk)).1.1
  have hlv := hf.one (x := l) (by simp [ho, Op.operands]) hl
  have hcc : ∃ kk, ρ c = (match ρ l with | .int _ n => .int kk n | v => v) := by
    cases l <;> cases c <;> simp [sameOpd] at hsame
    · subst hsame
      cases hh : ρ (.tmp ‹_›) <;> first | exact ⟨_, rfl⟩ | exact ⟨.i64, rfl⟩
    · rename_i a b
      cases a <;> cases b <;> simp at hsame
      obtain ⟨rfl, rfl⟩ := hsame
      rw [hρc]; exact ⟨_, rfl⟩
  simp only [IOp.sem] at h
  split at h
  · rename_i kk n e1
    obtain ⟨⟨h0, h1⟩, h⟩ := h
    rw [e1] at hlv
    obtain ⟨kc, hcc⟩ := hcc
    generalize hra : ρ l = va at hlv hcc
    cases hlv
    simp only at hcc
    obtain ⟨m, rfl⟩ := Int.eq_ofNat_of_zero_le h0
    have h1' : m * i.bytes ≤ 140737488355328 := by
      have e : (m : Int) * (i.bytes : Int) = ((m * i.bytes : Nat) : Int) := (Int.natCast_mul _ _).symm
      have h1 : (m : Int) * (i.bytes : Int) ≤ 140737488355328 := h1
      rw [e] at h1
      generalize m * i.bytes = q at h1 ⊢
      omega
    have hm1 : m ≤ 140737488355328 := Nat.le_trans (Nat.le_mul_of_pos_right m hby) h1'
    have hwr : IntKind.i64.wrap (m : Int) = m := IntWalk.i64_in _ (by omega)
    have h48 : ¬ ((i.bytes : Int) * (m : Int) > 2 ^ 48) := by
      have e : (i.bytes : Int) * (m : Int) = ((m * i.bytes : Nat) : Int) := by rw [Int.natCast_mul, Int.mul_comm]
      rw [e]
      generalize m * i.bytes = q at h1' ⊢
      omega
    have hml : m ≤ maxLen := by unfold maxLen; omega
    simp only [Int.toNat_natCast] at h
    have lz := Lies.zeros (hv S w μ) hk m
    rw [hcl] at lz
    obtain ⟨v, a, b, cc⟩ := hw.fresh_row (w' := w.alloc (.cells ((Array.range (m * i.size)).map fun j => zv.cells[j % zv.cells.size]!) e)) rfl rfl rfl (by simp) (fun b hb => Below.heap_alloc w _ b hb) (heap_alloc_new w _) (cap := m) (by simp) hml (by simp) lz k
    rw [hcl] at h
    refine Yield.val (v := .slice (some ⟨w.heap.size, 0, none⟩) m m) (w' := w.alloc (.cells ((Array.range (m * i.size)).map fun j => zv.cells[j % zv.cells.size]!) e)) ?_ ⟨_, _, S, _, h v, .row k v m _ m i.size (Mu.put_self _ _ _ _) (Nat.le_refl _) hml, a, fun _ h => h, b, cc⟩
    have hroom : ¬ (m * i.bytes > roomBytes) := by unfold roomBytes; omega
    have hsz : tySize P e = some i.size := by simp [tySize, hi]
    have key : (Instr.makeSlice t (.int kk m) (.int kc m)).run P w = .ok (.slice (some ⟨w.heap.size, 0, none⟩) m m) (w.alloc (.cells ((Array.range (m * i.size)).map fun j => zv.cells[j % zv.cells.size]!) e)) := by
      unfold Instr.makeSlice
      simp only [Sem.run_bind, run_underlying hu, Result.andThen_ok, asInt, asIntOf, Sem.run_pure, tyInfo_ok hi, hwr]
      have c1 : ¬ ((m : Int) < 0) := by omega
      simp only [c1, h48, decide_false, Bool.or_false, Bool.false_eq_true, if_false, Int.lt_irrefl, decide_eq_true_eq, gt_iff_lt, Bool.or_self, askRoom, Int.toNat_natCast]
      rw [if_neg (by simpa using hroom)]
      simp only [Sem.run_bind, Sem.run_pure, Result.andThen_ok, run_tySize hsz]
      by_cases hm0 : m * i.size = 0
      · simp only [hm0, if_true, Sem.run_bind, Sem.run_pure, Result.andThen_ok]
        rw [Array.eq_empty_of_size_eq_zero (xs := (Array.range 0).map fun j => zv.cells[j % zv.cells.size]!) (by simp), Array.eq_empty_of_size_eq_zero (xs := (Array.range 0).map _) (by simp)]
        rfl
      · simp only [hm0, if_false, Sem.run_bind, hr, Result.andThen_ok, Sem.run_pure]
        rfl
    simp only [execOp, ho, hra, hcc, Sem.run_bind, key, Result.andThen_ok]
    rfl
  · exact h.elim
end

end Go.Proofs.Ytlpapmofmdgllaa.Av
