/-
 THE OPERATIONS THAT WRITE, and code: what the abstract code asks is enough for the model's. Conditions: none.
-/
import Derived.Test.YtjbcnilllfaipaaGreatYAvB
import Derived.Tactics
import Derived.Scope
set_option linter.unusedVariables false
set_option linter.unusedSimpArgs false

namespace Go.Proofs.YtjbcnilllfaipaaGreat.Av
open Go.RowKit

def Mu.put (μ : Mu) (k v : Nat) (b : Bk) : Mu := fun k' v' => if k' = k ∧ v' = v then some b else μ k' v'
theorem Mu.BR (μ : Mu) (k v : Nat) (b : Bk) : μ.put k v b k v = some b := by simp [Mu.put]
theorem Mu.ML {μ : Mu} {k v : Nat} {b : Bk} (h : μ k v = none) : Mu.le μ (μ.put k v b) := fun k' v' b' h' => by
 unfold Mu.put
 split
 ·rename_i hc; rw [hc.1, hc.2, h] at h'; cases h'
 ·exact h'
theorem Mu.GX {μ : Mu} {k v : Nat} {b : Bk} (h0 : 0 < v) (h : NZ μ) : NZ (μ.put k v b) := by
 obtain ⟨N, hN, h, hp⟩ := h
 refine ⟨max N (v + 1), by omega, fun k' v' hv => ?_, fun k' B hB => ?_⟩
 ·unfold Mu.put
  rw [if_neg (by omega)]
  exact h k' v' (by omega)
 ·unfold Mu.put at hB
  rw [if_neg (by omega)] at hB
  exact hp k' B hB

def EU (E : Env) (S : Nat → Prop) (μ : Mu) (w : World) (K : AV → Hp → Prop) (v : Value) (w' : World) : Prop :=
 ∃ x hp' S' μ', K x hp' ∧ VR S' w' μ' v x ∧ WI E S' w' μ' hp' ∧ (∀ b, S b → S' b) ∧ Cc S w w' ∧ Mu.le μ μ'

theorem WI.put {E : Env} {S : Nat → Prop} {w w' : World} {μ μ' : Mu} {hp : Hp} (h : WI E S w μ hp) (hos : w'.os = w.os) (ht : w'.tape = w.tape) (ho : w'.output = w.output) (hs : w.heap.size ≤ w'.heap.size)
  {k g : Nat} {bx : Box} {B : Bk} {cur : Array Value} (hb : ∀ b, b < w.heap.size → b ≠ g → w'.heap[b]? = w.heap[b]?) (hle : Mu.le μ μ') (hfr : NZ μ')
  (hB : μ' k bx.ver = some B) (hBb : B.blk = some g) (hz : B.esz = bx.esz) (hfz : bx.frz = false) (hSg : ¬ S g) (hg0 : E.w0.heap.size ≤ g ∨ E.own g) (hcur : CX w' g cur bx.ty)
  (hsz : cur.size = B.cap * B.esz) (hcap : B.cap ≤ maxLen) (hlen : bx.es.length ≤ B.cap) (hlies : Et S w' μ' cur B.esz bx.es)
  (hoth : ∀ j bj Bj, Aw hp j = some bj → j ≠ k → bj.frz = false → μ j bj.ver = some Bj → Bj.blk ≠ some g) : WI E S w' μ' ((k, bx) :: hp) ∧ Cc S w w' := by
 have hsame : Cc S w w' := fun b hb' => hb b (h.lt b hb') (fun e => hSg (e ▸ hb'))
 have hget' : ∀ j, Aw ((k, bx) :: hp) j = if k = j then some bx else Aw hp j := fun j => rfl
 have hold : ∀ j bj, Aw hp j = some bj → ∀ B', μ' j bj.ver = some B' → μ j bj.ver = some B' := fun j bj hj B' hB' => by
  obtain ⟨B0, h0, _⟩ := h.box j bj hj
  have := hle _ _ _ h0
  rw [this] at hB'; cases hB'; exact h0
 refine ⟨⟨⟨hos.trans h.ext.os, ht.trans h.ext.tape, ho.trans h.ext.output, Nat.le_trans h.ext.size hs, fun b hb' hn => ?_⟩, fun b hb' => Nat.lt_of_lt_of_le (h.lt b hb') hs, h.base, h.new, hfr, fun j bj hj => ?_, ?_, h.le.trans hle⟩, hsame⟩
 ·rw [hb b (Nat.lt_of_lt_of_le hb' h.ext.size) (fun e => by subst e; rcases hg0 with e | e; omega; exact hn e)]
  exact h.ext.block b hb' hn
 ·rw [hget'] at hj
  by_cases hkj : k = j
  ·rw [if_pos hkj] at hj
   cases hj
   subst hkj
   refine ⟨B, hB, hz, ?_⟩
   rw [hBb]
   exact ⟨fun _ => hg0, fun e => absurd (hfz.symm.trans e) (by simp), fun _ => hSg, cur, hcur, hsz, hcap, hlen, hlies⟩
  ·rw [if_neg hkj] at hj
   obtain ⟨B0, h0, hz0, hh⟩ := h.box j bj hj
   refine ⟨B0, hle _ _ _ h0, hz0, ?_⟩
   cases hbl : B0.blk with
   | none => rw [hbl] at hh; exact hh
   | some b =>
    rw [hbl] at hh
    obtain ⟨a1, a2, a3, cu, a4, a5, a6, a7, a8⟩ := hh
    have hbg : b ≠ g := by
     intro e
     subst e
     cases hf : bj.frz with
     | true => exact hSg (a2 hf)
     | false => exact hoth j bj B0 hj (Ne.symm hkj) hf h0 hbl
    exact ⟨a1, a2, a3, cu, a4.of (hb b a4.lt hbg), a5, a6, a7, a8.mono (fun _ h => h) hsame hle⟩
 ·intro j j' bj bj' Bj Bj' b hj hj' hne hf hf' hBj hBj' hbl
  rw [hget'] at hj hj'
  by_cases hkj : k = j
  ·rw [if_pos hkj] at hj
   cases hj
   subst hkj
   rw [if_neg hne] at hj'
   rw [hB] at hBj
   cases hBj
   rw [hBb] at hbl
   cases hbl
   exact hoth j' bj' Bj' hj' (Ne.symm hne) hf' (hold j' bj' hj' _ hBj')
  ·rw [if_neg hkj] at hj
   by_cases hkj' : k = j'
   ·rw [if_pos hkj'] at hj'
    cases hj'
    subst hkj'
    rw [hB] at hBj'
    cases hBj'
    rw [hBb]
    intro e
    cases e
    exact hoth j bj Bj hj hne hf (hold j bj hj _ hBj) hbl
   ·rw [if_neg hkj'] at hj'
    exact h.apart j j' bj bj' Bj Bj' b hj hj' hne hf hf' (hold j bj hj _ hBj) (hold j' bj' hj' _ hBj') hbl

theorem WI.Pf {E : Env} {S : Nat → Prop} {w w' : World} {μ : Mu} {hp : Hp} (h : WI E S w μ hp) (hos : w'.os = w.os) (ht : w'.tape = w.tape) (ho : w'.output = w.output) (hs : w.heap.size < w'.heap.size) (hb : ∀ b, b < w.heap.size → w'.heap[b]? = w.heap[b]?)
  {cur : Array Value} {ty : TypeId} {cap esz : Nat} {es : List AV} (hcur : CX w' w.heap.size cur ty) (hsz : cur.size = cap * esz) (hcap : cap ≤ maxLen) (hlen : es.length ≤ cap) (hlies : Et S w μ cur esz es) (k : Nat) :
  ∃ v, WI E S w' (μ.put k v ⟨some w.heap.size, cap, esz⟩) ((k, ⟨v, false, ty, esz, es⟩) :: hp) ∧ Cc S w w' ∧ Mu.le μ (μ.put k v ⟨some w.heap.size, cap, esz⟩) := by
 obtain ⟨N, hN0, hN, _⟩ := h.fresh
 have hle : Mu.le μ (μ.put k N ⟨some w.heap.size, cap, esz⟩) := Mu.ML (hN k N (Nat.le_refl _))
 have hsame : Cc S w w' := fun b hb' => hb b (h.lt b hb')
 refine ⟨N, ?_⟩
 have := h.put (bx := ⟨N, false, ty, esz, es⟩) (k := k) hos ht ho (Nat.le_of_lt hs) (fun b hb' _ => hb b hb') hle (Mu.GX hN0 h.fresh) (Mu.BR _ _ _ _) rfl rfl rfl (fun hS => Nat.lt_irrefl _ (h.lt _ hS)) (.inl h.ext.size) hcur hsz hcap hlen (hlies.mono (fun _ h => h) hsame hle)
  (fun j bj Bj hj _ _ hB e => by
   obtain ⟨B0, h0, _, hh⟩ := h.box j bj hj
   rw [h0] at hB
   cases hB
   rw [e] at hh
   obtain ⟨_, _, _, cu, a4, _⟩ := hh
   exact Nat.lt_irrefl _ a4.lt)
 exact ⟨this.1, this.2, hle⟩
theorem WI.F6 {E : Env} {S : Nat → Prop} {w w' : World} {μ : Mu} {hp : Hp} (h : WI E S w μ hp) (hos : w'.os = w.os) (ht : w'.tape = w.tape) (ho : w'.output = w.output) (hs : w.heap.size < w'.heap.size) (hb : ∀ b, b < w.heap.size → w'.heap[b]? = w.heap[b]?)
  {cur : Array Value} {ty : TypeId} {cap esz : Nat} {es : List AV} (hcur : w'.heap[w.heap.size]? = some (.cells cur ty (0, 0))) (hsz : cur.size = cap * esz) (hcap : cap ≤ maxLen) (hlen : es.length ≤ cap) (hlies : Et S w μ cur esz es) (k : Nat) :
  ∃ v, WI E S w' (μ.put k v ⟨some w.heap.size, cap, esz⟩) ((k, ⟨v, false, ty, esz, es⟩) :: hp) ∧ Cc S w w' ∧ Mu.le μ (μ.put k v ⟨some w.heap.size, cap, esz⟩) := h.Pf hos ht ho hs hb (.mk0 hcur) hsz hcap hlen hlies k

section
variable {P : Program} {E : Env} {S : Nat → Prop} {w : World} {μ : Mu} {hp : Hp} {fr : Nat → AV} {ρ : Operand → Value}

theorem Uk {v : Value} {x : AV} {n : Nat} (hv : VR S w μ v x) (hok : x.ok = true) (hn : x.cells.length = n) : Et S w μ v.cells n [x] ∧ v.cells.size = 1 * n := by
 obtain ⟨c1, c2⟩ := hv.cells (AV.EX.1 hok)
 have hs : v.cells.size = n := by have := c1.1; rw [hn] at this; simpa using this
 refine ⟨⟨fun e he => by rw [List.mem_singleton.1 he]; exact ⟨hn, c2⟩, fun i j e y p q => ?_⟩, by omega⟩
 cases i with
 | zero =>
  simp at p
  subst p
  have hj : j < v.cells.size := by rw [hs, ← hn]; exact (List.getElem?_eq_some_iff.1 q).1
  exact ⟨v.cells[j], by simp [hj], c1.2 j _ y (by simp [hj]) q⟩
 | succ i => simp at p

theorem Ad4 {o : Oper} {e : TypeId} {x : Operand} {ix : Ax} {k n : Nat} {K : AV → Hp → Prop} (ho : o.op = .box e x) (hx : AB x = some ix)
  (h : ((ix.ev fr).ok = true ∧ (ix.ev fr).cells.length = n) ∧ ∀ v, K (.ptr k v 0 0) ((k, ⟨v, false, e, n, [ix.ev fr]⟩) :: hp)) (hw : WI E S w μ hp) (hf : Fits S w μ fr ρ o.op.operands.toList) : Bc P ρ o w (EU E S μ w K) := by
 have hv := hf.one (x := x) (by simp [ho, Op.operands]) hx
 obtain ⟨l1, l2⟩ := Uk hv h.1.1 h.1.2
 obtain ⟨v, a, b, c⟩ := hw.F6 (w' := w.alloc (.cells (ρ x).cells e)) rfl rfl rfl (by simp) (fun b hb => Below.heap_alloc w _ b hb) (heap_alloc_new w _) l2 (by unfold maxLen; omega) (by simp) l1 k
 refine Bc.val (v := .pointer (some ⟨w.heap.size, 0 * n + 0, none⟩)) (w' := w.alloc (.cells (ρ x).cells e)) (by simp [execOp, ho, Instr.box, IV]) ⟨_, _, S, _, h.2 v, .ptr k v 0 0 _ 1 n (Mu.BR _ _ _ _), a, fun _ h => h, b, c⟩

theorem Ab5 {o : Oper} {e : TypeId} {z : AV} {k n : Nat} {K : AV → Hp → Prop} (ho : o.op = .alloc e) (hz : Ep P e = some z)
  (h : (z.ok = true ∧ z.cells.length = n) ∧ ∀ v, K (.ptr k v 0 0) ((k, ⟨v, false, e, n, [z]⟩) :: hp)) (hw : WI E S w μ hp) : Bc P ρ o w (EU E S μ w K) := by
 obtain ⟨zv, hr, hv, hk⟩ := GV hz
 obtain ⟨l1, l2⟩ := Uk (hv S w μ) h.1.1 h.1.2
 obtain ⟨v, a, b, c⟩ := hw.F6 (w' := w.alloc (.cells zv.cells e)) rfl rfl rfl (by simp) (fun b hb => Below.heap_alloc w _ b hb) (heap_alloc_new w _) l2 (by unfold maxLen; omega) (by simp) l1 k
 refine Bc.val (v := .pointer (some ⟨w.heap.size, 0 * n + 0, none⟩)) (w' := w.alloc (.cells zv.cells e)) (by simp [execOp, ho, Instr.alloc, hr, IV]) ⟨_, _, S, _, h.2 v, .ptr k v 0 0 _ 1 n (Mu.BR _ _ _ _), a, fun _ h => h, b, c⟩

theorem Ad2 {o : Oper} {t e : TypeId} {m k : Nat} {ps : Array (Nat × Operand)} {z : AV} {is : List (Nat × Ax)} {K : AV → Hp → Prop} (ho : o.op = .buildSlice t m ps) (he : Fo P t = some e) (hs : B4 P e = some z.cells.length) (hz : Ep P e = some z)
  (hl : Ik ps.toList = some is) (h24 : m * z.cells.length ≤ 2 ^ 24) (hpos : 0 < z.cells.length)
  (h : D8 fr z.cells.length (List.replicate m z) is fun es => ∀ v, K (.row k v m) ((k, ⟨v, false, e, z.cells.length, es⟩) :: hp)) (hw : WI E S w μ hp) (hf : Fits S w μ fr ρ o.op.operands.toList) : Bc P ρ o w (EU E S μ w K) := by
 obtain ⟨zv, hr, hv, hk⟩ := GV hz
 obtain ⟨fs, hK, hfl, hh⟩ := Lc hl h
 have hzs : zv.cells.size = z.cells.length := by simpa using ((hv S w μ).cells (AV.EX.1 hk)).1.1
 obtain ⟨cur', d1, d2, d3⟩ := hh S w μ ρ _ (fun u hu => hf u (by
  simp only [ho, Op.operands]
  simpa using hu)) (Et.W9 (hv S w μ) hk m) (by simp)
 have e' : (ps.map fun (p : Nat × Operand) => (p.1, ρ p.2)).toList = ps.toList.map fun p => (p.1, ρ p.2) := by simp
 have hlen : fs.length = m := by simpa using hfl
 have hml : m ≤ maxLen := by
  have : m * 1 ≤ m * z.cells.length := Nat.mul_le_mul_left m hpos
  unfold maxLen; omega
 obtain ⟨v, a, b, c⟩ := hw.F6 (w' := w.alloc (.cells cur' e)) rfl rfl rfl (by simp) (fun b hb => Below.heap_alloc w _ b hb) (heap_alloc_new w _) (by rw [d3, hlen]) hml (by omega) d2 k
 refine Bc.val (v := .slice (some ⟨w.heap.size, 0, none⟩) m m) (w' := w.alloc (.cells cur' e)) ?_ ⟨_, _, S, _, hK v, .row k v m _ m z.cells.length (Mu.BR _ _ _ _) (Nat.le_refl _) hml, a, fun _ h => h, b, c⟩
 have := JM (ps := ps.map fun (p : Nat × Operand) => (p.1, ρ p.2)) he hs hr hzs h24 (by rw [e']; exact d1) w
 simp only [execOp, ho, Sem.run_bind, this, Result.andThen_ok]
 rfl

theorem Ad3 {o : Oper} {s d e : TypeId} {x : Operand} {ix : Ax} {k : Nat} {K : AV → Hp → Prop} (ho : o.op = .convert s d x) (hs : P.underlying s = some .string) (hd : P.underlying d = some (.slice e)) (he : P.underlying e = some (.int .u8)) (hx : AB x = some ix)
  (h : (IOp.s2b k e ix).sem P fr hp K) (hw : WI E S w μ hp) (hf : Fits S w μ fr ρ o.op.operands.toList) : Bc P ρ o w (EU E S μ w K) := by
 have hv := hf.one (x := x) (by simp [ho, Op.operands]) hx
 simp only [IOp.sem, AcU] at h
 split at h
 ·rename_i y e1
  rw [e1] at hv
  generalize hr : ρ x = va at hv
  cases hv with
  | str _ hy =>
   have hge := grownCap_ge w y.size 0 e
   have hcm := grownCap_le_maxLen w y.size 0 e hy
   have hsz : (bytesRow y (grownCap w y.size 0 e)).size = grownCap w y.size 0 e := by
    simp only [bytesRow, Array.size_append, Array.size_map, Array.size_replicate]
    have : y.data.size = y.size := rfl
    omega
   obtain ⟨v, a, b, c⟩ := hw.Pf (w' := w.drew.alloc (.cells (bytesRow y (grownCap w y.size 0 e)) e ((bytesRow y (grownCap w y.size 0 e)).size, (bytesRow y (grownCap w y.size 0 e)).size + 1))) rfl rfl rfl (by simp) (fun b hb => Below.heap_alloc w.drew _ b hb)
    (cur := bytesRow y (grownCap w y.size 0 e)) (ty := e) (cap := grownCap w y.size 0 e) (esz := 1) (es := KD y) ⟨_, heap_alloc_new w.drew _, .inr (Nat.le_refl _)⟩ (by rw [hsz, Nat.mul_one]) hcm (by simp [KD]; exact hge)
    ⟨fun f hf' => (by obtain ⟨u, _, rfl⟩ := List.mem_map.1 hf'; exact ⟨rfl, fun q hq => by simp [AV.cells] at hq; subst hq; rfl⟩), fun i j f q p r => (by
     simp only [KD, List.getElem?_map, Option.map_eq_some_iff] at p
     obtain ⟨u, hu, rfl⟩ := p
     have hi : i < y.data.size := by
      have := (List.getElem?_eq_some_iff.1 hu).1
      simpa using this
     cases j with
     | succ j => simp [AV.cells] at r
     | zero =>
      simp [AV.cells] at r
      subst r
      have hu2 : u = y.data[i] := by
       have := (List.getElem?_eq_some_iff.1 hu).2
       simpa using this.symm
      refine ⟨.int .u8 u.toNat, ?_, .int _ _ (by simp [IntKind.min, IntKind.signed]) (by have := u.toNat_lt; simp [IntKind.max, IntKind.signed, IntKind.bits]; omega)⟩
      rw [Nat.mul_one, Nat.add_zero, bytesRow_at y _ i hi, hu2])⟩ k
   exact Bc.val (v := .slice (some ⟨w.heap.size, 0, none⟩) y.size (grownCap w y.size 0 e)) (by simp [execOp, ho, hr, run_bytes_of_string w s d e y hs hd he]) ⟨_, _, S, _, h v, .row k v y.size _ _ 1 (Mu.BR _ _ _ _) hge hcm, a, fun _ h => h, b, c⟩
 ·exact h.elim
theorem Za {e : TypeId} {i : TypeInfo} (h : P.info? e = some i) (w : World) : (typeInfo e).run P w = .ok i w := by simp [typeInfo, h]

theorem Y7 {o : Oper} {t e : TypeId} {k : Nat} {l c : Operand} {il : Ax} {i : TypeInfo} {z : AV} {K : AV → Hp → Prop} (ho : o.op = .makeSlice t l c) (he : Fo P t = some e) (hi : P.info? e = some i) (hz : Ep P e = some z) (hl : AB l = some il)
  (hsame : R7 l c = true) (hcl : z.cells.length = i.size) (hpos : 0 < i.size) (hby : 0 < i.bytes)
  (h : (IOp.mkSlice k e i.bytes z il).sem P fr hp K) (hρc : ∀ v, ρ (.const v) = v) (hw : WI E S w μ hp) (hf : Fits S w μ fr ρ o.op.operands.toList) : Bc P ρ o w (EU E S μ w K) := by
 have hu := Kt he
 obtain ⟨zv, hr, hv, hk⟩ := GV hz
 have hzs : zv.cells.size = z.cells.length := by simpa using ((hv S w μ).cells (AV.EX.1 hk)).1.1
 have hlv := hf.one (x := l) (by simp [ho, Op.operands]) hl
 have hcc : ∃ kk, ρ c = (match ρ l with | .int _ n => .int kk n | v => v) := by
  cases l <;> cases c <;> simp [R7] at hsame
  ·subst hsame
   cases hh : ρ (.tmp ‹_›) <;> first | exact ⟨_, rfl⟩ | exact ⟨.i64, rfl⟩
  ·rename_i a b
   cases a <;> cases b <;> simp at hsame
   obtain ⟨rfl, rfl⟩ := hsame
   rw [hρc]; exact ⟨_, rfl⟩
 simp only [IOp.sem] at h
 split at h
 ·rename_i kk n e1
  obtain ⟨⟨h0, h1⟩, h⟩ := h
  rw [e1] at hlv
  obtain ⟨kc, hcc⟩ := hcc
  generalize hra : ρ l = va at hlv hcc
  cases hlv
  simp only at hcc
  obtain ⟨m, rfl⟩ := Int.eq_ofNat_of_zero_le h0
  have h1' : m * i.bytes ≤ 140737488355328 := by
   have e : (m : Int) * (i.bytes : Int) = ((m * i.bytes : Nat) : Int) := (Int.natCast_mul _ _).symm
   have h1 : (m : Int) * (i.bytes : Int) ≤ 140737488355328 := h1
   rw [e] at h1
   generalize m * i.bytes = q at h1 ⊢
   omega
  have hm1 : m ≤ 140737488355328 := Nat.le_trans (Nat.le_mul_of_pos_right m hby) h1'
  have hwr : IntKind.i64.wrap (m : Int) = m := IntWalk.i64_in _ (by omega)
  have h48 : ¬ ((i.bytes : Int) * (m : Int) > 2 ^ 48) := by
   have e : (i.bytes : Int) * (m : Int) = ((m * i.bytes : Nat) : Int) := by rw [Int.natCast_mul, Int.mul_comm]
   rw [e]
   generalize m * i.bytes = q at h1' ⊢
   omega
  have hml : m ≤ maxLen := by unfold maxLen; omega
  simp only [Int.toNat_natCast] at h
  have lz := Et.W9 (hv S w μ) hk m
  rw [hcl] at lz
  obtain ⟨v, a, b, cc⟩ := hw.F6 (w' := w.alloc (.cells ((Array.range (m * i.size)).map fun j => zv.cells[j % zv.cells.size]!) e)) rfl rfl rfl (by simp) (fun b hb => Below.heap_alloc w _ b hb) (heap_alloc_new w _) (cap := m) (by simp) hml (by simp) lz k
  rw [hcl] at h
  refine Bc.val (v := .slice (some ⟨w.heap.size, 0, none⟩) m m) (w' := w.alloc (.cells ((Array.range (m * i.size)).map fun j => zv.cells[j % zv.cells.size]!) e)) ?_ ⟨_, _, S, _, h v, .row k v m _ m i.size (Mu.BR _ _ _ _) (Nat.le_refl _) hml, a, fun _ h => h, b, cc⟩
  have hroom : ¬ (m * i.bytes > roomBytes) := by unfold roomBytes; omega
  have hsz : B4 P e = some i.size := by simp [B4, hi]
  have key : (Instr.makeSlice t (.int kk m) (.int kc m)).run P w = .ok (.slice (some ⟨w.heap.size, 0, none⟩) m m) (w.alloc (.cells ((Array.range (m * i.size)).map fun j => zv.cells[j % zv.cells.size]!) e)) := by
   unfold Instr.makeSlice
   simp only [Sem.run_bind, run_underlying hu, Result.andThen_ok, asInt, asIntOf, Sem.run_pure, Za hi, hwr]
   have c1 : ¬ ((m : Int) < 0) := by omega
   simp only [c1, h48, decide_false, Bool.or_false, Bool.false_eq_true, if_false, Int.lt_irrefl, decide_eq_true_eq, gt_iff_lt, Bool.or_self, askRoom, Int.toNat_natCast]
   rw [if_neg (by simpa using hroom)]
   simp only [Sem.run_bind, Sem.run_pure, Result.andThen_ok, CV hsz]
   by_cases hm0 : m * i.size = 0
   ·simp only [hm0, if_true, Sem.run_bind, Sem.run_pure, Result.andThen_ok]
    rw [Array.eq_empty_of_size_eq_zero (xs := (Array.range 0).map fun j => zv.cells[j % zv.cells.size]!) (by simp), Array.eq_empty_of_size_eq_zero (xs := (Array.range 0).map _) (by simp)]
    rfl
   ·simp only [hm0, if_false, Sem.run_bind, hr, Result.andThen_ok, Sem.run_pure]
    rfl
  simp only [execOp, ho, hra, hcc, Sem.run_bind, key, Result.andThen_ok]
  rfl
 ·exact h.elim
end

end Go.Proofs.YtjbcnilllfaipaaGreat.Av

namespace Go.Proofs.YtjbcnilllfaipaaGreat.Av
open Go.RowKit

theorem KZ (cur : List Value) (o : Nat) (vs : List Value) (q : Nat) (hl : o + vs.length ≤ cur.length) : (cur.take o ++ vs ++ cur.drop (o + vs.length))[q]? = if o ≤ q ∧ q < o + vs.length then vs[q - o]? else cur[q]? := by
 have h1 : (cur.take o).length = o := by simp; omega
 rw [List.append_assoc, List.getElem?_append, h1]
 by_cases h2 : q < o
 ·rw [if_pos h2, if_neg (by omega), List.getElem?_take, if_pos h2]
 ·rw [if_neg h2, List.getElem?_append]
  by_cases h3 : q - o < vs.length
  ·rw [if_pos h3, if_pos (by omega)]
  ·rw [if_neg h3, if_neg (by omega)]
   simp only [List.getElem?_drop]
   congr 1; omega

theorem Gf {i n z : Nat} (h : i < n) : i * z + z ≤ n * z := by
 have := Nat.mul_le_mul_right z (show i + 1 ≤ n from h)
 rw [Nat.add_mul, Nat.one_mul] at this
 exact this

theorem Oa {e : AV} {off : Nat} {xs : List AV} (he : e.ok = true) (h1 : ∀ x ∈ xs, x.one = true) (hl : off + xs.length ≤ e.cells.length) : (e.Gd off xs).cells = lay e.cells off xs ∧ (e.Gd off xs).ok = true := by
 cases e with
 | agg cs => exact ⟨rfl, rfl⟩
 | _ =>
  simp only [AV.cells, List.length_cons, List.length_nil] at hl
  match xs, h1, hl with
  | [], _, hl =>
   simp only [AV.Gd, AV.cells, lay]
   have : off = 0 ∨ off = 1 := by simp at hl; omega
   rcases this with rfl | rfl <;> simp <;> exact he
  | [x], h1, hl =>
   have : off = 0 := by simp at hl; omega
   subst this
   simp only [AV.Gd, lay]
   rw [G0 (h1 x (by simp))]
   simp [AV.cells, AV.ok, h1 x (by simp)]
  | x :: y :: r, _, hl => simp at hl; omega

section
variable {P : Program} {E : Env} {S : Nat → Prop} {w : World} {μ : Mu} {hp : Hp} {fr : Nat → AV} {ρ : Operand → Value}

theorem Ab3 {o : Oper} {t : TypeId} {a x : Operand} {ia ix : Ax} {n : Nat} {K : AV → Hp → Prop} (ho : o.op = .store t a x) (hn : B4 P t = some n) (ha : AB a = some ia) (hx : AB x = some ix)
  (h : Lj hp n (ia.ev fr) (ix.ev fr) fun hp => K (.tup []) hp) (hw : WI E S w μ hp) (hf : Fits S w μ fr ρ o.op.operands.toList) : Bc P ρ o w (EU E S μ w K) := by
 unfold Lj at h
 split at h
 ·rename_i x0 k v i off e1
  split at h
  ·rename_i bx hk
   obtain ⟨⟨hver, hfz, hi, hok, hlen, hle⟩, h⟩ := h
   have hav := hf.one (x := a) (by simp [ho, Op.operands]) ha
   have hxv := hf.one (x := x) (by simp [ho, Op.operands]) hx
   rw [e1] at hav
   generalize hra : ρ a = va at hav
   cases hav with
   | ptr _ _ _ _ b cap esz hμ =>
    obtain ⟨B, hB, hz, hh⟩ := hw.box k bx hk
    have hB' := hB
    rw [hver, hμ] at hB
    cases hB
    obtain ⟨a1, a2, a3, cur, a4, a5, a6, a7, a8⟩ := hh
    obtain ⟨c1, c2⟩ := hxv.cells (AV.EX.1 hok)
    simp only at a5 a7 a8 hz
    rw [Fc hi] at hle h
    have hel := a8.1 _ (List.getElem_mem hi)
    have hvl : (ρ x).cells.toList.length = n := by rw [c1.1, hlen]
    have hstep := Gf (z := esz) (Nat.lt_of_lt_of_le hi a7)
    have hfit : i * esz + off + 0 + (ρ x).cells.toList.length ≤ cur.size := by rw [hvl, a5]; rw [hel.1] at hle; omega
    have hone : ∀ v ∈ (ρ x).cells.toList, v.oneCell' = true := fun v hv => by
     obtain ⟨j, hj⟩ := List.getElem?_of_mem hv
     have hjl : j < (ix.ev fr).cells.length := by rw [← c1.1]; exact (List.getElem?_eq_some_iff.1 hj).1
     exact (c1.2 j v _ hj (List.getElem?_eq_getElem hjl)).XW (c2 _ (List.getElem_mem hjl))
    have hr := CX.store (P := P) (o := i * esz + off) (ρ x).cells.toList 0 cur w a4 hfit hone
    generalize hcur' : (cur.toList.take (i * esz + off + 0) ++ (ρ x).cells.toList ++ cur.toList.drop (i * esz + off + 0 + (ρ x).cells.toList.length)).toArray = cur' at hr
    have Aw : ∀ q : Nat, cur'[q]? = if i * esz + off ≤ q ∧ q < i * esz + off + n then (ρ x).cells.toList[q - (i * esz + off)]? else cur[q]? := fun q => by
     rw [← hcur']
     have := KZ cur.toList (i * esz + off) (ρ x).cells.toList q (by simpa using hfit)
     rw [hvl] at this
     simpa [hvl] using this
    have hsz' : cur'.size = cur.size := by
     rw [← hcur']; simp at hfit ⊢; omega
    have hek : bx.es[i].ok = true := by
     by_cases hc : bx.es[i].isAgg = true
     ·simp [AV.ok, hc]
     ·have : bx.es[i].cells = [bx.es[i]] := by cases hq : bx.es[i] <;> first | rfl | (rw [hq] at hc; simp [AV.isAgg] at hc)
      have h1 := hel.2 bx.es[i] (by rw [this]; simp)
      simp [AV.ok, h1]
    obtain ⟨d1, d2⟩ := Oa (off := off) hek c2 (by rw [hlen]; exact hle)
    have hlies : Et S w μ cur' esz (bx.es.set i (bx.es[i].Gd off (ix.ev fr).cells)) := by
     refine ⟨fun e he => ?_, fun i' j e y p q => ?_⟩
     ·rcases List.mem_or_eq_of_mem_set he with he | he
      ·exact a8.1 e he
      ·subst he
       rw [d1, Sq _ _ _ (by rw [hlen]; exact hle)]
       exact ⟨hel.1, Sp hel.2 c2⟩
     ·rw [Aw]
      by_cases hii : i' = i
      ·subst hii
       rw [List.getElem?_set_self hi] at p
       cases p
       rw [d1, Sr _ _ _ _ (by rw [hlen]; exact hle), hlen] at q
       by_cases hj : off ≤ j ∧ j < off + n
       ·rw [if_pos (by omega)]
        rw [if_pos hj] at q
        have hjl : j - off < (ρ x).cells.toList.length := by omega
        refine ⟨_, ?_, c1.2 (j - off) _ y (List.getElem?_eq_getElem hjl) q⟩
        rw [show i' * esz + j - (i' * esz + off) = j - off by omega]
        exact List.getElem?_eq_getElem hjl
       ·rw [if_neg (by omega)]
        rw [if_neg hj] at q
        exact a8.2 i' j _ y (List.getElem?_eq_getElem hi) q
      ·rw [List.getElem?_set_ne (Ne.symm hii)] at p
       have hj : j < esz := by
        rw [← (a8.1 e (List.mem_of_getElem? p)).1]; exact (List.getElem?_eq_some_iff.1 q).1
       rw [if_neg]
       ·exact a8.2 i' j e y p q
       ·rw [hel.1] at hle
        rintro ⟨h1, h2⟩
        rcases Nat.lt_or_gt_of_ne hii with hlt | hlt
        ·have := Gf (z := esz) hlt; omega
        ·have := Gf (z := esz) hlt; omega
    have hW := hw.put (w' := w.setRow b cur') (μ' := μ) (k := k) (g := b) (bx := { bx with es := bx.es.set i (bx.es[i].Gd off (ix.ev fr).cells) }) (B := ⟨some b, cap, esz⟩) (cur := cur') rfl rfl rfl (by simp [World.setRow])
     (fun b' hb' hne => setRow_other w b b' _ hne) (Mu.le.refl _) hw.fresh (by simp only; rw [hver]; exact hμ) rfl hz hfz (a3 hfz) (a1 hfz) (a4.setRow hsz') (by simp only; rw [hsz']; exact a5) a6 (by simp; exact a7)
     (hlies.mono (fun _ h => h) (fun b' hb' => setRow_other w b b' _ (fun e => a3 hfz (e ▸ hb'))) (Mu.le.refl _))
     (fun j bj Bj hj hne hfj hBj => by
      intro e
      exact hw.apart j k bj bx Bj ⟨some b, cap, esz⟩ b hj hk hne hfj hfz hBj (by rw [hver]; exact hμ) e rfl)
    unfold Bc
    simp only [execOp, ho, hra, Instr.storeAt, Instr.sureAddr, Sem.run_bind, Sem.run_pure, Result.andThen_ok, storeVar, CV hn]
    have hvl' : (ρ x).cells.size = n := by simpa using hvl
    simp only [hvl', ne_eq, not_true_eq_false, if_false, hr, Result.andThen_ok, Sem.run_pure]
    exact ⟨_, _, S, μ, h, VR.tup #[] [] rfl (fun i v x p => by simp at p), hW.1, fun _ h => h, hW.2, Mu.le.refl _⟩
  ·exact h.elim
 ·exact h.elim
end

end Go.Proofs.YtjbcnilllfaipaaGreat.Av

namespace Go.Proofs.YtjbcnilllfaipaaGreat.Av
open Go.RowKit

section
variable {P : Program} {E : Env} {S : Nat → Prop} {w : World} {μ : Mu} {hp : Hp} {fr : Nat → AV} {ρ : Operand → Value}

theorem V7 (hw : WI E S w μ hp) {vx : Value} {x : AV} {es : List AV} (hv : VR S w μ vx x) (ht : GH hp x = some es) :
  (es = [] ∧ ∃ a c, vx = .slice a 0 c) ∨ ∃ b p cap esz, vx = .slice (some ⟨b, p, none⟩) es.length cap ∧ (∀ e ∈ es, e.cells.length = esz ∧ ∀ y ∈ e.cells, y.one = true) ∧
   ∀ i j e y, es[i]? = some e → e.cells[j]? = some y → ∃ v, w.cell? ⟨b, p + i * esz + j, none⟩ = some v ∧ VR S w μ v y := by
 unfold GH at ht
 split at ht
 ·cases ht
  cases hv with
  | sl0 a cap hc => exact .inl ⟨rfl, a, cap, rfl⟩
  | sl b p cap esz vs _ hS hl hm hzz hc hh =>
   refine .inr ⟨b, p, cap, esz, rfl, hzz, fun i j e y h1 h2 => ⟨vs i j, hc i j (List.getElem?_eq_some_iff.1 h1).1 ?_, hh i j e y h1 h2⟩⟩
   rw [← (hzz e (List.mem_of_getElem? h1)).1]; exact (List.getElem?_eq_some_iff.1 h2).1
 ·cases ht
  cases hv
  exact .inl ⟨rfl, none, 0, rfl⟩
 ·rename_i k v n
  split at ht
  ·rename_i bx hk
   split at ht
   ·rename_i hc
    cases ht
    cases hv with
    | row _ _ _ b cap esz hμ hnn hm =>
     obtain ⟨B, hB, hz, hh⟩ := hw.box k bx hk
     rw [hc.1, hμ] at hB
     cases hB
     obtain ⟨a1, a2, a3, cur, a4, a5, a6, a7, a8⟩ := hh
     refine .inr ⟨b, 0, cap, esz, by simp; omega, fun e he => a8.1 e (List.mem_of_mem_take he), fun i j e y h1 h2 => ?_⟩
     rw [List.getElem?_take] at h1
     split at h1
     ·obtain ⟨u, h3, h4⟩ := a8.2 i j e y h1 h2
      exact ⟨u, by rw [a4.cell, Nat.zero_add]; exact h3, h4⟩
     ·cases h1
    | JO _ _ cap esz hμ => exact .inl ⟨by simp, none, 0, rfl⟩
   ·cases ht
  ·cases ht
 ·cases ht

theorem Zi {b p esz : Nat} {es : List AV} (hz : ∀ e ∈ es, e.cells.length = esz ∧ ∀ y ∈ e.cells, y.one = true)
  (hc : ∀ i j e y, es[i]? = some e → e.cells[j]? = some y → ∃ v, w.cell? ⟨b, p + i * esz + j, none⟩ = some v ∧ VR S w μ v y) :
  ∃ news : List Value, news.length = es.length * esz ∧ (∀ q v, news[q]? = some v → w.cell? ((⟨b, p, none⟩ : Addr).add q) = some v) ∧ (∀ v ∈ news, v.oneCell' = true) ∧
   ∀ i j e y, es[i]? = some e → e.cells[j]? = some y → ∃ v, news[i * esz + j]? = some v ∧ VR S w μ v y := by
 have hq : ∀ q, q < es.length * esz → ∃ v y, w.cell? ⟨b, p + q, none⟩ = some v ∧ VR S w μ v y ∧ y.one = true := by
  intro q hq
  have hpos : 0 < esz := by
   rcases Nat.eq_zero_or_pos esz with h | h
   ·subst h; simp at hq
   ·exact h
  have hi : q / esz < es.length := (Nat.div_lt_iff_lt_mul hpos).2 hq
  have hj : q % esz < esz := Nat.mod_lt _ hpos
  have he := hz es[q / esz] (List.getElem_mem hi)
  have hj' : q % esz < (es[q / esz]).cells.length := by rw [he.1]; exact hj
  obtain ⟨v, h1, h2⟩ := hc (q / esz) (q % esz) _ _ (List.getElem?_eq_getElem hi) (List.getElem?_eq_getElem hj')
  refine ⟨v, _, ?_, h2, he.2 _ (List.getElem_mem hj')⟩
  rw [Nat.add_assoc, Nat.mul_comm, Nat.div_add_mod] at h1
  exact h1
 refine ⟨(List.range (es.length * esz)).map fun q => (w.cell? ⟨b, p + q, none⟩).getD undef, by simp, fun q v hv => ?_, fun v hv => ?_, fun i j e y h1 h2 => ?_⟩
 ·have hlt : q < es.length * esz := by have := (List.getElem?_eq_some_iff.1 hv).1; simpa using this
  obtain ⟨u, y, h1, _⟩ := hq q hlt
  simp [hlt, h1] at hv
  rw [EH, h1, hv]
 ·obtain ⟨q, hlt, rfl⟩ := List.mem_map.1 hv
  obtain ⟨u, y, h1, h2, h3⟩ := hq q (by simpa using hlt)
  simp only [h1, Option.getD_some]
  exact h2.XW h3
 ·obtain ⟨v, h3, h4⟩ := hc i j e y h1 h2
  have hi := (List.getElem?_eq_some_iff.1 h1).1
  have hj : j < esz := by rw [← (hz e (List.mem_of_getElem? h1)).1]; exact (List.getElem?_eq_some_iff.1 h2).1
  have hlt : i * esz + j < es.length * esz := by have := Gf (z := esz) hi; omega
  refine ⟨v, ?_, h4⟩
  rw [Nat.add_assoc] at h3
  simp [hlt, h3]

theorem Et.append {cur cur' : Array Value} {esz n : Nat} {es es' : List AV} {news : List Value} (h : Et S w μ cur esz es) (hn : n ≤ es.length) (hz : ∀ e ∈ es', e.cells.length = esz ∧ ∀ y ∈ e.cells, y.one = true)
  (hnew : ∀ i j e y, es'[i]? = some e → e.cells[j]? = some y → ∃ v, news[i * esz + j]? = some v ∧ VR S w μ v y) (h1 : ∀ q, q < n * esz → cur'[q]? = cur[q]?) (h2 : ∀ q, q < es'.length * esz → cur'[n * esz + q]? = news[q]?) :
  Et S w μ cur' esz (es.take n ++ es') := by
 have hlen : (es.take n).length = n := by simp; omega
 refine ⟨fun e he => ?_, fun i j e y p q => ?_⟩
 ·rcases List.mem_append.1 he with he | he
  ·exact h.1 e (List.mem_of_mem_take he)
  ·exact hz e he
 ·rw [List.getElem?_append, hlen] at p
  split at p
  ·rename_i hi
   rw [List.getElem?_take, if_pos hi] at p
   have hj : j < esz := by rw [← (h.1 e (List.mem_of_getElem? p)).1]; exact (List.getElem?_eq_some_iff.1 q).1
   rw [h1 _ (by have := Gf (z := esz) hi; omega)]
   exact h.2 i j e y p q
  ·rename_i hi
   have hi' := (List.getElem?_eq_some_iff.1 p).1
   have hj : j < esz := by rw [← (hz e (List.mem_of_getElem? p)).1]; exact (List.getElem?_eq_some_iff.1 q).1
   obtain ⟨v, h3, h4⟩ := hnew (i - n) j e y p q
   refine ⟨v, ?_, h4⟩
   have e1 : i * esz + j = n * esz + ((i - n) * esz + j) := by
    have : i = n + (i - n) := by omega
    rw [this, Nat.add_mul]; simp; omega
   rw [e1, h2 _ (by have := Gf (z := esz) hi'; omega)]
   exact h3

theorem Gs {size : Nat} {a : Option Addr} {m c : Nat} : (Builtin.firstCells size 0 (.slice a m c)).run P w = .ok #[] w := by
 cases a <;> simp [Builtin.firstCells, loadCells, loadCellsFrom]
theorem Ib {t ty e : TypeId} {i : TypeInfo} (ht : P.underlying t = some (.slice e)) (hi : P.info? e = some i) {base : Option Addr} {n cap : Nat} {a : Option Addr} {c : Nat} (hn : n ≤ cap) :
  (Builtin.append_ #[t, t] ty #[.slice base n cap, .slice a 0 c]).run P w = .ok (.slice base n cap) w := by
 cases base with
 | none => simp [Builtin.append_, run_underlying ht, sizeOf, typeInfo, hi, Builtin.lenOf, hn, Gs]
 | some b => simp [Builtin.append_, run_underlying ht, sizeOf, typeInfo, hi, Builtin.lenOf, hn, Gs, storeCells]

theorem Gk {o : Oper} {c : Call} {s x : Operand} {t : TypeId} (ho : o.op = .call c) (hc : c.callee = .builtin .append) (ha : c.args.toList = [s, x]) (hat : c.argTypes.toList = [t, t]) {v : Value} {w' : World}
  (hr : (Builtin.append_ #[t, t] o.type #[ρ s, ρ x]).run P w = .ok v w') {R : Value → World → Prop} (hR : R v w') : Bc P ρ o w R := by
 obtain ⟨callee, args, argTypes⟩ := c
 simp only at hc ha hat
 subst hc
 obtain ⟨al⟩ := args
 obtain ⟨tl⟩ := argTypes
 simp only at ha hat
 subst ha hat
 exact Bc.val (v := v) (w' := w') (by simp [execOp, ho, resolve, invoke, builtin, hr]) hR

theorem SH {o : Oper} {c : Call} {s x : Operand} {t t' : TypeId} (ho : o.op = .call c) (hc : c.callee = .builtin .append) (ha : c.args.toList = [s, x]) (hat : c.argTypes.toList = [t, t']) {v : Value} {w' : World}
  (hr : (Builtin.append_ #[t, t'] o.type #[ρ s, ρ x]).run P w = .ok v w') {R : Value → World → Prop} (hR : R v w') : Bc P ρ o w R := by
 obtain ⟨callee, args, argTypes⟩ := c
 simp only at hc ha hat
 subst hc
 obtain ⟨al⟩ := args
 obtain ⟨tl⟩ := argTypes
 simp only at ha hat
 subst ha hat
 exact Bc.val (v := v) (w' := w') (by simp [execOp, ho, resolve, invoke, builtin, hr]) hR
theorem Adh {o : Oper} {c : Call} {s x : Operand} {is ix : Ax} {t t' e : TypeId} {kn : IntKind} {k : Nat} {i : TypeInfo} {z : AV} {K : AV → Hp → Prop} (ho : o.op = .call c) (hc : c.callee = .builtin .append) (ha : c.args.toList = [s, x]) (hat : c.argTypes.toList = [t, t'])
  (hn : P.underlying t' = some (.int kn)) (he : Fo P t = some e) (hi : P.info? e = some i) (hz : Ep P e = some z) (hs : AB s = some is) (hx : AB x = some ix) (hcl : z.cells.length = i.size) (hpos : 0 < i.size)
  (h : (IOp.Vx k e i.bytes z is ix).sem P fr hp K) (hw : WI E S w μ hp) (hf : Fits S w μ fr ρ o.op.operands.toList) : Bc P ρ o w (EU E S μ w K) := by
 have hu := Kt he
 obtain ⟨zv, hzi, hzv⟩ : ∃ zv, i.zero = some zv ∧ VR S w μ zv z ∧ z.ok = true := by
  unfold Ep at hz
  rw [hi] at hz
  cases hzz : i.zero with
  | none => simp [hzz] at hz
  | some zv =>
   simp only [Option.bind_some, hzz] at hz
   exact ⟨zv, rfl, Ij (S := S) (w := w) (μ := μ) hz⟩
 have hops : ∀ y, y ∈ [s, x] → y ∈ o.op.operands.toList := fun y hy => by simp only [ho, Op.operands, Call.operands, hc, Array.toList_append, ha]; simpa using hy
 have hsv := hf.one (x := s) (hops s (by simp)) hs
 have hxv := hf.one (x := x) (hops x (by simp)) hx
 simp only [IOp.sem, Y1] at h
 split at h
 ·rename_i e1 kk n e2 e3
  obtain ⟨⟨h0, h1, h2⟩, h⟩ := h
  rw [e2] at hsv
  rw [e3] at hxv
  generalize hrs : ρ s = va at hsv
  generalize hrx : ρ x = vb at hxv
  cases hsv
  cases hxv
  obtain ⟨m, rfl⟩ := Int.eq_ofNat_of_zero_le (Int.le_of_lt h0)
  have hm0 : 0 < m := by
   have h0 : (0 : Int) < (m : Int) := h0
   omega
  have hm1 : m ≤ 1099511627776 := by
   have h2 : (m : Int) ≤ 1099511627776 := h2
   omega
  have h1' : m * i.bytes ≤ 140737488355328 := by
   have e : (m : Int) * (i.bytes : Int) = ((m * i.bytes : Nat) : Int) := (Int.natCast_mul _ _).symm
   have h1 : (m : Int) * (i.bytes : Int) ≤ 140737488355328 := h1
   rw [e] at h1
   generalize m * i.bytes = q at h1 ⊢
   omega
  simp only [Int.toNat_natCast] at h
  have hzs : zv.cells.size = i.size := by have := (hzv.1.cells (AV.EX.1 hzv.2)).1.1; rw [← hcl]; simpa using this
  have hr := Lib.run_append_grow_zeros (P := P) w t t' o.type e i zv kk kn hu hn hi hzi none 0 0 [] (by exact run_firstCells_none _ i.size 0 0 0) m hm0 hpos (by omega) (by omega) (by omega) (growslice_fits (by omega) (by rw [Nat.zero_add]; exact h1'))
  obtain ⟨m0, hm00⟩ : ∃ m0, m0 = 0 + m := ⟨_, rfl⟩
  have hm01 : m0 = m := by omega
  rw [← hm00] at hr
  have hge := grownCap_ge w m0 0 e
  have hcm := grownCap_le_maxLen w m0 0 e (by unfold maxLen; omega)
  have lz := Et.W9 hzv.1 hzv.2 m
  rw [hcl, ← hzs] at lz
  obtain ⟨v, a, b, cc⟩ := hw.F6 (w' := w.drew.alloc (.cells (([] : List Value).toArray ++ Builtin.zeroCells zv.cells m ++ Builtin.zeroCells zv.cells (grownCap w m0 0 e - m0)) e)) rfl rfl rfl (by simp) (fun b hb => Below.heap_alloc w.drew _ b hb) (heap_alloc_new w.drew _)
   (cap := grownCap w m0 0 e) (esz := zv.cells.size) (es := List.replicate m z) (by simp only [Array.size_append, List.size_toArray, size_zeroCells, List.length_nil, Nat.zero_add, ← Nat.add_mul]; congr 1; omega) hcm (by simp; omega)
   ⟨lz.1, fun i' j f y p q => (by
    obtain ⟨u, hu1, hu2⟩ := lz.2 i' j f y p q
    refine ⟨u, ?_, hu2⟩
    have hlt := (Array.getElem?_eq_some_iff.1 hu1).1
    rw [Array.getElem?_append_left (by simp only [Array.size_append, List.size_toArray, size_zeroCells, List.length_nil, Nat.zero_add]; simpa using hlt), Array.getElem?_append_right (by simp)]
    simpa [Builtin.zeroCells] using hu1)⟩ k
  rw [hcl, ← hzs] at h
  refine SH ho hc ha hat (by rw [hrs, hrx]; exact hr) ⟨_, _, S, _, h v, ?_, a, fun _ h => h, b, cc⟩
  rw [hm01]
  rw [hm01] at hge hcm
  exact .row k v m _ _ _ (Mu.BR _ _ _ _) hge hcm
 ·exact h.elim
theorem AcF {A B C : List Value} {q : Nat} (h : q < A.length) : (A ++ B ++ C)[q]? = A[q]? := by
 rw [List.append_assoc, List.getElem?_append_left h]
theorem Abo {A B C : List Value} {q : Nat} (h : q < B.length) : (A ++ B ++ C)[A.length + q]? = B[q]? := by
 rw [List.append_assoc, List.getElem?_append_right (by omega), show A.length + q - A.length = q by omega, List.getElem?_append_left h]

theorem YU {o : Oper} {c : Call} {s x : Operand} {t e : TypeId} {k : Nat} {i : TypeInfo} {zc : Value} {K : AV → Hp → Prop} (ho : o.op = .call c) (hc : c.callee = .builtin .append) (ha : c.args.toList = [s, x]) (hat : c.argTypes.toList = [t, t])
  (hu : P.underlying t = some (.slice e)) (hi : P.info? e = some i) (hzi : i.zero = some zc) (hzv : zc.cells.size = i.size) (hw : WI E S w μ hp) (hrs : ρ s = .slice none 0 0) {es : List AV}
  (hby : es.length * i.bytes ≤ 140737488355328) (hml : es.length ≤ maxLen) (h : ∀ v, K (.row k v es.length) ((k, ⟨v, false, e, i.size, es⟩) :: hp))
  (htc : (es = [] ∧ ∃ a c, ρ x = .slice a 0 c) ∨ (es ≠ [] ∧ ∃ b p cap, ρ x = .slice (some ⟨b, p, none⟩) es.length cap ∧ (∀ e ∈ es, e.cells.length = i.size ∧ ∀ y ∈ e.cells, y.one = true) ∧
   ∃ news : List Value, news.length = es.length * i.size ∧ (∀ q v, news[q]? = some v → w.cell? ((⟨b, p, none⟩ : Addr).add q) = some v) ∧ (∀ v ∈ news, v.oneCell' = true) ∧
    ∀ a j e y, es[a]? = some e → e.cells[j]? = some y → ∃ v, news[a * i.size + j]? = some v ∧ VR S w μ v y)) : Bc P ρ o w (EU E S μ w K) := by
 rcases htc with ⟨h0, a, cc, hrx⟩ | ⟨hne, b, p, cap, hrx, hzz, news, n1, n2, n3, n4⟩
 ·subst h0
  obtain ⟨N, hN0, hN, _⟩ := hw.fresh
  have hle : Mu.le μ (μ.put k N ⟨none, 0, i.size⟩) := Mu.ML (hN k N (Nat.le_refl _))
  refine Gk ho hc ha hat (v := .slice none 0 0) (w' := w) (by rw [hrs, hrx]; exact Ib hu hi (Nat.le_refl _)) ⟨_, _, S, _, h N, .JO k N 0 i.size (Mu.BR _ _ _ _), ?_, fun _ h => h, Cc.refl _ _, hle⟩
  have hget' : ∀ j, Aw ((k, (⟨N, false, e, i.size, []⟩ : Box)) :: hp) j = if k = j then some ⟨N, false, e, i.size, []⟩ else Aw hp j := fun j => rfl
  have hold : ∀ j bj, Aw hp j = some bj → ∀ B', (μ.put k N ⟨none, 0, i.size⟩) j bj.ver = some B' → μ j bj.ver = some B' := fun j bj hj B' hB' => by
   obtain ⟨B0, h0, _⟩ := hw.box j bj hj
   have := hle _ _ _ h0
   rw [this] at hB'; cases hB'; exact h0
  refine ⟨hw.ext, hw.lt, hw.base, hw.new, Mu.GX hN0 hw.fresh, fun j bj hj => ?_, ?_, hw.le.trans hle⟩
  ·rw [hget'] at hj
   by_cases hkj : k = j
   ·rw [if_pos hkj] at hj; cases hj; subst hkj
    exact ⟨_, Mu.BR _ _ _ _, rfl, rfl⟩
   ·rw [if_neg hkj] at hj
    obtain ⟨B0, h0, hz0, hh⟩ := hw.box j bj hj
    refine ⟨B0, hle _ _ _ h0, hz0, ?_⟩
    cases hbl : B0.blk with
    | none => rw [hbl] at hh; exact hh
    | some b =>
     rw [hbl] at hh
     obtain ⟨a1, a2, a3, cu, a4, a5, a6, a7, a8⟩ := hh
     exact ⟨a1, a2, a3, cu, a4, a5, a6, a7, a8.mono (fun _ h => h) (Cc.refl _ _) hle⟩
  ·intro j j' bj bj' Bj Bj' b hj hj' hne hf1 hf2 hBj hBj' hbl
   rw [hget'] at hj hj'
   by_cases hkj : k = j
   ·rw [if_pos hkj] at hj; cases hj; subst hkj
    rw [Mu.BR] at hBj; cases hBj; cases hbl
   ·rw [if_neg hkj] at hj
    by_cases hkj' : k = j'
    ·rw [if_pos hkj'] at hj'; cases hj'; subst hkj'
     rw [Mu.BR] at hBj'; cases hBj'; simp
    ·rw [if_neg hkj'] at hj'
     exact hw.apart j j' bj bj' Bj Bj' b hj hj' hne hf1 hf2 (hold j bj hj _ hBj) (hold j' bj' hj' _ hBj') hbl
 ·have hm0 : 0 < es.length := List.length_pos_iff.2 hne
  have h48 : es.length * i.bytes ≤ 281474976710656 := by generalize es.length * i.bytes = q at *; omega
  have h63 : (es.length : Int) ≤ 9223372036854775807 := by unfold maxLen at hml; omega
  have hr := run_append_nil (P := P) w t o.type e i zc hu hi hzi ⟨b, p, none⟩ es.length cap news n1 n2 hm0 h63 h48
  have hge := grownCap_ge w es.length 0 e
  have hcm := grownCap_le_maxLen w es.length 0 e (by omega)
  obtain ⟨v, w1, w2, w3⟩ := hw.F6 (w' := w.drew.alloc (.cells (news.toArray ++ Builtin.zeroCells zc.cells (grownCap w es.length 0 e - es.length)) e)) rfl rfl rfl (by simp) (fun b hb => Below.heap_alloc w.drew _ b hb) (heap_alloc_new w.drew _) (cap := grownCap w es.length 0 e) (esz := i.size) (es := es)
   (by simp only [Array.size_append, List.size_toArray, size_zeroCells, hzv, n1, ← Nat.add_mul]; congr 1; omega) hcm (by omega)
   (by
    have := Et.append (S := S) (w := w) (μ := μ) (cur := #[]) (cur' := news.toArray ++ Builtin.zeroCells zc.cells (grownCap w es.length 0 e - es.length)) (esz := i.size) (n := 0) (es := []) (es' := es) (news := news) ⟨by simp, by simp⟩ (Nat.le_refl _) hzz n4 (fun q hq => by simp at hq)
     (fun q hq => by
      rw [Nat.zero_mul, Nat.zero_add, Array.getElem?_append_left (by simp [n1]; omega)]
      simp)
    simpa using this) k
  refine Gk ho hc ha hat (by rw [hrs, hrx]; exact hr) ⟨_, _, S, _, h v, ?_, w1, fun _ h => h, w2, w3⟩
  exact .row k v _ _ _ i.size (Mu.BR _ _ _ _) (by omega) hcm

theorem Aaa {o : Oper} {c : Call} {s x : Operand} {is ix : Ax} {t e : TypeId} {k : Nat} {i : TypeInfo} {z : AV} {K : AV → Hp → Prop} (ho : o.op = .call c) (hc : c.callee = .builtin .append) (ha : c.args.toList = [s, x]) (hat : c.argTypes.toList = [t, t])
  (he : Fo P t = some e) (hi : P.info? e = some i) (hz : Ep P e = some z) (hs : AB s = some is) (hx : AB x = some ix) (hcl : z.cells.length = i.size) (hpos : 0 < i.size)
  (h : Qc hp k e i.size i.bytes (is.ev fr) ((GH hp (ix.ev fr)).map (·.map (AV.pur hp))) K) (hw : WI E S w μ hp) (hf : Fits S w μ fr ρ o.op.operands.toList) : Bc P ρ o w (EU E S μ w K) := by
 have hu := Kt he
 obtain ⟨zc, hzi, hzv⟩ : ∃ zv, i.zero = some zv ∧ zv.cells.size = i.size := by
  unfold Ep at hz
  rw [hi] at hz
  cases hzz : i.zero with
  | none => simp [hzz] at hz
  | some zv =>
   simp only [Option.bind_some, hzz] at hz
   have := (Ij (S := fun _ => True) (w := default) (μ := mu0) hz)
   have h2 := (this.1.cells (AV.EX.1 this.2)).1.1
   exact ⟨zv, rfl, by rw [← hcl]; simpa using h2⟩
 have hops : ∀ y, y ∈ [s, x] → y ∈ o.op.operands.toList := fun y hy => by simp only [ho, Op.operands, Call.operands, hc, Array.toList_append, ha]; simpa using hy
 have hsv := hf.one (x := s) (hops s (by simp)) hs
 have hxv := hf.one (x := x) (hops x (by simp)) hx
 cases htl : GH hp (ix.ev fr) with
 | none => rw [htl] at h; unfold Qc at h; split at h <;> first | exact h.elim | (rename_i hh; simp at hh)
 | some es0 =>
  rw [htl] at h
  simp only [Option.map_some] at h
  generalize hes : es0.map (AV.pur hp) = es at h
  have hlen0 : es.length = es0.length := by rw [← hes]; simp
  have hnil0 : es = [] ↔ es0 = [] := by rw [← hes]; simp
  have hpurz : ∀ {esz : Nat}, (∀ e ∈ es0, e.cells.length = esz ∧ ∀ y ∈ e.cells, y.one = true) → ∀ e ∈ es, e.cells.length = esz ∧ ∀ y ∈ e.cells, y.one = true := by
   intro esz hh f hf'
   rw [← hes] at hf'
   obtain ⟨e0, h0, rfl⟩ := List.mem_map.1 hf'
   have hk : e0.ok = true := by
    by_cases hq : e0.isAgg = true
    ·simp [AV.ok, hq]
    ·have : e0.cells = [e0] := by cases e0 <;> first | rfl | (simp [AV.isAgg] at hq)
     simp [AV.ok, (hh e0 h0).2 e0 (by rw [this]; simp)]
   rw [Kv hk]
   refine ⟨by simpa using (hh e0 h0).1, fun y hy => ?_⟩
   obtain ⟨y0, hy0, rfl⟩ := List.mem_map.1 hy
   exact JS ((hh e0 h0).2 y0 hy0)
  have hpurv : ∀ {esz : Nat} {news : List Value}, (∀ e ∈ es0, e.cells.length = esz ∧ ∀ y ∈ e.cells, y.one = true) → (∀ i j e y, es0[i]? = some e → e.cells[j]? = some y → ∃ v, news[i * esz + j]? = some v ∧ VR S w μ v y) →
    ∀ i j e y, es[i]? = some e → e.cells[j]? = some y → ∃ v, news[i * esz + j]? = some v ∧ VR S w μ v y := by
   intro esz news hh hn i j f y p q
   rw [← hes] at p
   simp only [List.getElem?_map, Option.map_eq_some_iff] at p
   obtain ⟨e0, h0, rfl⟩ := p
   have hk : e0.ok = true := by
    by_cases hq : e0.isAgg = true
    ·simp [AV.ok, hq]
    ·have : e0.cells = [e0] := by cases e0 <;> first | rfl | (simp [AV.isAgg] at hq)
     simp [AV.ok, (hh e0 (List.mem_of_getElem? h0)).2 e0 (by rw [this]; simp)]
   rw [Kv hk] at q
   simp only [List.getElem?_map, Option.map_eq_some_iff] at q
   obtain ⟨y0, hy0, rfl⟩ := q
   obtain ⟨v, h1, h2⟩ := hn i j e0 y0 h0 hy0
   exact ⟨v, h1, h2.AR hw⟩
  have htc : (∀ f ∈ es, f.cells.length = i.size) → (es = [] ∧ ∃ a c, ρ x = .slice a 0 c) ∨ (es ≠ [] ∧ ∃ b p cap, ρ x = .slice (some ⟨b, p, none⟩) es.length cap ∧ (∀ e ∈ es, e.cells.length = i.size ∧ ∀ y ∈ e.cells, y.one = true) ∧
   ∃ news : List Value, news.length = es.length * i.size ∧ (∀ q v, news[q]? = some v → w.cell? ((⟨b, p, none⟩ : Addr).add q) = some v) ∧ (∀ v ∈ news, v.oneCell' = true) ∧
    ∀ a j e y, es[a]? = some e → e.cells[j]? = some y → ∃ v, news[a * i.size + j]? = some v ∧ VR S w μ v y) := by
   intro hez
   rcases V7 hw hxv htl with ⟨h0, a, cc, hrx⟩ | ⟨b, p, cap, esz, hrx, hzz, hcc⟩
   ·exact .inl ⟨hnil0.2 h0, a, cc, hrx⟩
   ·by_cases hn : es = []
    ·refine .inl ⟨hn, some ⟨b, p, none⟩, cap, ?_⟩
     rw [hrx, ← hlen0, hn]; rfl
    ·have hlt : 0 < es.length := List.length_pos_iff.2 hn
     have hesz : esz = i.size := by rw [← hez es[0] (List.getElem_mem hlt), (hpurz hzz _ (List.getElem_mem hlt)).1]
     subst hesz
     obtain ⟨news, n1, n2, n3, n4⟩ := Zi hzz hcc
     exact .inr ⟨hn, b, p, cap, by rw [hrx, hlen0], hpurz hzz, news, by rw [n1, hlen0], n2, n3, hpurv hzz n4⟩
  unfold Qc at h
  split at h
  ·rename_i es' e1 e2
   cases e2
   obtain ⟨⟨hez, hby, hml⟩, h⟩ := h
   rw [e1] at hsv
   generalize hrs : ρ s = va at hsv
   cases hsv
   exact YU ho hc ha hat hu hi hzi hzv hw hrs hby hml h (htc hez)
  ·rename_i j v n es' e1 e2
   cases e2
   split at h
   ·rename_i bx hk
    obtain ⟨⟨hver, hfz, hty, hbz, hne, hez, hby, hml⟩, h⟩ := h
    rw [e1] at hsv
    generalize hrs : ρ s = va at hsv
    obtain ⟨B, hB, hz', hh⟩ := hw.box j bx hk
    cases hsv with
    | JO _ _ cap esz hμ =>
     rw [hver, hμ] at hB
     cases hB
     refine YU (k := j) ho hc ha hat hu hi hzi hzv hw hrs (by simpa using hby) (by simpa using hml) (fun v => ?_) (htc hez)
     have := h v
     simpa using this
    | row _ _ _ b cap esz hμ hnc hcm =>
     rw [hver, hμ] at hB
     cases hB
     obtain ⟨a1, a2, a3, cur, a4, a5, a6, a7, a8⟩ := hh
     simp only at hz' a5 a7 a8
     have hesz : esz = i.size := hz'.trans hbz
     subst hesz
     rw [hty] at a4
     have hoth : ∀ j' bj Bj, Aw hp j' = some bj → j' ≠ j → bj.frz = false → μ j' bj.ver = some Bj → Bj.blk ≠ some b := fun j' bj Bj hj' hne' hf' hBj e' =>
      hw.apart j' j bj bx Bj ⟨some b, cap, i.size⟩ b hj' hk hne' hf' hfz hBj (by rw [hver]; exact hμ) e' rfl
     obtain ⟨N, hN0, hN, _⟩ := hw.fresh
     -- in place: the same block, a new version
     have inplace : ∀ (w' : World) (cur' : Array Value), w'.os = w.os → w'.tape = w.tape → w'.output = w.output → w.heap.size ≤ w'.heap.size → (∀ b', b' < w.heap.size → b' ≠ b → w'.heap[b']? = w.heap[b']?) → CX w' b cur' e →
       cur'.size = cap * i.size → n + es.length ≤ cap → Et S w μ cur' i.size (bx.es.take n ++ es) → EU E S μ w K (.slice (some ⟨b, 0, none⟩) (n + es.length) cap) w' := by
      intro w' cur' hos ht ho' hs hb hcur hsz hfit hl
      have hle : Mu.le μ (μ.put j N ⟨some b, cap, i.size⟩) := Mu.ML (hN j N (Nat.le_refl _))
      have hsame : Cc S w w' := fun b' hb' => hb b' (hw.lt b' hb') (fun e' => a3 hfz (e' ▸ hb'))
      have := hw.put (w' := w') (k := j) (g := b) (bx := ⟨N, false, e, i.size, bx.es.take n ++ es⟩) (B := ⟨some b, cap, i.size⟩) (cur := cur') hos ht ho' hs hb hle (Mu.GX hN0 hw.fresh) (Mu.BR _ _ _ _) rfl rfl rfl (a3 hfz) (a1 hfz) hcur hsz hcm (by simp; omega) (hl.mono (fun _ h => h) hsame hle) hoth
      exact ⟨_, _, S, _, h N, .row j N _ b cap i.size (Mu.BR _ _ _ _) hfit hcm, this.1, fun _ h => h, this.2, hle⟩
     rcases htc hez with ⟨h0, a, cc, hrx⟩ | ⟨hnn, b', p, cap', hrx, hzz, news, n1, n2, n3, n4⟩
     ·subst h0
      have := inplace w cur rfl rfl rfl (Nat.le_refl _) (fun _ _ _ => rfl) a4 a5 (by simpa using hnc) ⟨fun f hf' => a8.1 f (List.mem_of_mem_take (by simpa using hf')), fun i' j' f y p q => by
       simp only [List.append_nil, List.getElem?_take] at p
       split at p
       ·exact a8.2 i' j' f y p q
       ·cases p⟩
      exact Gk ho hc ha hat (by rw [hrs, hrx]; exact Ib hu hi hnc) (by simpa using this)
     ·by_cases hroom : n + es.length ≤ cap
      ·have hfit : n * i.size + news.length ≤ cur.size := by
        rw [n1, a5, ← Nat.add_mul]; exact Nat.mul_le_mul_right _ hroom
       have hr := CX.room (P := P) (ty := o.type) (sLen := n) (sCap := cap) hu hi a4 ⟨b', p, none⟩ es.length cap' news n1 n2 n3 hroom hfit
       refine Gk ho hc ha hat (by rw [hrs, hrx]; exact hr) (inplace (w.setRow b (cur.toList.take (n * i.size) ++ news ++ cur.toList.drop (n * i.size + news.length)).toArray) (cur.toList.take (n * i.size) ++ news ++ cur.toList.drop (n * i.size + news.length)).toArray rfl rfl rfl (by simp [World.setRow]) (fun b'' _ hne' => setRow_other w b b'' _ hne') (a4.setRow (by simp; omega)) (by simp; omega) hroom ?_)
       refine Et.append (cur := cur) (news := news) a8 hne hzz n4 (fun q hq => ?_) (fun q hq => ?_)
       ·have := KZ cur.toList (n * i.size) news q (by simpa using hfit)
        rw [if_neg (by omega)] at this
        simpa using this
       ·have := KZ cur.toList (n * i.size) news (n * i.size + q) (by simpa using hfit)
        rw [if_pos (by omega), show n * i.size + q - n * i.size = q by omega] at this
        simpa using this
      ·have holds : ∀ q v, (cur.toList.take (n * i.size))[q]? = some v → w.cell? ((⟨b, 0, none⟩ : Addr).add q) = some v := fun q v hv => by
        rw [EH, a4.cell, Nat.zero_add]
        rw [List.getElem?_take] at hv
        split at hv
        ·simpa using hv
        ·cases hv
       have hcur : n * i.size ≤ cur.size := by rw [a5]; exact Nat.mul_le_mul_right _ hnc
       have hol : (cur.toList.take (n * i.size)).length = n * i.size := by simp; omega
       have hr := run_append_grow (P := P) w t o.type e i zc hu hi hzi ⟨b, 0, none⟩ n cap (cur.toList.take (n * i.size)) hol holds ⟨b', p, none⟩ es.length cap' news n1 n2 (by omega) (by unfold maxLen at hml; omega) (growslice_fits (by omega) hby)
       have hge := grownCap_ge w (n + es.length) cap e
       have hcm' := grownCap_le_maxLen w (n + es.length) cap e (by omega)
       obtain ⟨v', w1, w2, w3⟩ := hw.F6 (w' := w.drew.alloc (.cells ((cur.toList.take (n * i.size)).toArray ++ news.toArray ++ Builtin.zeroCells zc.cells (grownCap w (n + es.length) cap e - (n + es.length))) e)) rfl rfl rfl (by simp) (fun b hb => Below.heap_alloc w.drew _ b hb) (heap_alloc_new w.drew _) (cap := grownCap w (n + es.length) cap e) (esz := i.size) (es := bx.es.take n ++ es)
        (by simp only [Array.size_append, List.size_toArray, size_zeroCells, hzv, n1, hol, ← Nat.add_mul]; congr 1; omega) hcm' (by simp; omega)
        (by
         refine Et.append (cur := cur) (news := news) a8 hne hzz n4 (fun q hq => ?_) (fun q hq => ?_)
         ·have := AcF (A := cur.toList.take (n * i.size)) (B := news) (C := (Builtin.zeroCells zc.cells (grownCap w (n + es.length) cap e - (n + es.length))).toList) (q := q) (by omega)
          rw [List.getElem?_take, if_pos hq] at this
          rw [← Array.getElem?_toList]
          simpa using this
         ·have := Abo (A := cur.toList.take (n * i.size)) (B := news) (C := (Builtin.zeroCells zc.cells (grownCap w (n + es.length) cap e - (n + es.length))).toList) (q := q) (by omega)
          rw [hol] at this
          rw [← Array.getElem?_toList]
          simpa using this) j
       refine Gk ho hc ha hat (by rw [hrs, hrx]; exact hr) ⟨_, _, S, _, ?_, .row j v' _ _ _ i.size (Mu.BR _ _ _ _) hge hcm', w1, fun _ h => h, w2, w3⟩
       have := h v'
       exact this
   ·exact h.elim
  ·exact h.elim

theorem UC (a b : Hp) (k : Nat) : Aw (a ++ b) k = match Aw a k with | some x => some x | none => Aw b k := by
 induction a with
 | nil => rfl
 | cons p r ih =>
  obtain ⟨j, x⟩ := p
  simp only [List.cons_append, Aw]
  split
  ·rfl
  ·exact ih
theorem MQ (hs : List Nat) (hp : Hp) (k : Nat) : Aw (BN hs hp) k = if hs.contains k then none else Aw hp k := by
 induction hp with
 | nil => simp [BN, Aw]
 | cons p r ih =>
  obtain ⟨j, x⟩ := p
  unfold BN at ih ⊢
  rw [List.filter_cons]
  by_cases hj : hs.contains j = true
  ·simp only [hj, Bool.not_true, Bool.false_eq_true, if_false, ih, Aw]
   by_cases hjk : j = k
   ·subst hjk; rw [if_pos hj, if_pos hj]
   ·rw [if_neg hjk]
  ·have hj' : hs.contains j = false := by simpa using hj
   simp only [hj', Bool.not_false, if_true, Aw, ih]
   by_cases hjk : j = k
   ·subst hjk; rw [if_pos rfl, if_pos rfl, if_neg hj]
   ·rw [if_neg hjk, if_neg hjk]
theorem Abl (hs : List Nat) (hp : Hp) (k : Nat) : Aw (I5 hs hp) k = if hs.contains k then Aw hp k else none := by
 induction hs with
 | nil => rfl
 | cons j r ih =>
  unfold I5 at ih ⊢
  rw [List.filterMap_cons]
  cases hj : Aw hp j with
  | none =>
   simp only [Option.map_none, ih, List.contains_cons]
   by_cases hjk : k = j
   ·subst hjk; simp [hj]
   ·simp [hjk]
  | some b =>
   simp only [Option.map_some, Aw, ih, List.contains_cons]
   by_cases hjk : j = k
   ·subst hjk; simp [hj]
   ·rw [if_neg hjk]; simp [Ne.symm hjk]

theorem U9 {f : FuncId} {args : List AV} {hs : List Nat} {Post : AV → Hp → Prop} (hc : Ay P f args (I5 hs hp) Post) (hw : WI E S w μ hp) {vs : List Value} (hv : VRs S w μ vs args) {K : AV → Hp → Prop} (hk : ∀ r hp', Post r hp' → K r (hp' ++ BN hs hp)) :
  Calls P f vs.toArray w fun e w' => ∃ v, e = .returned v ∧ EU E S μ w K v w' := by
 obtain ⟨_, hc⟩ := hc
 have hsg : ∀ k bx, Aw (I5 hs hp) k = some bx → Aw hp k = some bx ∧ hs.contains k = true := fun k bx h => by
  rw [Abl] at h
  split at h
  ·exact ⟨h, by assumption⟩
  ·cases h
 have hown : ∀ b, Hr μ (I5 hs hp) b → (E.w0.heap.size ≤ b ∨ E.own b) ∧ ¬ S b ∧ b < w.heap.size := by
  rintro b ⟨k, bx, B, h1, h2, h3, h4⟩
  obtain ⟨B0, hB, hz, hh⟩ := hw.box k bx (hsg k bx h1).1
  rw [h3] at hB; cases hB
  rw [h4] at hh
  obtain ⟨a1, a2, a3, cur, a4, _⟩ := hh
  exact ⟨a1 h2, a3 h2, a4.lt⟩
 have hW : WI ⟨w, S, Hr μ (I5 hs hp), μ⟩ S w μ (I5 hs hp) := by
  refine ⟨⟨rfl, rfl, rfl, Nat.le_refl _, fun _ _ _ => rfl⟩, hw.lt, fun _ h => h, fun _ h => .inl h, hw.fresh, fun k bx hk => ?_, fun k k' bx bx' B B' b hk hk' => hw.apart k k' bx bx' B B' b (hsg _ _ hk).1 (hsg _ _ hk').1, Mu.le.refl _⟩
  obtain ⟨B, hB, hz, hh⟩ := hw.box k bx (hsg k bx hk).1
  refine ⟨B, hB, hz, ?_⟩
  cases hbl : B.blk with
  | none => rw [hbl] at hh; exact hh
  | some b =>
   rw [hbl] at hh
   obtain ⟨a1, a2, a3, cur, a4, a5, a6, a7, a8⟩ := hh
   exact ⟨fun hfz => .inr ⟨k, bx, B, hk, hfz, hB, hbl⟩, a2, a3, cur, a4, a5, a6, a7, a8⟩
 refine (hc S w μ vs hW hv).mono fun e w' ⟨v, r, hp', S', μ', he, hpost, hvr, hw'⟩ => ⟨v, he, r, _, S', μ', hk r hp' hpost, hvr, ?_, hw'.base, ?_, hw'.le⟩
 case refine_2 => exact fun b hb => hw'.ext.block b (hw.lt b hb) (fun ho => (hown b ho).2.1 hb)
 have hsame : Cc S w w' := fun b hb => hw'.ext.block b (hw.lt b hb) (fun ho => (hown b ho).2.1 hb)
 have hle : Mu.le μ μ' := hw'.le
 have hext := hw'.ext
 have hsz : w.heap.size ≤ w'.heap.size := hext.size
 have hold : ∀ j bj, Aw hp j = some bj → ∀ B', μ' j bj.ver = some B' → μ j bj.ver = some B' := fun j bj hj B' hB' => by
  obtain ⟨B0, h0, _⟩ := hw.box j bj hj
  have := hle _ _ _ h0
  rw [this] at hB'; cases hB'; exact h0
 have split : ∀ k bx, Aw (hp' ++ BN hs hp) k = some bx → Aw hp' k = some bx ∨ (Aw hp' k = none ∧ Aw hp k = some bx ∧ hs.contains k = false) := fun k bx h => by
  rw [UC] at h
  cases hk : Aw hp' k with
  | some x => rw [hk] at h; exact .inl h
  | none =>
   rw [hk] at h
   simp only [MQ] at h
   split at h
   ·cases h
   ·rename_i hn; exact .inr ⟨rfl, h, by simpa using hn⟩
 -- the block of an own row that was not handed over
 have rest : ∀ k bx B b, Aw hp k = some bx → hs.contains k = false → μ k bx.ver = some B → B.blk = some b → bx.frz = false → ¬ Hr μ (I5 hs hp) b ∧ ¬ S b ∧ b < w.heap.size := by
  intro k bx B b h1 h2 h3 h4 h5
  obtain ⟨B0, hB, hz, hh⟩ := hw.box k bx h1
  rw [h3] at hB; cases hB
  rw [h4] at hh
  obtain ⟨a1, a2, a3, cur, a4, _⟩ := hh
  refine ⟨?_, a3 h5, a4.lt⟩
  rintro ⟨k', bx', B', c1, c2, c3, c4⟩
  obtain ⟨c1, c5⟩ := hsg _ _ c1
  exact hw.apart k' k bx' bx B' B b c1 h1 (fun e => by subst e; rw [c5] at h2; cases h2) c2 h5 c3 h3 c4 h4
 have newB : ∀ b, S' b → S b ∨ w.heap.size ≤ b ∨ Hr μ (I5 hs hp) b := fun b hb => hw'.new b hb
 refine ⟨⟨hext.os.trans hw.ext.os, hext.tape.trans hw.ext.tape, hext.output.trans hw.ext.output, Nat.le_trans hw.ext.size hsz, fun b hb hn => ?_⟩, hw'.lt, fun b hb => hw'.base b (hw.base b hb), fun b hb => ?_, hw'.fresh, fun k bx hk => ?_, ?_, hw.le.trans hle⟩
 ·refine (hext.block b (Nat.lt_of_lt_of_le hb hw.ext.size) (fun ho => ?_)).trans (hw.ext.block b hb hn)
  rcases (hown b ho).1 with h | h
  ·omega
  ·exact hn h
 ·rcases newB b hb with h | h | h
  ·exact hw.new b h
  ·exact .inr (.inl (Nat.le_trans hw.ext.size h))
  ·exact .inr (hown b h).1
 ·rcases split k bx hk with h | ⟨_, h, hn⟩
  ·obtain ⟨B, hB, hz, hh⟩ := hw'.box k bx h
   refine ⟨B, hB, hz, ?_⟩
   cases hbl : B.blk with
   | none => rw [hbl] at hh; exact hh
   | some b =>
    rw [hbl] at hh
    obtain ⟨a1, a2, a3, cur, a4, a5, a6, a7, a8⟩ := hh
    refine ⟨fun hf => ?_, a2, a3, cur, a4, a5, a6, a7, a8⟩
    rcases a1 hf with h | h
    ·exact .inl (Nat.le_trans hw.ext.size h)
    ·exact (hown b h).1
  ·obtain ⟨B, hB, hz, hh⟩ := hw.box k bx h
   refine ⟨B, hle _ _ _ hB, hz, ?_⟩
   cases hbl : B.blk with
   | none => rw [hbl] at hh; exact hh
   | some b =>
    rw [hbl] at hh
    obtain ⟨a1, a2, a3, cur, a4, a5, a6, a7, a8⟩ := hh
    have hlt : b < w.heap.size := a4.lt
    have hno : ¬ Hr μ (I5 hs hp) b := by
     cases hf : bx.frz with
     | false => exact (rest k bx B b h hn hB hbl hf).1
     | true => exact fun ho => (hown b ho).2.1 (a2 hf)
    refine ⟨a1, fun hf => hw'.base b (a2 hf), fun hf hs' => ?_, cur, a4.of (hext.block b hlt hno), a5, a6, a7, a8.mono hw'.base hsame hle⟩
    rcases newB b hs' with h1 | h1 | h1
    ·exact a3 hf h1
    ·omega
    ·exact hno h1
 ·-- own rows lie apart
  have cross : ∀ k k' bx bx' B B' b, Aw hp' k = some bx → Aw hp k' = some bx' → hs.contains k' = false → bx.frz = false → bx'.frz = false → μ' k bx.ver = some B → μ' k' bx'.ver = some B' → B.blk = some b → B'.blk ≠ some b := by
   intro k k' bx bx' B B' b h h' hn hf hf' hB hB' hbl hbl'
   obtain ⟨B0, hB0, hz, hh⟩ := hw'.box k bx h
   rw [hB] at hB0; cases hB0
   rw [hbl] at hh
   obtain ⟨a1, _⟩ := hh
   obtain ⟨c1, c2, c3⟩ := rest k' bx' B' b h' hn (hold k' bx' h' _ hB') hbl' hf'
   rcases a1 hf with h1 | h1
   ·exact absurd c3 (Nat.not_lt.2 h1)
   ·exact c1 h1
  intro k k' bx bx' B B' b hk hk' hne hf hf' hB hB' hbl
  rcases split k bx hk with h | ⟨_, h, hn⟩
  ·rcases split k' bx' hk' with h' | ⟨_, h', hn'⟩
   ·exact hw'.apart k k' bx bx' B B' b h h' hne hf hf' hB hB' hbl
   ·exact cross k k' bx bx' B B' b h h' hn' hf hf' hB hB' hbl
  ·rcases split k' bx' hk' with h' | ⟨_, h', hn'⟩
   ·exact fun hbl' => cross k' k bx' bx B' B b h' h hn hf' hf hB' hB hbl' hbl
   ·exact hw.apart k k' bx bx' B B' b h h' hne hf hf' (hold k bx h _ hB) (hold k' bx' h' _ hB') hbl

theorem VR.HN {S S' : Nat → Prop} {w : World} {μ : Mu} {v : Value} {x : AV} (h : VR S w μ v x) (hs : x.HN = true) : VR S' w μ v x := by
 cases h <;> first | (constructor; done) | (constructor <;> assumption) | (simp [AV.HN] at hs)
theorem VR.Mg {S S' : Nat → Prop} {w : World} {μ : Mu} {v : Value} {x : AV} (h : VR S w μ v x) (hs : x.Mg = true) : VR S' w μ v x := by
 cases x with
 | agg xs =>
  cases h with | agg cs _ hl h1 hh =>
  simp only [AV.Mg, List.all_eq_true] at hs
  exact .agg cs xs hl h1 fun i v x p q => (hh i v x p q).HN (hs x (Dd q))
 | _ => exact h.HN hs
theorem VR.free {S S' : Nat → Prop} {w : World} {μ : Mu} {v : Value} {x : AV} (h : VR S w μ v x) (hs : x.free = true) : VR S' w μ v x := by
 cases x with
 | tup xs =>
  cases h with | tup cs _ hl hh =>
  simp only [AV.free, List.all_eq_true] at hs
  exact .tup cs xs hl fun i v x p q => (hh i v x p q).Mg (hs x (Dd q))
 | _ => exact h.Mg hs
theorem SP {f : FuncId} {args : List AV} {ks : List Nat} {Post : AV → Hp → Prop} (hc : Ay P f (args.map (AV.Bv (Cy ks hp))) [] Post) (hw : WI E S w μ hp) {vs : List Value} (hv : VRs S w μ vs args) {K : AV → Hp → Prop} (hk : ∀ r hp', Post r hp' → (r.free = true ∧ Gi hp') ∧ K r (hp' ++ hp)) :
  Calls P f vs.toArray w fun e w' => ∃ v, e = .returned v ∧ EU E S μ w K v w' := by
 obtain ⟨_, hc⟩ := hc
 obtain ⟨S1, hw1, hS1⟩ := WI.Cy (S := S) ks hw
 have hv2 : VRs S1 w μ vs (args.map (AV.Bv (Cy ks hp))) := ⟨by simpa using hv.1, fun i v y p q => by
  simp only [List.getElem?_map, Option.map_eq_some_iff] at q
  obtain ⟨x, hx, rfl⟩ := q
  exact ((hv.2 i v x p hx).mono hS1 (Cc.refl _ _) (Mu.le.refl _)).Bv hw1⟩
 have hno : ∀ b, ¬ Hr μ [] b := by
  rintro b ⟨k, bx, B, h1, _⟩
  cases h1
 have hW : WI ⟨w, S1, Hr μ [], μ⟩ S1 w μ [] :=
  ⟨⟨rfl, rfl, rfl, Nat.le_refl _, fun _ _ _ => rfl⟩, hw1.lt, fun _ h => h, fun _ h => .inl h, hw.fresh, fun k bx hk => (by cases hk), fun k k' bx bx' B B' b hk => (by cases hk), Mu.le.refl _⟩
 refine (hc S1 w μ vs hW hv2).mono fun e w' ⟨v, r, hp', S', μ', he, hpost, hvr, hw'⟩ => ?_
 obtain ⟨⟨hfr, hfh⟩, hK⟩ := hk r hp' hpost
 have hsame : Cc S w w' := fun b hb => hw'.ext.block b (hw.lt b hb) (hno b)
 have hle : Mu.le μ μ' := hw'.le
 have hext := hw'.ext
 have hsz : w.heap.size ≤ w'.heap.size := hext.size
 have hold : ∀ j bj, Aw hp j = some bj → ∀ B', μ' j bj.ver = some B' → μ j bj.ver = some B' := fun j bj hj B' hB' => by
  obtain ⟨B0, h0, _⟩ := hw.box j bj hj
  have := hle _ _ _ h0
  rw [this] at hB'; cases hB'; exact h0
 have split : ∀ k bx, Aw (hp' ++ hp) k = some bx → Aw hp' k = some bx ∨ (Aw hp' k = none ∧ Aw hp k = some bx) := fun k bx h => by
  rw [UC] at h
  cases hk : Aw hp' k with
  | some x => rw [hk] at h; exact .inl h
  | none => rw [hk] at h; exact .inr ⟨rfl, h⟩
 have oldB : ∀ k bx B b, Aw hp k = some bx → μ k bx.ver = some B → B.blk = some b → b < w.heap.size := by
  intro k bx B b h1 h3 h4
  obtain ⟨B0, hB, hz, hh⟩ := hw.box k bx h1
  rw [h3] at hB; cases hB
  rw [h4] at hh
  obtain ⟨a1, a2, a3, cur, a4, _⟩ := hh
  exact a4.lt
 have newB : ∀ k bx B b, Aw hp' k = some bx → μ' k bx.ver = some B → B.blk = some b → w.heap.size ≤ b := by
  intro k bx B b h1 h3 h4
  obtain ⟨B0, hB, hz, hh⟩ := hw'.box k bx h1
  rw [h3] at hB; cases hB
  rw [h4] at hh
  obtain ⟨a1, _⟩ := hh
  exact (a1 (hfh k bx h1).1).resolve_right (hno b)
 refine ⟨v, he, r, _, S, μ', hK, hvr.free hfr, ?_, fun b hb => hb, hsame, hle⟩
 refine ⟨⟨hext.os.trans hw.ext.os, hext.tape.trans hw.ext.tape, hext.output.trans hw.ext.output, Nat.le_trans hw.ext.size hsz, fun b hb hn => (hext.block b (Nat.lt_of_lt_of_le hb hw.ext.size) (hno b)).trans (hw.ext.block b hb hn)⟩, fun b hb => Nat.lt_of_lt_of_le (hw.lt b hb) hsz, hw.base, hw.new, hw'.fresh, fun k bx hk => ?_, ?_, hw.le.trans hle⟩
 ·rcases split k bx hk with h | ⟨_, h⟩
  ·obtain ⟨B, hB, hz, hh⟩ := hw'.box k bx h
   obtain ⟨hf, hfe⟩ := hfh k bx h
   refine ⟨B, hB, hz, ?_⟩
   cases hbl : B.blk with
   | none => rw [hbl] at hh; exact hh
   | some b =>
    have hnb := newB k bx B b h hB hbl
    rw [hbl] at hh
    obtain ⟨a1, a2, a3, cur, a4, a5, a6, a7, a8⟩ := hh
    refine ⟨fun _ => .inl (Nat.le_trans hw.ext.size hnb), fun hf' => (by rw [hf] at hf'; cases hf'), fun _ hs => absurd (hw.lt b hs) (Nat.not_lt.2 hnb), cur, a4, a5, a6, a7, a8.1, fun i j e x p q => ?_⟩
    obtain ⟨u, hu, hvu⟩ := a8.2 i j e x p q
    exact ⟨u, hu, hvu.HN (hfe e (Dd p) x (Dd q))⟩
  ·obtain ⟨B, hB, hz, hh⟩ := hw.box k bx h
   refine ⟨B, hle _ _ _ hB, hz, ?_⟩
   cases hbl : B.blk with
   | none => rw [hbl] at hh; exact hh
   | some b =>
    rw [hbl] at hh
    obtain ⟨a1, a2, a3, cur, a4, a5, a6, a7, a8⟩ := hh
    exact ⟨a1, a2, a3, cur, a4.of (hext.block b a4.lt (hno b)), a5, a6, a7, a8.mono (fun _ h => h) hsame hle⟩
 ·intro k k' bx bx' B B' b hk hk' hne hf hf' hB hB' hbl
  rcases split k bx hk with h | ⟨_, h⟩
  ·rcases split k' bx' hk' with h' | ⟨_, h'⟩
   ·exact hw'.apart k k' bx bx' B B' b h h' hne hf hf' hB hB' hbl
   ·intro hbl'
    have := newB k bx B b h hB hbl
    have := oldB k' bx' B' b h' (hold k' bx' h' _ hB') hbl'
    omega
  ·rcases split k' bx' hk' with h' | ⟨_, h'⟩
   ·intro hbl'
    have := newB k' bx' B' b h' hB' hbl'
    have := oldB k bx B b h (hold k bx h _ hB) hbl
    omega
   ·exact hw.apart k k' bx bx' B B' b h h' hne hf hf' (hold k bx h _ hB) (hold k' bx' h' _ hB') hbl
theorem Nw {f : FuncId} {args : List AV} {K : AV → Hp → Prop} (h : PQ P f args hp K) : Dy P f = true ∧ ∀ {vs : List Value}, WI E S w μ hp → VRs S w μ vs args → Calls P f vs.toArray w fun e w' => ∃ v, e = .returned v ∧ EU E S μ w K v w' := by
 obtain ⟨hs, Post, h | h⟩ := h
 ·exact ⟨h.1.1, fun hw hv => U9 h.1 hw hv h.2⟩
 ·exact ⟨h.1.1, fun hw hv => SP h.1 hw hv h.2⟩

theorem Ab4 {o : Oper} {c : Call} {f : FuncId} {is : List Ax} {K : AV → Hp → Prop} (ho : o.op = .call c) (hc : c.callee = .value (.func f)) (hcl : Dy P f = true) (hx : Cz c.args.toList = some is)
  (h : PQ P f (is.map fun x => (x.ev fr).Bv hp) hp K) (hw : WI E S w μ hp) (hf : Fits S w μ fr ρ o.op.operands.toList) (hfun : ∀ f, ρ (.func f) = .func (.func f) #[] #[]) : Bc P ρ o w (EU E S μ w K) := by
 have hv := (hf.args (l := c.args.toList) (is := is) (fun x hx => by simp only [ho, Op.operands, Call.operands, hc, Array.toList_append, List.mem_append]; exact .inr hx) hx).Bv hw
 have := (Nw h).2 hw hv
 unfold Bc
 simp only [execOp, ho, resolve, hc, hfun, Deferred.ofValue, invoke, Sem.run_bind, Sem.run_pure, Result.andThen_ok, GP hcl]
 have e : (List.map ρ c.args.toList).toArray = #[] ++ Array.map ρ c.args ++ #[] := by apply Array.ext'; simp
 rw [e] at this
 exact this
theorem Z9 {o : Oper} {c : Call} {x : Operand} {ix : Ax} {is : List Ax} {K : AV → Hp → Prop} (ho : o.op = .call c) (hc : c.callee = .value x) (hx0 : AB x = some ix) (hx : Cz c.args.toList = some is)
  (h : Mz P ((ix.ev fr).Bv hp) (is.map fun x => (x.ev fr).Bv hp) hp K) (hw : WI E S w μ hp) (hf : Fits S w μ fr ρ o.op.operands.toList) : Bc P ρ o w (EU E S μ w K) := by
 unfold Mz at h
 split at h
 ·rename_i f caps e1
  have hcc := Nw (E := E) (S := S) (w := w) (μ := μ) h
  have hv := (hf.args (l := c.args.toList) (is := is) (fun x hx => by simp only [ho, Op.operands, Call.operands, hc, Array.toList_append, List.mem_append]; exact .inr hx) hx).Bv hw
  have hfv := (hf.one (x := x) (by simp [ho, Op.operands, Call.operands, hc]) hx0).Bv hw
  rw [e1] at hfv
  generalize hrx : ρ x = va at hfv
  cases hfv with
  | fn _ cs _ hl hh =>
   have hcv : VRs S w μ cs.toList caps := ⟨by simpa using hl, fun i v y p q => hh i v y (by simpa using p) q⟩
   have := hcc.2 hw (hv.append hcv)
   unfold Bc
   simp only [execOp, ho, resolve, hc, hrx, Deferred.ofValue, invoke, Sem.run_bind, Sem.run_pure, Result.andThen_ok, GP hcc.1]
   have e : (List.map ρ c.args.toList ++ cs.toList).toArray = #[] ++ Array.map ρ c.args ++ cs := by apply Array.ext'; simp
   rw [e] at this
   exact this
 ·exact h.elim

theorem Xa {o : Oper} {op : BinOp} {t ty : TypeId} {x y : Operand} {ix : Ax} {neg : Bool} {K : AV → Hp → Prop} (ho : o.op = .binOp op t x y ty) (hop : op = if neg then .neq else .eql) (hx : AB x = some ix) (hy : AB y = some (.c .Ar)) (hk : F9 P t = .slice)
  (h : (IOp.LS neg ix).sem P fr hp K) (hw : WI E S w μ hp) (hf : Fits S w μ fr ρ o.op.operands.toList) : Bc P ρ o w (EU E S μ w K) := by
 obtain ⟨e, ht⟩ := Mq hk
 have h1 := hf.one (x := x) (by simp [ho, Op.operands]) hx
 have h2 := hf.one (x := y) (by simp [ho, Op.operands]) hy
 simp only [Ax.ev] at h2
 have hry : ρ y = .slice none 0 0 := by generalize ρ y = v at h2; cases h2; rfl
 have key : ∀ (a : Option Addr) (n c : Nat), ρ x = .slice a n c → K (.bool (if neg then !a.isNone else a.isNone)) hp → Bc P ρ o w (EU E S μ w K) := by
  intro a n c hrx hK
  have hb := F8 (Po (P := P) ht a none n c 0 0 (.inr rfl)) (fun op => by cases op <;> rfl)
  refine Bc.val (v := .bool (if neg then !a.isNone else a.isNone)) (w' := w) ?_ ⟨_, hp, S, μ, hK, .bool _, hw, fun _ h => h, Cc.refl _ _, Mu.le.refl _⟩
  have hg := Eu (P := P) (op := op) (t := t) (x := x) (y := y) (a := ρ x) (b := ρ y) (.inl (by rw [hrx]; rfl)) w
  rw [hrx, hry] at hg
  subst hop
  cases neg with
  | true => simp only [if_true] at *; simp [execOp, ho, hg, hrx, hry, hb.2 w]
  | false => simp only [Bool.false_eq_true, if_false] at *; simp [execOp, ho, hg, hrx, hry, hb.1 w]
 simp only [IOp.sem] at h
 split at h
 ·rename_i es e1
  rw [e1] at h1
  generalize hrx : ρ x = v at h1
  cases h1 with
  | sl0 a cap hc =>
   refine key a 0 cap hrx ?_
   cases a with
   | none => have := h.1 rfl; cases neg <;> simpa using this
   | some a => have := h.2; cases neg <;> simpa using this
  | sl b o' cap esz vs _ hS hl hm hz hcc hh =>
   refine key _ _ cap hrx ?_
   have := h.2; cases neg <;> simpa using this
 ·rename_i e1
  rw [e1] at h1
  generalize hrx : ρ x = v at h1
  cases h1
  refine key none 0 0 hrx ?_
  cases neg <;> simpa using h
 ·exact h.elim
theorem Ug {own : List (Nat × Nat)} {o : Oper} {io : IOp} {K : AV → Hp → Prop} (hl : OO P own o = some io) (h : io.sem P fr hp K) (hw : WI E S w μ hp) (hf : Fits S w μ fr ρ o.op.operands.toList)
  (hc : ∀ v, ρ (.const v) = v) (hfn : ∀ f, ρ (.func f) = .func (.func f) #[] #[]) : Bc P ρ o w (EU E S μ w K) := by
 by_cases hq : io.quiet = true
 ·obtain ⟨x, hk, hx⟩ := OM (E := E) hl hq h
  exact (hx S w μ ρ hw hf hc hfn).mono fun v w' ⟨S', h1, h2, h3, h4⟩ => ⟨x, hp, S', μ, hk, h1, h2, h3, h4, Mu.le.refl _⟩
 ·unfold OO at hl
  simp only at hl
  split at hl
  ·rename_i x ho
   cases hx : AB x <;> rw [hx] at hl <;> cases hl
   exact absurd rfl hq
  ·rename_i x ho
   cases hx : AB x <;> rw [hx] at hl <;> cases hl
   exact absurd rfl hq
  ·split at hl <;> cases hl
   exact absurd rfl hq
  ·rename_i op t x y ty ho
   split at hl
   ·split at hl
    ·unfold Wq at hl
     split at hl
     ·split at hl
      ·rename_i hk
       split at hl
       ·cases hl; exact Xa (neg := false) ho rfl (by assumption) (by assumption) hk h hw hf
       ·cases hl; exact Xa (neg := true) ho rfl (by assumption) (by assumption) hk h hw hf
       ·cases hl
      ·cases hl
     ·cases hl
    ·split at hl <;> cases hl <;> exact absurd rfl hq
   ·cases hl
  ·rename_i op t x ho
   cases hx : AB x <;> rw [hx] at hl <;> cases hl
   exact absurd rfl hq
  ·rename_i e ho
   split at hl
   ·cases hl; exact absurd rfl hq
   ·cases hl; exact Ab5 ho (by assumption) h hw
   ·cases hl
  ·rename_i e x ho
   split at hl
   ·cases hl; exact absurd rfl hq
   ·cases hl; exact Ad4 ho (by assumption) h hw hf
   ·cases hl
  ·split at hl
   ·split at hl
    ·split at hl <;> cases hl
     exact absurd rfl hq
    ·cases hl
   ·cases hl
  ·rename_i t m ps ho
   split at hl
   ·split at hl
    ·split at hl
     ·rename_i hcc
      split at hl
      ·cases hl; exact absurd rfl hq
      ·cases hl
       exact Ad2 ho (by assumption) (by rw [hcc.1]; assumption) (by assumption) (by assumption) (by rw [hcc.1]; exact hcc.2.2) (by rw [hcc.1]; exact hcc.2.1) h hw hf
     ·cases hl
    ·cases hl
   ·cases hl
  ·split at hl <;> cases hl
   exact absurd rfl hq
  ·rename_i t a x ho
   split at hl
   ·cases hl; exact Ab3 ho (by assumption) (by assumption) (by assumption) h hw hf
   ·cases hl
  ·split at hl
   ·split at hl
    ·split at hl <;> cases hl
     exact absurd rfl hq
    ·cases hl
   ·cases hl
  ·split at hl
   ·split at hl
    ·split at hl <;> cases hl
     exact absurd rfl hq
    ·cases hl
   ·cases hl
  ·split at hl
   ·split at hl <;> cases hl
    exact absurd rfl hq
   ·cases hl
  ·split at hl <;> cases hl
   exact absurd rfl hq
  ·split at hl
   ·split at hl <;> cases hl <;> exact absurd rfl hq
   ·cases hl
  ·rename_i t l c ho
   split at hl
   ·split at hl
    ·split at hl
     ·rename_i hcc
      split at hl <;> cases hl
      exact Y7 ho (by assumption) (by assumption) (by assumption) (by assumption) hcc.1 hcc.2.1 hcc.2.2.1 hcc.2.2.2 h hc hw hf
     ·cases hl
    ·cases hl
   ·cases hl
  ·split at hl
   ·cases hl; exact absurd rfl hq
   ·split at hl
    ·split at hl <;> cases hl
     exact absurd rfl hq
    ·cases hl
   ·split at hl
    ·cases hl
     exact Ad3 (by assumption) (by assumption) (by assumption) (by assumption) (by assumption) h hw hf
    ·cases hl
   ·cases hl
  ·rename_i x i ho
   cases hx : AB x <;> rw [hx] at hl <;> cases hl
   exact absurd rfl hq
  ·rename_i f first caps ho
   split at hl
   ·cases hx : Cz caps.toList <;> rw [hx] at hl <;> cases hl
    exact absurd rfl hq
   ·cases hl
  ·rename_i x ho
   cases hx : AB x <;> rw [hx] at hl <;> cases hl
   exact absurd rfl hq
  ·rename_i c ho
   split at hl
   ·split at hl
    ·split at hl <;> cases hl <;> exact absurd rfl hq
    ·cases hl
   ·rename_i hcc
    split at hl
    ·split at hl
     ·rename_i htt
      split at hl
      ·split at hl
       ·split at hl
        ·rename_i hzz
         cases hl
         have htt' := eq_of_beq htt
         subst htt'
         exact Aaa ho hcc (by assumption) (by assumption) (by assumption) (by assumption) (by assumption) (by assumption) (by assumption) hzz.1 hzz.2 h hw hf
        ·cases hl
       ·cases hl
      ·cases hl
     ·split at hl
      ·split at hl
       ·split at hl
        ·rename_i hzz
         cases hl
         exact Adh ho hcc (by assumption) (by assumption) (by assumption) (by assumption) (by assumption) (by assumption) (by assumption) (by assumption) hzz.1 hzz.2 h hw hf
        ·cases hl
       ·cases hl
      ·cases hl
    ·cases hl
   ·rename_i hcc
    cases hx : Cz c.args.toList <;> rw [hx] at hl <;> cases hl
    exact absurd rfl hq
   ·rename_i hcc
    cases hx : Cz c.args.toList <;> rw [hx] at hl <;> cases hl
    exact absurd rfl hq
   ·split at hl
    ·split at hl <;> cases hl <;> exact absurd rfl hq
    ·cases hl
   ·rename_i hc'
    split at hl
    ·rename_i hcl
     cases hx : Cz c.args.toList <;> rw [hx] at hl <;> simp only [Option.map_none, Option.map_some, reduceCtorEq, Option.some.injEq] at hl
     subst hl
     split at h
     ·exact Ab4 ho hc' hcl hx h hw hf hfn
     ·rename_i hh; rw [if_neg hh] at hq; exact absurd rfl hq
    ·cases hl
   ·rename_i hc'
    split at hl
    ·split at hl
     ·cases hl; exact Z9 ho hc' (by assumption) (by assumption) h hw hf
     ·cases hl; exact absurd rfl hq
    ·cases hl
   ·cases hl
  ·cases hl
theorem EU.kept {K : AV → Hp → Prop} {v : Value} {w' : World} (h : EU E S μ w (fun r hp' => K (r.pur (Pa r hp')) (Pa r hp')) v w') : EU E S μ w K v w' := by
 obtain ⟨x, hp', S', μ', hk, hv, hw, h1, h2, h3⟩ := h
 have hfz : ∃ S2, WI E S2 w' μ' (Pa x hp') ∧ ∀ b, S' b → S2 b := by
  cases x <;> first | exact ⟨S', hw, fun _ h => h⟩ | skip
  rename_i k vv n
  cases hh : Aw hp' k with
  | none => exact ⟨S', by unfold Pa KG; simp only [hh]; exact hw, fun _ h => h⟩
  | some bx => exact hw.frz hh
 obtain ⟨S2, hw2, hs2⟩ := hfz
 exact ⟨_, _, S2, μ', hk, (hv.mono hs2 (Cc.refl _ _) (Mu.le.refl _)).pur hw2, hw2, fun b hb => hs2 b (h1 b hb), h2, h3⟩
theorem X8 {own : List (Nat × Nat)} {o : Oper} {io : IOp} {K : AV → Hp → Prop} (hl : OP P own o = some io) (h : io.sem P fr hp K) (hw : WI E S w μ hp) (hf : Fits S w μ fr ρ o.op.operands.toList)
  (hc : ∀ v, ρ (.const v) = v) (hfn : ∀ f, ρ (.func f) = .func (.func f) #[] #[]) : Bc P ρ o w (EU E S μ w K) := by
 unfold OP at hl
 split at hl
 ·rename_i y hy
  cases hl
  generalize own.contains (o.dst.getD 100000, 7774) = b2 at h
  have hd : (∃ k ty e q s x, y.Nr (own.contains (o.dst.getD 100000, 7775)) = .append k ty e q s x ∧ b2 = true) ∨ (y.Nr (own.contains (o.dst.getD 100000, 7775))).kept b2 = y.Nr (own.contains (o.dst.getD 100000, 7775)) := by
   generalize y.Nr (own.contains (o.dst.getD 100000, 7775)) = z
   cases z <;> first | exact .inr rfl | skip
   cases b2
   ·exact .inr rfl
   ·exact .inl ⟨_, _, _, _, _, _, rfl, rfl⟩
  rcases hd with ⟨k, ty, e, q, s, x, he, rfl⟩ | he
  ·rw [he] at h
   have h' : (y.Nr (own.contains (o.dst.getD 100000, 7775))).sem P fr hp (fun r hp' => K (r.pur (Pa r hp')) (Pa r hp')) := by rw [he]; exact h
   exact (Ug hy (MS h') hw hf hc hfn).mono fun v w' hx => hx.kept
  ·rw [he] at h
   exact Ug hy (MS h) hw hf hc hfn
 ·cases hl; exact h.elim
end

end Go.Proofs.YtjbcnilllfaipaaGreat.Av

namespace Go.Proofs.YtjbcnilllfaipaaGreat.Av
open Go.RowKit

def Rep (E : Env) (nt : Nat) (s : St) (a : Act) (w : World) : Prop :=
 a.defers = [] ∧ a.tmps.size = nt ∧ ∃ S μ, WI E S w μ s.hp ∧ ∀ t, VR S w μ (a.tmps.getD t undef) (BJ s.fr t)

theorem VR.undef {S : Nat → Prop} {w : World} {μ : Mu} : VR S w μ undef (.tup []) := VR.tup #[] [] rfl (fun i v x p => by simp at p)

theorem Rep.put {E : Env} {nt : Nat} {s : St} {a : Act} {w w' : World} {d : Option Nat} {v : Value} {x : AV} {hp' : Hp} {S S' : Nat → Prop} {μ μ' : Mu} (hd : a.defers = []) (hn : a.tmps.size = nt) (hf : ∀ t, VR S w μ (a.tmps.getD t Go.undef) (BJ s.fr t)) (hdok : Rl nt d = true)
  (hv : VR S' w' μ' v x) (hw : WI E S' w' μ' hp') (hS : ∀ b, S b → S' b) (hsame : Cc S w w') (hμ : Mu.le μ μ') : Rep E nt (s.put d x hp') (a.put d v) w' := by
 cases d with
 | none => exact ⟨hd, hn, S', μ', hw, fun t => (hf t).mono hS hsame hμ⟩
 | some d =>
  have hlt : d < nt := by simpa [Rl] using hdok
  refine ⟨hd, by simp [Act.put, hn], S', μ', hw, fun t => ?_⟩
  show VR S' w' μ' ((a.tmps.setIfInBounds d v).getD t Go.undef) (if d = t then x else BJ s.fr t)
  by_cases h : d = t
  ·subst h
   have : (a.tmps.setIfInBounds d v).getD d Go.undef = v := by simp [hn, hlt]
   rw [this, if_pos rfl]; exact hv
  ·rw [if_neg h]
   have : (a.tmps.setIfInBounds d v).getD t Go.undef = a.tmps.getD t Go.undef := by
    simp [Array.getElem?_setIfInBounds_ne h]
   rw [this]
   exact (hf t).mono hS hsame hμ

theorem Q0 {S : Nat → Prop} {w : World} {μ : Mu} {a : Act} {fr : Nat → AV} (hf : ∀ t, VR S w μ (a.tmps.getD t Go.undef) (fr t)) {x : Operand} {ix : Ax} (hl : AB x = some ix) : VR S w μ (a.eval x) (ix.ev fr) := by
 unfold AB at hl
 split at hl
 ·cases hl; exact hf _
 ·split at hl
  ·rename_i hz
   cases hl
   show VR S w μ (.string _) (.str (bs (SM _)))
   rw [ZQ]; exact .str _ hz
  ·cases hl
 ·rename_i v _
  cases hv : K5 v with
  | none => rw [hv] at hl; cases hl
  | some x => rw [hv] at hl; cases hl; exact (Ij hv).1
 ·cases hl; exact .fn _ #[] [] rfl (fun i v x p => by simp at p)
 ·cases hl
theorem Pj {S : Nat → Prop} {w : World} {μ : Mu} {a : Act} {fr : Nat → AV} (hf : ∀ t, VR S w μ (a.tmps.getD t Go.undef) (fr t)) (xs : List Operand) : Fits S w μ fr a.eval xs := fun x _ ix hl => Q0 hf hl

theorem Qg {S : Nat → Prop} {w : World} {μ : Mu} {a : Act} {fr : Nat → AV} (hf : ∀ t, VR S w μ (a.tmps.getD t Go.undef) (fr t)) {ops : Array Oper} {o : Oper} {t : Nat} {want : Bool} (hg : G4 ops o.guard = some (some (t, want))) :
  (∀ b, fr t = .bool b → Region.wanted o (yielded ops a.tmps) = (b == want)) ∧ (∀ xs, fr t = .tup xs → Region.wanted o (yielded ops a.tmps) = false) := by
 unfold G4 at hg
 split at hg
 ·cases hg
 ·rename_i j w' hgo
  split at hg
  ·rename_i t' ht
   cases hg
   refine ⟨fun b hb => ?_, fun xs hb => ?_⟩
   ·have := hf t
    rw [hb] at this
    generalize hv : a.tmps.getD t Go.undef = v at this
    cases this
    have : a.tmps[t]? = some (.bool b) := by
     simp only [Array.getD_eq_getD_getElem?] at hv
     cases hq : a.tmps[t]? with
     | none => rw [hq] at hv; simp [Go.undef] at hv
     | some u => rw [hq] at hv; simp at hv; rw [hv]
    simp only [Region.wanted, hgo, yielded, ht, Option.bind_some, this]
    cases b <;> cases want <;> rfl
   ·have := hf t
    rw [hb] at this
    generalize hv : a.tmps.getD t Go.undef = v at this
    cases this with
    | tup cs _ _ _ =>
    have : ∀ b, a.tmps[t]? ≠ some (.bool b) := by
     intro b hq
     simp [hq] at hv
    simp only [Region.wanted, hgo, yielded, ht, Option.bind_some]
    cases hq : a.tmps[t]? with
    | none => rfl
    | some u =>
     cases u <;> first | rfl | exact absurd hq (this _)
  ·cases hg
theorem M3 {ops : Array Oper} {o : Oper} {a : Act} (hg : G4 ops o.guard = some none) : Region.wanted o (yielded ops a.tmps) = true := by
 unfold G4 at hg
 split at hg
 ·rename_i h; simp [Region.wanted, h]
 ·split at hg <;> cases hg

section
variable {P : Program} {E : Env} {nt : Nat}

def P9 (E : Env) (nt : Nat) (Q : Exit → St → Prop) : Exit → Act → World → Prop := fun e a w => ∃ s, Q e s ∧ Rep E nt s a w

theorem R6 {own : List (Nat × Nat)} {ops : Array Oper} {Q : Exit → St → Prop} : ∀ {l : List Oper} {il : List B9} {s : St} {a : Act} {w : World}, Dv P nt own ops l = some il → BM P (Q .normal) il s → Rep E nt s a w → wpList P ops (P9 E nt Q) l a w
 | [], il, s, a, w, hl, h, hr => by cases hl; exact ⟨s, h, hr⟩
 | o :: l, il, s, a, w, hl, h, hr => by
  unfold Dv at hl
  split at hl
  ·rename_i io is h1 h2
   cases hl
   unfold Hu at h1
   split at h1
   ·rename_i g op hg hop
    split at h1
    ·rename_i hdok
     cases h1
     obtain ⟨hd, hn, S, μ, hw, hf⟩ := hr
     have go : (op.sem P (BJ s.fr) s.hp fun v hp => BM P (Q .normal) is (s.put o.dst v hp)) → o.wp P a w (wpList P ops (P9 E nt Q) l) (P9 E nt Q) := by
      intro hs
      refine (X8 hop hs hw (Pj hf _) (fun _ => rfl) (fun _ => rfl)).wp fun v w' ⟨x, hp', S', μ', hk, hv, hw', hS, hsm, hμ⟩ => ?_
      exact R6 h2 hk (Rep.put hd hn hf hdok hv hw' hS hsm hμ)
     have skip : BM P (Q .normal) is (s.put o.dst (.tup []) s.hp) → wpList P ops (P9 E nt Q) l (a.put o.dst Go.undef) w := fun hs =>
      R6 h2 hs (Rep.put hd hn hf hdok VR.undef hw (fun _ h => h) (Cc.refl _ _) (Mu.le.refl _))
     unfold BM at h
     unfold wpList
     cases g with
     | none =>
      rw [if_pos (M3 hg)]
      exact .inl (go h)
     | some tw =>
      obtain ⟨t, want⟩ := tw
      obtain ⟨w1, w2⟩ := Qg hf hg
      simp only at h
      split at h
      ·rename_i b hb
       by_cases hbw : b = want
       ·rw [if_pos (by rw [w1 b hb]; simp [hbw])]
        exact .inl (go (h.1 hbw))
       ·have hnb : b = !want := by cases b <;> cases want <;> simp at hbw ⊢
        rw [if_neg (by rw [w1 b hb]; simp [hbw])]
        exact skip (h.2 hnb)
      ·rename_i xs hb
       rw [if_neg (by rw [w2 xs hb]; simp)]
       exact skip h
      ·exact h.elim
    ·cases h1
   ·cases h1
  ·cases hl

theorem Rep.K9 {s : St} {a : Act} {w : World} (h : Rep E nt s a w) : Rep E nt ⟨s.fr, K9 s.hp⟩ a w := by
 obtain ⟨hd, hn, S, μ, hw, hf⟩ := h
 obtain ⟨S1, h1, h2⟩ := WI.Cy (S := S) (FR s.hp) hw
 obtain ⟨S2, h3, h4⟩ := WI.Cy (S := S1) (FR s.hp) h1
 exact ⟨hd, hn, S2, μ, h3, fun t => (hf t).mono (fun b hb => h4 b (h2 b hb)) (Cc.refl _ _) (Mu.le.refl _)⟩

structure Af (s : St) (T : St → Prop) : Prop where
 mk ::
 run : ∀ (E : Env) nt a w, Rep E nt s a w → ∃ t, T t ∧ Rep E nt t a w

def awp (P : Program) : BV → (Exit → St → Prop) → St → Prop
 | .skip, Q, s => Q .normal s
 | .region ops, Q, s => BM P (Q .normal) ops s
 | .draw ops, Q, s => BM P (Q .normal) ops s
 | .both a b, Q, s => awp P a Q s ∧ awp P b Q s
 | .seq a b, Q, s => awp P a (fun e s' => match e with | .normal => awp P b Q s' | e => Q e s') s
 | .cond c a b, Q, s => match c.ev (BJ s.fr) with
   | .bool t => (t = true → awp P a Q s) ∧ (t = false → awp P b Q s)
   | _ => False
 | .block id a, Q, s => awp P a (fun e s' => match e with | .exit id' => if id' = id then Q .normal s' else Q (.exit id') s' | e => Q e s') s
 | .loop a, Q, s => ∃ (X : Type) (I : X → St) (pre : X → Prop) (m : X → Nat), Af s (fun t => ∃ x, pre x ∧ t = I x) ∧
   ∀ x, pre x → awp P a (fun e s' => match e with | .normal => Af s' (fun t => ∃ x', (pre x' ∧ m x' < m x) ∧ t = I x') | e => Q e s') (I x)
 | .exit id, Q, s => Q (.exit id) s
 | .scope a, Q, s => awp P a (fun e s' => match e with | .goto _ => False | e => Q e s') s
 | .ret, Q, s => Q .ret ⟨s.fr, K9 s.hp⟩
 | .Ev, Q, s => Q .ret s
 | .ghost a, Q, s => Af s (fun t => awp P a Q t)

def W5 (P : Program) (nt : Nat) (ops : Array Oper) (il : List B9) : Prop :=
 ∀ (E : Env) (Q : Exit → St → Prop) (id : Nat) s a w, BM P (Q .normal) il s → Rep E nt s a w → (Code.region id ops true).wp P (P9 E nt Q) a w

def Y2 (P : Program) (nt : Nat) (ops : Array Oper) (ic : BV) : Prop :=
 ∀ (E : Env) (Q : Exit → St → Prop) (id : Nat) s a w, awp P ic Q s → Rep E nt s a w → (Code.region id ops true).wp P (P9 E nt Q) a w

inductive Low (P : Program) (nt : Nat) (own : List (Nat × Nat)) : Code → BV → Prop where
 | skip : Low P nt own .skip .skip
 | region (id : Nat) (ops : Array Oper) (il : List B9) (h : Dv P nt own ops ops.toList = some il) : Low P nt own (.region id ops false) (.region il)
 | draw (id : Nat) (ops : Array Oper) (il : List B9) (h : W5 P nt ops il) : Low P nt own (.region id ops true) (.draw il)
 | Abx (id : Nat) (ops : Array Oper) (ic : BV) (h : Y2 P nt ops ic) : Low P nt own (.region id ops true) ic
 | seq {a b : Code} {ia ib : BV} (ha : Low P nt own a ia) (hb : Low P nt own b ib) : Low P nt own (.seq a b) (.seq ia ib)
 | cond {c : Operand} {a b : Code} {ic : Ax} {ia ib : BV} (hc : AB c = some ic) (ha : Low P nt own a ia) (hb : Low P nt own b ib) : Low P nt own (.cond c a b) (.cond ic ia ib)
 | block (id : Nat) {a : Code} {ia : BV} (ha : Low P nt own a ia) : Low P nt own (.block id a) (.block id ia)
 | loop {a : Code} {ia : BV} (ha : Low P nt own a ia) : Low P nt own (.loop a) (.loop ia)
 | exit (id : Nat) : Low P nt own (.exit id) (.exit id)
 | scope {a : Code} {ia : BV} (ha : Low P nt own a ia) : Low P nt own (.scope a) (.scope ia)
 | label (l : Nat) : Low P nt own (.label l) .skip
 | ret : Low P nt own .ret .ret
 | Ev : Low P nt own .ret .Ev
 | ghost {a : Code} {ia : BV} (ha : Low P nt own a ia) : Low P nt own a (.ghost ia)

theorem Rx {own : List (Nat × Nat)} {c : Code} {ic : BV} (hl : Low P nt own c ic) : ∀ {Q : Exit → St → Prop} {s : St} {a : Act} {w : World}, awp P ic Q s → Rep E nt s a w → c.wp P (P9 E nt Q) a w := by
 induction hl with
 | skip => intro Q s a w h hr; exact wp_skip ⟨s, h, hr⟩
 | region id ops il hlo => intro Q s a w h hr; exact wp_region_list (R6 hlo h hr)
 | draw id ops il hd => intro Q s a w h hr; exact hd E Q id s a w h hr
 | Abx id ops ic hd => intro Q s a w h hr; exact hd E Q id s a w h hr
 | seq ha hb iha ihb =>
  intro Q s a w h hr
  refine wp_seq (wp_mono (iha h hr) fun e a' w' ⟨s', h1, h2⟩ => ?_)
  cases e <;> first | exact ihb h1 h2 | exact ⟨s', h1, h2⟩
 | cond hc ha hb iha ihb =>
  intro Q s a w h hr
  unfold awp at h
  have hf := hr.2.2
  obtain ⟨S, μ, hw, hf⟩ := hf
  have hv := Q0 hf hc
  split at h
  ·rename_i t ht
   rw [ht] at hv
   generalize hcv : a.eval _ = v at hv
   cases hv
   exact wp_cond_split hcv (fun e => iha (h.1 e) hr) (fun e => ihb (h.2 e) hr)
  ·exact h.elim
 | block id ha iha =>
  intro Q s a w h hr
  refine wp_block (wp_mono (iha h hr) fun e a' w' ⟨s', h1, h2⟩ => ?_)
  cases e with
  | exit id' =>
   simp only [Exit.inBlock]
   simp only at h1
   split at h1
   ·rename_i hid; rw [if_pos hid]; exact ⟨s', h1, h2⟩
   ·rename_i hid; rw [if_neg hid]; exact ⟨s', h1, h2⟩
  | _ => exact ⟨s', h1, h2⟩
 | loop ha iha =>
  intro Q s a w h hr
  obtain ⟨X, I, pre, m, h0, hround⟩ := h
  rename_i c ic
  intro b k cs
  have key : ∀ n x a w, m x = n → pre x → Rep E nt (I x) a w →
    ∃ e a' w', P9 E nt Q e a' w' ∧ Arrives P (lone (b.at a (.code c :: .inLoop c :: k)) cs w) b k cs e a' w' := by
   intro n
   induction n using Nat.strongRecOn with
   | _ n ih =>
    intro x a w hn hx hr
    obtain ⟨e, a₁, w₁, ⟨s₁, hq, hr₁⟩, harr⟩ := iha (hround x hx) hr b (.inLoop c :: k) cs
    cases e with
    | normal =>
     obtain ⟨t, ⟨x', ⟨hx', hlt⟩, rfl⟩, hr'⟩ := Af.run hq E nt a₁ w₁ hr₁
     obtain ⟨e₂, a₂, w₂, hq₂, harr₂⟩ := ih (m x') (hn ▸ hlt) x' a₁ w₁ rfl hx' hr'
     exact ⟨e₂, a₂, w₂, hq₂, .of_steps (Steps.trans harr (.one step_inLoop)) harr₂⟩
    | exit id => exact ⟨_, a₁, w₁, ⟨s₁, hq, hr₁⟩, .pass (x := .inLoop c) rfl (fun _ _ => .inl (by simp)) harr⟩
    | goto l => exact ⟨_, a₁, w₁, ⟨s₁, hq, hr₁⟩, .pass (x := .inLoop c) rfl (fun _ _ => .inl (by simp)) harr⟩
    | ret => exact ⟨_, a₁, w₁, ⟨s₁, hq, hr₁⟩, .pass (x := .inLoop c) rfl (fun _ _ => .inl (by simp)) harr⟩
    | panic ch => exact ⟨_, a₁, w₁, ⟨s₁, hq, hr₁⟩, .pass (x := .inLoop c) rfl (fun _ _ => .inl (by simp)) harr⟩
    | outgrown => exact ⟨_, a₁, w₁, ⟨s₁, hq, hr₁⟩, .pass (x := .inLoop c) rfl (fun _ _ => .inl (by simp)) harr⟩
  obtain ⟨t, ⟨x, hx, rfl⟩, hr'⟩ := h0.run E nt a w hr
  obtain ⟨e, a', w', hq, harr⟩ := key _ x a w rfl hx hr'
  exact ⟨e, a', w', hq, .of_steps (.one step_loop) harr⟩
 | exit id => intro Q s a w h hr; exact wp_exit ⟨s, h, hr⟩
 | scope ha iha =>
  intro Q s a w h hr
  refine wp_scope_straight (wp_mono (iha h hr) fun e a' w' ⟨s', h1, h2⟩ => ?_)
  cases e <;> first | exact h1.elim | exact ⟨s', h1, h2⟩
 | label l => intro Q s a w h hr; exact wp_label ⟨s, h, hr⟩
 | ret => intro Q s a w h hr; exact wp_ret ⟨_, h, hr.K9⟩
 | Ev => intro Q s a w h hr; exact wp_ret ⟨_, h, hr⟩
 | ghost ha iha =>
  intro Q s a w h hr
  obtain ⟨t, h1, h2⟩ := h.run E nt a w hr
  exact iha h1 h2
end

end Go.Proofs.YtjbcnilllfaipaaGreat.Av
