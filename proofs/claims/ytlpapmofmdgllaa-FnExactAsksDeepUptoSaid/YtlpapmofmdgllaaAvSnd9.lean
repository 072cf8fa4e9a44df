/-
  APPENDS TO OWN ROWS; all operations together. Conditions: none.
-/
import Derived.Test.YtlpapmofmdgllaaAvSnd8
set_option linter.unusedVariables false
set_option linter.unusedSimpArgs false
namespace Go.Proofs.Ytlpapmofmdgllaa.Av
open Go.RowKit

section
variable {P : Program} {E : Env} {S : Nat → Prop} {w : World} {μ : Mu} {hp : Hp} {fr : Nat → AV} {ρ : Operand → Value}

theorem tail_cells (hw : WI E S w μ hp) {vx : Value} {x : AV} {es : List AV} (hv : VR S w μ vx x) (ht : aTail hp x = some es) :
    (es = [] ∧ ∃ a c, vx = .slice a 0 c) ∨ ∃ b p cap esz, vx = .slice (some ⟨b, p, none⟩) es.length cap ∧ (∀ e ∈ es, e.cells.length = esz ∧ ∀ y ∈ e.cells, y.one = true) ∧
      ∀ i j e y, es[i]? = some e → e.cells[j]? = some y → ∃ v, w.cell? ⟨b, p + i * esz + j, none⟩ = some v ∧ VR S w μ v y := by
  unfold aTail at ht
  split at ht
  · cases ht
    cases hv with
    | sl0 a cap hc => exact .inl ⟨rfl, a, cap, rfl⟩
    | sl b p cap esz vs _ hS hl hm hzz hc hh =>
      refine .inr ⟨b, p, cap, esz, rfl, hzz, fun i j e y h1 h2 => ⟨vs i j, hc i j (List.getElem?_eq_some_iff.1 h1).1 ?_, hh i j e y h1 h2⟩⟩
      rw [← (hzz e (List.mem_of_getElem? h1)).1]; exact (List.getElem?_eq_some_iff.1 h2).1
  · cases ht
    cases hv
    exact .inl ⟨rfl, none, 0, rfl⟩
  · rename_i k v n
    split at ht
    · rename_i bx hk
      split at ht
      · rename_i hc
        cases ht
        cases hv with
        | row _ _ _ b cap esz hμ hnn hm =>
          obtain ⟨B, hB, hz, hh⟩ := hw.box k bx hk
          rw [hc.1, hμ] at hB
          cases hB
          obtain ⟨a1, a2, a3, cur, a4, a5, a6, a7, a8⟩ := hh
          refine .inr ⟨b, 0, cap, esz, by simp; omega, fun e he => a8.1 e (List.mem_of_mem_take he), fun i j e y h1 h2 => ?_⟩
          rw [List.getElem?_take] at h1
          split at h1
          · obtain ⟨u, h3, h4⟩ := a8.2 i j e y h1 h2
            exact ⟨u, by rw [cell_of_block a4, Nat.zero_add]; exact h3, h4⟩
          · cases h1
        | row0 _ _ cap esz hμ => exact .inl ⟨by simp, none, 0, rfl⟩
      · cases ht
    · cases ht
  · cases ht

/-- the values of what is appended -/
theorem tail_news {b p esz : Nat} {es : List AV} (hz : ∀ e ∈ es, e.cells.length = esz ∧ ∀ y ∈ e.cells, y.one = true)
    (hc : ∀ i j e y, es[i]? = some e → e.cells[j]? = some y → ∃ v, w.cell? ⟨b, p + i * esz + j, none⟩ = some v ∧ VR S w μ v y) :
    ∃ news : List Value, news.length = es.length * esz ∧ (∀ q v, news[q]? = some v → w.cell? ((⟨b, p, none⟩ : Addr).add q) = some v) ∧ (∀ v ∈ news, v.oneCell' = true) ∧
      ∀ i j e y, es[i]? = some e → e.cells[j]? = some y → ∃ v, news[i * esz + j]? = some v ∧ VR S w μ v y := by
  have hq : ∀ q, q < es.length * esz → ∃ v y, w.cell? ⟨b, p + q, none⟩ = some v ∧ VR S w μ v y ∧ y.one = true := by
    intro q hq
    have hpos : 0 < esz := by
      rcases Nat.eq_zero_or_pos esz with h | h
      · subst h; simp at hq
      · exact h
    have hi : q / esz < es.length := (Nat.div_lt_iff_lt_mul hpos).2 hq
    have hj : q % esz < esz := Nat.mod_lt _ hpos
    have he := hz es[q / esz] (List.getElem_mem hi)
    have hj' : q % esz < (es[q / esz]).cells.length := by rw [he.1]; exact hj
    obtain ⟨v, h1, h2⟩ := hc (q / esz) (q % esz) _ _ (List.getElem?_eq_getElem hi) (List.getElem?_eq_getElem hj')
    refine ⟨v, _, ?_, h2, he.2 _ (List.getElem_mem hj')⟩
    rw [Nat.add_assoc, Nat.mul_comm, Nat.div_add_mod] at h1
    exact h1
  refine ⟨(List.range (es.length * esz)).map fun q => (w.cell? ⟨b, p + q, none⟩).getD undef, by simp, fun q v hv => ?_, fun v hv => ?_, fun i j e y h1 h2 => ?_⟩
  · have hlt : q < es.length * esz := by have := (List.getElem?_eq_some_iff.1 hv).1; simpa using this
    obtain ⟨u, y, h1, _⟩ := hq q hlt
    simp [hlt, h1] at hv
    rw [addr_add, h1, hv]
  · obtain ⟨q, hlt, rfl⟩ := List.mem_map.1 hv
    obtain ⟨u, y, h1, h2, h3⟩ := hq q (by simpa using hlt)
    simp only [h1, Option.getD_some]
    exact h2.oneCell h3
  · obtain ⟨v, h3, h4⟩ := hc i j e y h1 h2
    have hi := (List.getElem?_eq_some_iff.1 h1).1
    have hj : j < esz := by rw [← (hz e (List.mem_of_getElem? h1)).1]; exact (List.getElem?_eq_some_iff.1 h2).1
    have hlt : i * esz + j < es.length * esz := by have := mul_step (z := esz) hi; omega
    refine ⟨v, ?_, h4⟩
    rw [Nat.add_assoc] at h3
    simp [hlt, h3]

theorem Lies.append {cur cur' : Array Value} {esz n : Nat} {es es' : List AV} {news : List Value} (h : Lies S w μ cur esz es) (hn : n ≤ es.length) (hz : ∀ e ∈ es', e.cells.length = esz ∧ ∀ y ∈ e.cells, y.one = true)
    (hnew : ∀ i j e y, es'[i]? = some e → e.cells[j]? = some y → ∃ v, news[i * esz + j]? = some v ∧ VR S w μ v y) (h1 : ∀ q, q < n * esz → cur'[q]? = cur[q]?) (h2 : ∀ q, q < es'.length * esz → cur'[n * esz + q]? = news[q]?) :
    Lies S w μ cur' esz (es.take n ++ es') := by
  have hlen : (es.take n).length = n := by simp; omega
  refine ⟨fun e he => ?_, fun i j e y p q => ?_⟩
  · rcases List.mem_append.1 he with he | he
    · exact h.1 e (List.mem_of_mem_take he)
    · exact hz e he
  · rw [List.getElem?_append, hlen] at p
    split at p
    · rename_i hi
      rw [List.getElem?_take, if_pos hi] at p
      have hj : j < esz := by rw [← (h.1 e (List.mem_of_getElem? p)).1]; exact (List.getElem?_eq_some_iff.1 q).1
      rw [h1 _ (by have := mul_step (z := esz) hi; omega)]
      exact h.2 i j e y p q
    · rename_i hi
      have hi' := (List.getElem?_eq_some_iff.1 p).1
      have hj : j < esz := by rw [← (hz e (List.mem_of_getElem? p)).1]; exact (List.getElem?_eq_some_iff.1 q).1
      obtain ⟨v, h3, h4⟩ := hnew (i - n) j e y p q
      refine ⟨v, ?_, h4⟩
      have e1 : i * esz + j = n * esz + ((i - n) * esz + j) := by
        have : i = n + (i - n) := by omega
        rw [this, Nat.add_mul]; simp; omega
      rw [e1, h2 _ (by have := mul_step (z := esz) hi'; omega)]
      exact h3

theorem run_firstCells_zero {size : Nat} {a : Option Addr} {m c : Nat} : (Builtin.firstCells size 0 (.slice a m c)).run P w = .ok #[] w := by
  cases a <;> simp [Builtin.firstCells, loadCells, loadCellsFrom]
theorem run_append_empty {t ty e : TypeId} {i : TypeInfo} (ht : P.underlying t = some (.slice e)) (hi : P.info? e = some i) {base : Option Addr} {n cap : Nat} {a : Option Addr} {c : Nat} (hn : n ≤ cap) :
    (Builtin.append_ #[t, t] ty #[.slice base n cap, .slice a 0 c]).run P w = .ok (.slice base n cap) w := by
  cases base with
  | none => simp [Builtin.append_, run_underlying ht, sizeOf, typeInfo, hi, Builtin.lenOf, hn, run_firstCells_zero]
  | some b => simp [Builtin.append_, run_underlying ht, sizeOf, typeInfo, hi, Builtin.lenOf, hn, run_firstCells_zero, storeCells]

theorem exec_append {o : Oper} {c : Call} {s x : Operand} {t : TypeId} (ho : o.op = .call c) (hc : c.callee = .builtin .append) (ha : c.args.toList = [s, x]) (hat : c.argTypes.toList = [t, t]) {v : Value} {w' : World}
    (hr : (Builtin.append_ #[t, t] o.type #[ρ s, ρ x]).run P w = .ok v w') {R : Value → World → Prop} (hR : R v w') : Yield P ρ o w R := by
  obtain ⟨callee, args, argTypes⟩ := c
  simp only at hc ha hat
  subst hc
  obtain ⟨al⟩ := args
  obtain ⟨tl⟩ := argTypes
  simp only at ha hat
  subst ha hat
  exact Yield.val (v := v) (w' := w') (by simp [execOp, ho, resolve, invoke, builtin, hr]) hR

theorem get_app {A B C : List Value} {q : Nat} (h : q < A.length) : (A ++ B ++ C)[q]? = A[q]? := by
  rw [List.append_assoc, List.getElem?_append_left h]
theorem get_app2 {A B C : List Value} {q : Nat} (h : q < B.length) : (A ++ B ++ C)[A.length + q]? = B[q]? := by
  rw [List.append_assoc, List.getElem?_append_right (by omega), show A.length + q - A.length = q by omega, List.getElem?_append_left h]

/-- an append to a nil row -/
theorem app_nil {o : Oper} {c : Call} {s x : Operand} {t e : TypeId} {k : Nat} {i : TypeInfo} {zc : Value} {K : AV → Hp → Prop} (ho : o.op = .call c) (hc : c.callee = .builtin .append) (ha : c.args.toList = [s, x]) (hat : c.argTypes.toList = [t, t])
    (hu : P.underlying t = some (.slice e)) (hi : P.info? e = some i) (hzi : i.zero = some zc) (hzv : zc.cells.size = i.size) (hw : WI E S w μ hp) (hrs : ρ s = .slice none 0 0) {es : List AV}
    (hby : es.length * i.bytes ≤ 140737488355328) (hml : es.length ≤ maxLen) (h : ∀ v, K (.row k v es.length) ((k, ⟨v, false, e, i.size, es⟩) :: hp))
    (htc : (es = [] ∧ ∃ a c, ρ x = .slice a 0 c) ∨ (es ≠ [] ∧ ∃ b p cap, ρ x = .slice (some ⟨b, p, none⟩) es.length cap ∧ (∀ e ∈ es, e.cells.length = i.size ∧ ∀ y ∈ e.cells, y.one = true) ∧
      ∃ news : List Value, news.length = es.length * i.size ∧ (∀ q v, news[q]? = some v → w.cell? ((⟨b, p, none⟩ : Addr).add q) = some v) ∧ (∀ v ∈ news, v.oneCell' = true) ∧
        ∀ a j e y, es[a]? = some e → e.cells[j]? = some y → ∃ v, news[a * i.size + j]? = some v ∧ VR S w μ v y)) : Yield P ρ o w (WPost E S μ w K) := by
  rcases htc with ⟨h0, a, cc, hrx⟩ | ⟨hne, b, p, cap, hrx, hzz, news, n1, n2, n3, n4⟩
  · subst h0
    obtain ⟨N, hN⟩ := hw.fresh
    have hle : Mu.le μ (μ.put k N ⟨none, 0, i.size⟩) := Mu.le_put (hN k N (Nat.le_refl _))
    refine exec_append ho hc ha hat (v := .slice none 0 0) (w' := w) (by rw [hrs, hrx]; exact run_append_empty hu hi (Nat.le_refl _)) ⟨_, _, S, _, h N, .row0 k N 0 i.size (Mu.put_self _ _ _ _), ?_, fun _ h => h, Same.refl _ _, hle⟩
    have hget' : ∀ j, hget ((k, (⟨N, false, e, i.size, []⟩ : Box)) :: hp) j = if k = j then some ⟨N, false, e, i.size, []⟩ else hget hp j := fun j => rfl
    have hold : ∀ j bj, hget hp j = some bj → ∀ B', (μ.put k N ⟨none, 0, i.size⟩) j bj.ver = some B' → μ j bj.ver = some B' := fun j bj hj B' hB' => by
      obtain ⟨B0, h0, _⟩ := hw.box j bj hj
      have := hle _ _ _ h0
      rw [this] at hB'; cases hB'; exact h0
    refine ⟨hw.ext, hw.lt, hw.base, hw.new, Mu.put_fresh hw.fresh, fun j bj hj => ?_, ?_, hw.le.trans hle⟩
    · rw [hget'] at hj
      by_cases hkj : k = j
      · rw [if_pos hkj] at hj; cases hj; subst hkj
        exact ⟨_, Mu.put_self _ _ _ _, rfl, rfl⟩
      · rw [if_neg hkj] at hj
        obtain ⟨B0, h0, hz0, hh⟩ := hw.box j bj hj
        refine ⟨B0, hle _ _ _ h0, hz0, ?_⟩
        cases hbl : B0.blk with
        | none => rw [hbl] at hh; exact hh
        | some b =>
          rw [hbl] at hh
          obtain ⟨a1, a2, a3, cu, a4, a5, a6, a7, a8⟩ := hh
          exact ⟨a1, a2, a3, cu, a4, a5, a6, a7, a8.mono (fun _ h => h) (Same.refl _ _) hle⟩
    · intro j j' bj bj' Bj Bj' b hj hj' hne hf1 hf2 hBj hBj' hbl
      rw [hget'] at hj hj'
      by_cases hkj : k = j
      · rw [if_pos hkj] at hj; cases hj; subst hkj
        rw [Mu.put_self] at hBj; cases hBj; cases hbl
      · rw [if_neg hkj] at hj
        by_cases hkj' : k = j'
        · rw [if_pos hkj'] at hj'; cases hj'; subst hkj'
          rw [Mu.put_self] at hBj'; cases hBj'; simp
        · rw [if_neg hkj'] at hj'
          exact hw.apart j j' bj bj' Bj Bj' b hj hj' hne hf1 hf2 (hold j bj hj _ hBj) (hold j' bj' hj' _ hBj') hbl
  · have hm0 : 0 < es.length := List.length_pos_iff.2 hne
    have h48 : es.length * i.bytes ≤ 281474976710656 := by generalize es.length * i.bytes = q at *; omega
    have h63 : (es.length : Int) ≤ 9223372036854775807 := by unfold maxLen at hml; omega
    have hr := run_append_nil (P := P) w t o.type e i zc hu hi hzi ⟨b, p, none⟩ es.length cap news n1 n2 hm0 h63 h48
    have hge := grownCap_ge w es.length 0 e
    have hcm := grownCap_le_maxLen w es.length 0 e (by omega)
    obtain ⟨v, w1, w2, w3⟩ := hw.fresh_row (w' := w.drew.alloc (.cells (news.toArray ++ Builtin.zeroCells zc.cells (grownCap w es.length 0 e - es.length)) e)) rfl rfl rfl (by simp) (fun b hb => Below.heap_alloc w.drew _ b hb) (heap_alloc_new w.drew _) (cap := grownCap w es.length 0 e) (esz := i.size) (es := es)
      (by simp only [Array.size_append, List.size_toArray, size_zeroCells, hzv, n1, ← Nat.add_mul]; congr 1; omega) hcm (by omega)
      (by
        have := Lies.append (S := S) (w := w) (μ := μ) (cur := #[]) (cur' := news.toArray ++ Builtin.zeroCells zc.cells (grownCap w es.length 0 e - es.length)) (esz := i.size) (n := 0) (es := []) (es' := es) (news := news) ⟨by simp, by simp⟩ (Nat.le_refl _) hzz n4 (fun q hq => by simp at hq)
          (fun q hq => by
            rw [Nat.zero_mul, Nat.zero_add, Array.getElem?_append_left (by simp [n1]; omega)]
            simp)
        simpa using this) k
    refine exec_append ho hc ha hat (by rw [hrs, hrx]; exact hr) ⟨_, _, S, _, h v, ?_, w1, fun _ h => h, w2, w3⟩
    exact .row k v _ _ _ i.size (Mu.put_self _ _ _ _) (by omega) hcm

theorem w_append {o : Oper} {c : Call} {s x : Operand} {is ix : IArg} {t e : TypeId} {k : Nat} {i : TypeInfo} {z : AV} {K : AV → Hp → Prop} (ho : o.op = .call c) (hc : c.callee = .builtin .append) (ha : c.args.toList = [s, x]) (hat : c.argTypes.toList = [t, t])
    (he : tyElem P t = some e) (hi : P.info? e = some i) (hz : tyZero P e = some z) (hs : lowArg s = some is) (hx : lowArg x = some ix) (hcl : z.cells.length = i.size) (hpos : 0 < i.size)
    (h : aApp hp k e i.size i.bytes (is.ev fr) ((aTail hp (ix.ev fr)).map (·.map (AV.pur hp))) K) (hw : WI E S w μ hp) (hf : Fits S w μ fr ρ o.op.operands.toList) : Yield P ρ o w (WPost E S μ w K) := by
  have hu := tyElem_ok he
  obtain ⟨zc, hzi, hzv⟩ : ∃ zv, i.zero = some zv ∧ zv.cells.size = i.size := by
    unfold tyZero at hz
    rw [hi] at hz
    cases hzz : i.zero with
    | none => simp [hzz] at hz
    | some zv =>
      simp only [Option.bind_some, hzz] at hz
      have := (lowVal_ok (S := fun _ => True) (w := default) (μ := mu0) hz)
      have h2 := (this.1.cells (AV.ok_iff.1 this.2)).1.1
      exact ⟨zv, rfl, by rw [← hcl]; simpa using h2⟩
  have hops : ∀ y, y ∈ [s, x] → y ∈ o.op.operands.toList := fun y hy => by simp only [ho, Op.operands, Call.operands, hc, Array.toList_append, ha]; simpa using hy
  have hsv := hf.one (x := s) (hops s (by simp)) hs
  have hxv := hf.one (x := x) (hops x (by simp)) hx
  cases htl : aTail hp (ix.ev fr) with
  | none => rw [htl] at h; unfold aApp at h; split at h <;> first | exact h.elim | (rename_i hh; simp at hh)
  | some es0 =>
    rw [htl] at h
    simp only [Option.map_some] at h
    generalize hes : es0.map (AV.pur hp) = es at h
    have hlen0 : es.length = es0.length := by rw [← hes]; simp
    have hnil0 : es = [] ↔ es0 = [] := by rw [← hes]; simp
    have hpurz : ∀ {esz : Nat}, (∀ e ∈ es0, e.cells.length = esz ∧ ∀ y ∈ e.cells, y.one = true) → ∀ e ∈ es, e.cells.length = esz ∧ ∀ y ∈ e.cells, y.one = true := by
      intro esz hh f hf'
      rw [← hes] at hf'
      obtain ⟨e0, h0, rfl⟩ := List.mem_map.1 hf'
      have hk : e0.ok = true := by
        by_cases hq : e0.isAgg = true
        · simp [AV.ok, hq]
        · have : e0.cells = [e0] := by cases e0 <;> first | rfl | (simp [AV.isAgg] at hq)
          simp [AV.ok, (hh e0 h0).2 e0 (by rw [this]; simp)]
      rw [pur_cells hk]
      refine ⟨by simpa using (hh e0 h0).1, fun y hy => ?_⟩
      obtain ⟨y0, hy0, rfl⟩ := List.mem_map.1 hy
      exact pur1_one ((hh e0 h0).2 y0 hy0)
    have hpurv : ∀ {esz : Nat} {news : List Value}, (∀ e ∈ es0, e.cells.length = esz ∧ ∀ y ∈ e.cells, y.one = true) → (∀ i j e y, es0[i]? = some e → e.cells[j]? = some y → ∃ v, news[i * esz + j]? = some v ∧ VR S w μ v y) →
        ∀ i j e y, es[i]? = some e → e.cells[j]? = some y → ∃ v, news[i * esz + j]? = some v ∧ VR S w μ v y := by
      intro esz news hh hn i j f y p q
      rw [← hes] at p
      simp only [List.getElem?_map, Option.map_eq_some_iff] at p
      obtain ⟨e0, h0, rfl⟩ := p
      have hk : e0.ok = true := by
        by_cases hq : e0.isAgg = true
        · simp [AV.ok, hq]
        · have : e0.cells = [e0] := by cases e0 <;> first | rfl | (simp [AV.isAgg] at hq)
          simp [AV.ok, (hh e0 (List.mem_of_getElem? h0)).2 e0 (by rw [this]; simp)]
      rw [pur_cells hk] at q
      simp only [List.getElem?_map, Option.map_eq_some_iff] at q
      obtain ⟨y0, hy0, rfl⟩ := q
      obtain ⟨v, h1, h2⟩ := hn i j e0 y0 h0 hy0
      exact ⟨v, h1, h2.pur1 hw⟩
    have htc : (∀ f ∈ es, f.cells.length = i.size) → (es = [] ∧ ∃ a c, ρ x = .slice a 0 c) ∨ (es ≠ [] ∧ ∃ b p cap, ρ x = .slice (some ⟨b, p, none⟩) es.length cap ∧ (∀ e ∈ es, e.cells.length = i.size ∧ ∀ y ∈ e.cells, y.one = true) ∧
      ∃ news : List Value, news.length = es.length * i.size ∧ (∀ q v, news[q]? = some v → w.cell? ((⟨b, p, none⟩ : Addr).add q) = some v) ∧ (∀ v ∈ news, v.oneCell' = true) ∧
        ∀ a j e y, es[a]? = some e → e.cells[j]? = some y → ∃ v, news[a * i.size + j]? = some v ∧ VR S w μ v y) := by
      intro hez
      rcases tail_cells hw hxv htl with ⟨h0, a, cc, hrx⟩ | ⟨b, p, cap, esz, hrx, hzz, hcc⟩
      · exact .inl ⟨hnil0.2 h0, a, cc, hrx⟩
      · by_cases hn : es = []
        · refine .inl ⟨hn, some ⟨b, p, none⟩, cap, ?_⟩
          rw [hrx, ← hlen0, hn]; rfl
        · have hlt : 0 < es.length := List.length_pos_iff.2 hn
          have hesz : esz = i.size := by rw [← hez es[0] (List.getElem_mem hlt), (hpurz hzz _ (List.getElem_mem hlt)).1]
          subst hesz
          obtain ⟨news, n1, n2, n3, n4⟩ := tail_news hzz hcc
          exact .inr ⟨hn, b, p, cap, by rw [hrx, hlen0], hpurz hzz, news, by rw [n1, hlen0], n2, n3, hpurv hzz n4⟩
    unfold aApp at h
    split at h
    · rename_i es' e1 e2
      cases e2
      obtain ⟨⟨hez, hby, hml⟩, h⟩ := h
      rw [e1] at hsv
      generalize hrs : ρ s = va at hsv
      cases hsv
      exact app_nil ho hc ha hat hu hi hzi hzv hw hrs hby hml h (htc hez)
    · rename_i j v n es' e1 e2
      cases e2
      split at h
      · rename_i bx hk
        obtain ⟨⟨hver, hfz, hty, hbz, hne, hez, hby, hml⟩, h⟩ := h
        rw [e1] at hsv
        generalize hrs : ρ s = va at hsv
        obtain ⟨B, hB, hz', hh⟩ := hw.box j bx hk
        cases hsv with
        | row0 _ _ cap esz hμ =>
          rw [hver, hμ] at hB
          cases hB
          refine app_nil (k := j) ho hc ha hat hu hi hzi hzv hw hrs (by simpa using hby) (by simpa using hml) (fun v => ?_) (htc hez)
          have := h v
          simpa using this
        | row _ _ _ b cap esz hμ hnc hcm =>
          rw [hver, hμ] at hB
          cases hB
          obtain ⟨a1, a2, a3, cur, a4, a5, a6, a7, a8⟩ := hh
          simp only at hz' a5 a7 a8
          have hesz : esz = i.size := hz'.trans hbz
          subst hesz
          rw [hty] at a4
          have hoth : ∀ j' bj Bj, hget hp j' = some bj → j' ≠ j → bj.frz = false → μ j' bj.ver = some Bj → Bj.blk ≠ some b := fun j' bj Bj hj' hne' hf' hBj e' =>
            hw.apart j' j bj bx Bj ⟨some b, cap, i.size⟩ b hj' hk hne' hf' hfz hBj (by rw [hver]; exact hμ) e' rfl
          obtain ⟨N, hN⟩ := hw.fresh
          -- in place: the same block, a new version
          have inplace : ∀ (w' : World) (cur' : Array Value), w'.os = w.os → w'.tape = w.tape → w'.output = w.output → w.heap.size ≤ w'.heap.size → (∀ b', b' < w.heap.size → b' ≠ b → w'.heap[b']? = w.heap[b']?) → w'.heap[b]? = some (.cells cur' e (0, 0)) →
              cur'.size = cap * i.size → n + es.length ≤ cap → Lies S w μ cur' i.size (bx.es.take n ++ es) → WPost E S μ w K (.slice (some ⟨b, 0, none⟩) (n + es.length) cap) w' := by
            intro w' cur' hos ht ho' hs hb hcur hsz hfit hl
            have hle : Mu.le μ (μ.put j N ⟨some b, cap, i.size⟩) := Mu.le_put (hN j N (Nat.le_refl _))
            have hsame : Same S w w' := fun b' hb' => hb b' (hw.lt b' hb') (fun e' => a3 hfz (e' ▸ hb'))
            have := hw.put (w' := w') (k := j) (g := b) (bx := ⟨N, false, e, i.size, bx.es.take n ++ es⟩) (B := ⟨some b, cap, i.size⟩) (cur := cur') hos ht ho' hs hb hle (Mu.put_fresh hw.fresh) (Mu.put_self _ _ _ _) rfl rfl rfl (a3 hfz) (a1 hfz) hcur hsz hcm (by simp; omega) (hl.mono (fun _ h => h) hsame hle) hoth
            exact ⟨_, _, S, _, h N, .row j N _ b cap i.size (Mu.put_self _ _ _ _) hfit hcm, this.1, fun _ h => h, this.2, hle⟩
          rcases htc hez with ⟨h0, a, cc, hrx⟩ | ⟨hnn, b', p, cap', hrx, hzz, news, n1, n2, n3, n4⟩
          · subst h0
            have := inplace w cur rfl rfl rfl (Nat.le_refl _) (fun _ _ _ => rfl) a4 a5 (by simpa using hnc) ⟨fun f hf' => a8.1 f (List.mem_of_mem_take (by simpa using hf')), fun i' j' f y p q => by
              simp only [List.append_nil, List.getElem?_take] at p
              split at p
              · exact a8.2 i' j' f y p q
              · cases p⟩
            exact exec_append ho hc ha hat (by rw [hrs, hrx]; exact run_append_empty hu hi hnc) (by simpa using this)
          · by_cases hroom : n + es.length ≤ cap
            · have hfit : n * i.size + news.length ≤ cur.size := by
                rw [n1, a5, ← Nat.add_mul]; exact Nat.mul_le_mul_right _ hroom
              have hr := run_append_room (P := P) w t o.type e i hu hi b n cap cur a4 ⟨b', p, none⟩ es.length cap' news n1 n2 n3 hroom hfit
              refine exec_append ho hc ha hat (by rw [hrs, hrx]; exact hr) (inplace (w.setRow b (cur.toList.take (n * i.size) ++ news ++ cur.toList.drop (n * i.size + news.length)).toArray) (cur.toList.take (n * i.size) ++ news ++ cur.toList.drop (n * i.size + news.length)).toArray rfl rfl rfl (by simp [World.setRow]) (fun b'' _ hne' => setRow_other w b b'' _ hne') (setRow_heap w b cur _ _ _ a4) (by simp; omega) hroom ?_)
              refine Lies.append (cur := cur) (news := news) a8 hne hzz n4 (fun q hq => ?_) (fun q hq => ?_)
              · have := splice_get cur.toList (n * i.size) news q (by simpa using hfit)
                rw [if_neg (by omega)] at this
                simpa using this
              · have := splice_get cur.toList (n * i.size) news (n * i.size + q) (by simpa using hfit)
                rw [if_pos (by omega), show n * i.size + q - n * i.size = q by omega] at this
                simpa using this
            · have holds : ∀ q v, (cur.toList.take (n * i.size))[q]? = some v → w.cell? ((⟨b, 0, none⟩ : Addr).add q) = some v := fun q v hv => by
                rw [addr_add, cell_of_block a4, Nat.zero_add]
                rw [List.getElem?_take] at hv
                split at hv
                · simpa using hv
                · cases hv
              have hcur : n * i.size ≤ cur.size := by rw [a5]; exact Nat.mul_le_mul_right _ hnc
              have hol : (cur.toList.take (n * i.size)).length = n * i.size := by simp; omega
              have hr := run_append_grow (P := P) w t o.type e i zc hu hi hzi ⟨b, 0, none⟩ n cap (cur.toList.take (n * i.size)) hol holds ⟨b', p, none⟩ es.length cap' news n1 n2 (by omega) (by unfold maxLen at hml; omega) (growslice_fits (by omega) hby)
              have hge := grownCap_ge w (n + es.length) cap e
              have hcm' := grownCap_le_maxLen w (n + es.length) cap e (by omega)
              obtain ⟨v', w1, w2, w3⟩ := hw.fresh_row (w' := w.drew.alloc (.cells ((cur.toList.take (n * i.size)).toArray ++ news.toArray ++ Builtin.zeroCells zc.cells (grownCap w (n + es.length) cap e - (n + es.length))) e)) rfl rfl rfl (by simp) (fun b hb => Below.heap_alloc w.drew _ b hb) (heap_alloc_new w.drew _) (cap := grownCap w (n + es.length) cap e) (esz := i.size) (es := bx.es.take n ++ es)
                (by simp only [Array.size_append, List.size_toArray, size_zeroCells, hzv, n1, hol, ← Nat.add_mul]; congr 1; omega) hcm' (by simp; omega)
                (by
                  refine Lies.append (cur := cur) (news := news) a8 hne hzz n4 (fun q hq => ?_) (fun q hq => ?_)
                  · have := get_app (A := cur.toList.take (n * i.size)) (B := news) (C := (Builtin.zeroCells zc.cells (grownCap w (n + es.length) cap e - (n + es.length))).toList) (q := q) (by omega)
                    rw [List.getElem?_take, if_pos hq] at this
                    rw [← Array.getElem?_toList]
                    simpa using this
                  · have := get_app2 (A := cur.toList.take (n * i.size)) (B := news) (C := (Builtin.zeroCells zc.cells (grownCap w (n + es.length) cap e - (n + es.length))).toList) (q := q) (by omega)
                    rw [hol] at this
                    rw [← Array.getElem?_toList]
                    simpa using this) j
              refine exec_append ho hc ha hat (by rw [hrs, hrx]; exact hr) ⟨_, _, S, _, ?_, .row j v' _ _ _ i.size (Mu.put_self _ _ _ _) hge hcm', w1, fun _ h => h, w2, w3⟩
              have := h v'
              exact this
      · exact h.elim
    · exact h.elim

theorem hget_app (a b : Hp) (k : Nat) : hget (a ++ b) k = match hget a k with | some x => some x | none => hget b k := by
  induction a with
  | nil => rfl
  | cons p r ih =>
    obtain ⟨j, x⟩ := p
    simp only [List.cons_append, hget]
    split
    · rfl
    · exact ih
theorem hget_rest (hs : List Nat) (hp : Hp) (k : Nat) : hget (hrest hs hp) k = if hs.contains k then none else hget hp k := by
  induction hp with
  | nil => simp [hrest, hget]
  | cons p r ih =>
    obtain ⟨j, x⟩ := p
    unfold hrest at ih ⊢
    rw [List.filter_cons]
    by_cases hj : hs.contains j = true
    · simp only [hj, Bool.not_true, Bool.false_eq_true, if_false, ih, hget]
      by_cases hjk : j = k
      · subst hjk; rw [if_pos hj, if_pos hj]
      · rw [if_neg hjk]
    · have hj' : hs.contains j = false := by simpa using hj
      simp only [hj', Bool.not_false, if_true, hget, ih]
      by_cases hjk : j = k
      · subst hjk; rw [if_pos rfl, if_pos rfl, if_neg hj]
      · rw [if_neg hjk, if_neg hjk]
theorem hget_sel (hs : List Nat) (hp : Hp) (k : Nat) : hget (hsel hs hp) k = if hs.contains k then hget hp k else none := by
  induction hs with
  | nil => rfl
  | cons j r ih =>
    unfold hsel at ih ⊢
    rw [List.filterMap_cons]
    cases hj : hget hp j with
    | none =>
      simp only [Option.map_none, ih, List.contains_cons]
      by_cases hjk : k = j
      · subst hjk; simp [hj]
      · simp [hjk]
    | some b =>
      simp only [Option.map_some, hget, ih, List.contains_cons]
      by_cases hjk : j = k
      · subst hjk; simp [hj]
      · rw [if_neg hjk]; simp [Ne.symm hjk]

/-- what a call that is handed own rows asks and leaves -/
theorem callsH_post {f : FuncId} {args : List AV} {hs : List Nat} {Post : AV → Hp → Prop} (hc : CallsH P f args (hsel hs hp) Post) (hw : WI E S w μ hp) {vs : List Value} (hv : VRs S w μ vs args) {K : AV → Hp → Prop} (hk : ∀ r hp', Post r hp' → K r (hp' ++ hrest hs hp)) :
    Calls P f vs.toArray w fun e w' => ∃ v, e = .returned v ∧ WPost E S μ w K v w' := by
  obtain ⟨_, hc⟩ := hc
  have hsg : ∀ k bx, hget (hsel hs hp) k = some bx → hget hp k = some bx ∧ hs.contains k = true := fun k bx h => by
    rw [hget_sel] at h
    split at h
    · exact ⟨h, by assumption⟩
    · cases h
  have hown : ∀ b, ownOf μ (hsel hs hp) b → (E.w0.heap.size ≤ b ∨ E.own b) ∧ ¬ S b ∧ b < w.heap.size := by
    rintro b ⟨k, bx, B, h1, h2, h3, h4⟩
    obtain ⟨B0, hB, hz, hh⟩ := hw.box k bx (hsg k bx h1).1
    rw [h3] at hB; cases hB
    rw [h4] at hh
    obtain ⟨a1, a2, a3, cur, a4, _⟩ := hh
    exact ⟨a1 h2, a3 h2, (Array.getElem?_eq_some_iff.1 a4).1⟩
  have hW : WI ⟨w, S, ownOf μ (hsel hs hp), μ⟩ S w μ (hsel hs hp) := by
    refine ⟨⟨rfl, rfl, rfl, Nat.le_refl _, fun _ _ _ => rfl⟩, hw.lt, fun _ h => h, fun _ h => .inl h, hw.fresh, fun k bx hk => ?_, fun k k' bx bx' B B' b hk hk' => hw.apart k k' bx bx' B B' b (hsg _ _ hk).1 (hsg _ _ hk').1, Mu.le.refl _⟩
    obtain ⟨B, hB, hz, hh⟩ := hw.box k bx (hsg k bx hk).1
    refine ⟨B, hB, hz, ?_⟩
    cases hbl : B.blk with
    | none => rw [hbl] at hh; exact hh
    | some b =>
      rw [hbl] at hh
      obtain ⟨a1, a2, a3, cur, a4, a5, a6, a7, a8⟩ := hh
      exact ⟨fun hfz => .inr ⟨k, bx, B, hk, hfz, hB, hbl⟩, a2, a3, cur, a4, a5, a6, a7, a8⟩
  refine (hc S w μ vs hW hv).mono fun e w' ⟨v, r, hp', S', μ', he, hpost, hvr, hw'⟩ => ⟨v, he, r, _, S', μ', hk r hp' hpost, hvr, ?_, hw'.base, ?_, hw'.le⟩
  case refine_2 => exact fun b hb => hw'.ext.block b (hw.lt b hb) (fun ho => (hown b ho).2.1 hb)
  have hsame : Same S w w' := fun b hb => hw'.ext.block b (hw.lt b hb) (fun ho => (hown b ho).2.1 hb)
  have hle : Mu.le μ μ' := hw'.le
  have hext := hw'.ext
  have hsz : w.heap.size ≤ w'.heap.size := hext.size
  have hold : ∀ j bj, hget hp j = some bj → ∀ B', μ' j bj.ver = some B' → μ j bj.ver = some B' := fun j bj hj B' hB' => by
    obtain ⟨B0, h0, _⟩ := hw.box j bj hj
    have := hle _ _ _ h0
    rw [this] at hB'; cases hB'; exact h0
  have split : ∀ k bx, hget (hp' ++ hrest hs hp) k = some bx → hget hp' k = some bx ∨ (hget hp' k = none ∧ hget hp k = some bx ∧ hs.contains k = false) := fun k bx h => by
    rw [hget_app] at h
    cases hk : hget hp' k with
    | some x => rw [hk] at h; exact .inl h
    | none =>
      rw [hk] at h
      simp only [hget_rest] at h
      split at h
      · cases h
      · rename_i hn; exact .inr ⟨rfl, h, by simpa using hn⟩
  -- the block of an own row that was not handed over
  have rest : ∀ k bx B b, hget hp k = some bx → hs.contains k = false → μ k bx.ver = some B → B.blk = some b → bx.frz = false → ¬ ownOf μ (hsel hs hp) b ∧ ¬ S b ∧ b < w.heap.size := by
    intro k bx B b h1 h2 h3 h4 h5
    obtain ⟨B0, hB, hz, hh⟩ := hw.box k bx h1
    rw [h3] at hB; cases hB
    rw [h4] at hh
    obtain ⟨a1, a2, a3, cur, a4, _⟩ := hh
    refine ⟨?_, a3 h5, (Array.getElem?_eq_some_iff.1 a4).1⟩
    rintro ⟨k', bx', B', c1, c2, c3, c4⟩
    obtain ⟨c1, c5⟩ := hsg _ _ c1
    exact hw.apart k' k bx' bx B' B b c1 h1 (fun e => by subst e; rw [c5] at h2; cases h2) c2 h5 c3 h3 c4 h4
  have newB : ∀ b, S' b → S b ∨ w.heap.size ≤ b ∨ ownOf μ (hsel hs hp) b := fun b hb => hw'.new b hb
  refine ⟨⟨hext.os.trans hw.ext.os, hext.tape.trans hw.ext.tape, hext.output.trans hw.ext.output, Nat.le_trans hw.ext.size hsz, fun b hb hn => ?_⟩, hw'.lt, fun b hb => hw'.base b (hw.base b hb), fun b hb => ?_, hw'.fresh, fun k bx hk => ?_, ?_, hw.le.trans hle⟩
  · refine (hext.block b (Nat.lt_of_lt_of_le hb hw.ext.size) (fun ho => ?_)).trans (hw.ext.block b hb hn)
    rcases (hown b ho).1 with h | h
    · omega
    · exact hn h
  · rcases newB b hb with h | h | h
    · exact hw.new b h
    · exact .inr (.inl (Nat.le_trans hw.ext.size h))
    · exact .inr (hown b h).1
  · rcases split k bx hk with h | ⟨_, h, hn⟩
    · obtain ⟨B, hB, hz, hh⟩ := hw'.box k bx h
      refine ⟨B, hB, hz, ?_⟩
      cases hbl : B.blk with
      | none => rw [hbl] at hh; exact hh
      | some b =>
        rw [hbl] at hh
        obtain ⟨a1, a2, a3, cur, a4, a5, a6, a7, a8⟩ := hh
        refine ⟨fun hf => ?_, a2, a3, cur, a4, a5, a6, a7, a8⟩
        rcases a1 hf with h | h
        · exact .inl (Nat.le_trans hw.ext.size h)
        · exact (hown b h).1
    · obtain ⟨B, hB, hz, hh⟩ := hw.box k bx h
      refine ⟨B, hle _ _ _ hB, hz, ?_⟩
      cases hbl : B.blk with
      | none => rw [hbl] at hh; exact hh
      | some b =>
        rw [hbl] at hh
        obtain ⟨a1, a2, a3, cur, a4, a5, a6, a7, a8⟩ := hh
        have hlt : b < w.heap.size := (Array.getElem?_eq_some_iff.1 a4).1
        have hno : ¬ ownOf μ (hsel hs hp) b := by
          cases hf : bx.frz with
          | false => exact (rest k bx B b h hn hB hbl hf).1
          | true => exact fun ho => (hown b ho).2.1 (a2 hf)
        refine ⟨a1, fun hf => hw'.base b (a2 hf), fun hf hs' => ?_, cur, (hext.block b hlt hno).trans a4, a5, a6, a7, a8.mono hw'.base hsame hle⟩
        rcases newB b hs' with h1 | h1 | h1
        · exact a3 hf h1
        · omega
        · exact hno h1
  · -- own rows lie apart
    have cross : ∀ k k' bx bx' B B' b, hget hp' k = some bx → hget hp k' = some bx' → hs.contains k' = false → bx.frz = false → bx'.frz = false → μ' k bx.ver = some B → μ' k' bx'.ver = some B' → B.blk = some b → B'.blk ≠ some b := by
      intro k k' bx bx' B B' b h h' hn hf hf' hB hB' hbl hbl'
      obtain ⟨B0, hB0, hz, hh⟩ := hw'.box k bx h
      rw [hB] at hB0; cases hB0
      rw [hbl] at hh
      obtain ⟨a1, _⟩ := hh
      obtain ⟨c1, c2, c3⟩ := rest k' bx' B' b h' hn (hold k' bx' h' _ hB') hbl' hf'
      rcases a1 hf with h1 | h1
      · exact absurd c3 (Nat.not_lt.2 h1)
      · exact c1 h1
    intro k k' bx bx' B B' b hk hk' hne hf hf' hB hB' hbl
    rcases split k bx hk with h | ⟨_, h, hn⟩
    · rcases split k' bx' hk' with h' | ⟨_, h', hn'⟩
      · exact hw'.apart k k' bx bx' B B' b h h' hne hf hf' hB hB' hbl
      · exact cross k k' bx bx' B B' b h h' hn' hf hf' hB hB' hbl
    · rcases split k' bx' hk' with h' | ⟨_, h', hn'⟩
      · exact fun hbl' => cross k' k bx' bx B' B b h' h hn hf' hf hB' hB hbl' hbl
      · exact hw.apart k k' bx bx' B B' b h h' hne hf hf' (hold k bx h _ hB) (hold k' bx' h' _ hB') hbl

theorem w_callH {o : Oper} {c : Call} {f : FuncId} {is : List IArg} {K : AV → Hp → Prop} (ho : o.op = .call c) (hc : c.callee = .value (.func f)) (hcl : callable P f = true) (hx : lowArgs c.args.toList = some is)
    (h : aCallH P f (is.map fun x => (x.ev fr).purA hp) hp K) (hw : WI E S w μ hp) (hf : Fits S w μ fr ρ o.op.operands.toList) (hfun : ∀ f, ρ (.func f) = .func (.func f) #[] #[]) : Yield P ρ o w (WPost E S μ w K) := by
  obtain ⟨hs, Post, hcc, hk⟩ := h
  have hv := (hf.args (l := c.args.toList) (is := is) (fun x hx => by simp only [ho, Op.operands, Call.operands, hc, Array.toList_append, List.mem_append]; exact .inr hx) hx).purA hw
  have := callsH_post hcc hw hv hk
  unfold Yield
  simp only [execOp, ho, resolve, hc, hfun, Deferred.ofValue, invoke, Sem.run_bind, Sem.run_pure, Result.andThen_ok, callFunc_run hcl]
  have e : (List.map ρ c.args.toList).toArray = #[] ++ Array.map ρ c.args ++ #[] := by apply Array.ext'; simp
  rw [e] at this
  exact this
theorem w_callvH {o : Oper} {c : Call} {x : Operand} {ix : IArg} {is : List IArg} {K : AV → Hp → Prop} (ho : o.op = .call c) (hc : c.callee = .value x) (hx0 : lowArg x = some ix) (hx : lowArgs c.args.toList = some is)
    (h : aCallvH P ((ix.ev fr).purA hp) (is.map fun x => (x.ev fr).purA hp) hp K) (hw : WI E S w μ hp) (hf : Fits S w μ fr ρ o.op.operands.toList) : Yield P ρ o w (WPost E S μ w K) := by
  unfold aCallvH at h
  split at h
  · rename_i f caps e1
    obtain ⟨hs, Post, hcc, hk⟩ := h
    have hv := (hf.args (l := c.args.toList) (is := is) (fun x hx => by simp only [ho, Op.operands, Call.operands, hc, Array.toList_append, List.mem_append]; exact .inr hx) hx).purA hw
    have hfv := (hf.one (x := x) (by simp [ho, Op.operands, Call.operands, hc]) hx0).purA hw
    rw [e1] at hfv
    generalize hrx : ρ x = va at hfv
    cases hfv with
    | fn _ cs _ hl hh =>
      have hcv : VRs S w μ cs.toList caps := ⟨by simpa using hl, fun i v y p q => hh i v y (by simpa using p) q⟩
      have := callsH_post hcc hw (hv.append hcv) hk
      unfold Yield
      simp only [execOp, ho, resolve, hc, hrx, Deferred.ofValue, invoke, Sem.run_bind, Sem.run_pure, Result.andThen_ok, callFunc_run hcc.1]
      have e : (List.map ρ c.args.toList ++ cs.toList).toArray = #[] ++ Array.map ρ c.args ++ cs := by apply Array.ext'; simp
      rw [e] at this
      exact this
  · exact h.elim

/-- ALL OPERATIONS -/
theorem low_any0 {own : List (Nat × Nat)} {o : Oper} {io : IOp} {K : AV → Hp → Prop} (hl : lowOp0 P own o = some io) (h : io.sem P fr hp K) (hw : WI E S w μ hp) (hf : Fits S w μ fr ρ o.op.operands.toList)
    (hc : ∀ v, ρ (.const v) = v) (hfn : ∀ f, ρ (.func f) = .func (.func f) #[] #[]) : Yield P ρ o w (WPost E S μ w K) := by
  by_cases hq : io.quiet = true
  · obtain ⟨x, hk, hx⟩ := low_quiet0 (E := E) hl hq h
    exact (hx S w μ ρ hw hf hc hfn).mono fun v w' ⟨S', h1, h2, h3, h4⟩ => ⟨x, hp, S', μ, hk, h1, h2, h3, h4, Mu.le.refl _⟩
  · unfold lowOp0 at hl
    simp only at hl
    split at hl
    · rename_i x ho
      cases hx : lowArg x <;> rw [hx] at hl <;> cases hl
      exact absurd rfl hq
    · rename_i x ho
      cases hx : lowArg x <;> rw [hx] at hl <;> cases hl
      exact absurd rfl hq
    · split at hl <;> cases hl
      exact absurd rfl hq
    · split at hl
      · split at hl <;> cases hl <;> exact absurd rfl hq
      · cases hl
    · rename_i op t x ho
      cases hx : lowArg x <;> rw [hx] at hl <;> cases hl
      exact absurd rfl hq
    · rename_i e ho
      split at hl
      · cases hl; exact absurd rfl hq
      · cases hl; exact w_alloc ho (by assumption) h hw
      · cases hl
    · rename_i e x ho
      split at hl
      · cases hl; exact absurd rfl hq
      · cases hl; exact w_box ho (by assumption) h hw hf
      · cases hl
    · split at hl
      · split at hl
        · split at hl <;> cases hl
          exact absurd rfl hq
        · cases hl
      · cases hl
    · rename_i t m ps ho
      split at hl
      · split at hl
        · split at hl
          · rename_i hcc
            split at hl
            · cases hl; exact absurd rfl hq
            · cases hl
              exact w_slO ho (by assumption) (by rw [hcc.1]; assumption) (by assumption) (by assumption) (by rw [hcc.1]; exact hcc.2.2) (by rw [hcc.1]; exact hcc.2.1) h hw hf
          · cases hl
        · cases hl
      · cases hl
    · split at hl <;> cases hl
      exact absurd rfl hq
    · rename_i t a x ho
      split at hl
      · cases hl; exact w_store ho (by assumption) (by assumption) (by assumption) h hw hf
      · cases hl
    · split at hl
      · split at hl
        · split at hl <;> cases hl
          exact absurd rfl hq
        · cases hl
      · cases hl
    · split at hl
      · split at hl
        · split at hl <;> cases hl
          exact absurd rfl hq
        · cases hl
      · cases hl
    · split at hl
      · split at hl <;> cases hl
        exact absurd rfl hq
      · cases hl
    · split at hl <;> cases hl
      exact absurd rfl hq
    · split at hl
      · split at hl <;> cases hl <;> exact absurd rfl hq
      · cases hl
    · rename_i t l c ho
      split at hl
      · split at hl
        · split at hl
          · rename_i hcc
            split at hl <;> cases hl
            exact w_mkSlice ho (by assumption) (by assumption) (by assumption) (by assumption) hcc.1 hcc.2.1 hcc.2.2.1 hcc.2.2.2 h hc hw hf
          · cases hl
        · cases hl
      · cases hl
    · split at hl
      · cases hl; exact absurd rfl hq
      · split at hl
        · split at hl <;> cases hl
          exact absurd rfl hq
        · cases hl
      · cases hl
    · rename_i x i ho
      cases hx : lowArg x <;> rw [hx] at hl <;> cases hl
      exact absurd rfl hq
    · rename_i f first caps ho
      split at hl
      · cases hx : lowArgs caps.toList <;> rw [hx] at hl <;> cases hl
        exact absurd rfl hq
      · cases hl
    · rename_i x ho
      cases hx : lowArg x <;> rw [hx] at hl <;> cases hl
      exact absurd rfl hq
    · rename_i c ho
      split at hl
      · split at hl
        · split at hl <;> cases hl <;> exact absurd rfl hq
        · cases hl
      · rename_i hcc
        split at hl
        · split at hl
          · rename_i htt
            split at hl
            · split at hl
              · split at hl
                · rename_i hzz
                  cases hl
                  have htt' := eq_of_beq htt
                  subst htt'
                  exact w_append ho hcc (by assumption) (by assumption) (by assumption) (by assumption) (by assumption) (by assumption) (by assumption) hzz.1 hzz.2 h hw hf
                · cases hl
              · cases hl
            · cases hl
          · cases hl
        · cases hl
      · rename_i hcc
        cases hx : lowArgs c.args.toList <;> rw [hx] at hl <;> cases hl
        exact absurd rfl hq
      · rename_i hcc
        cases hx : lowArgs c.args.toList <;> rw [hx] at hl <;> cases hl
        exact absurd rfl hq
      · rename_i hc'
        split at hl
        · rename_i hcl
          cases hx : lowArgs c.args.toList <;> rw [hx] at hl <;> simp only [Option.map_none, Option.map_some, reduceCtorEq, Option.some.injEq] at hl
          subst hl
          split at h
          · exact w_callH ho hc' hcl hx h hw hf hfn
          · rename_i hh; rw [if_neg hh] at hq; exact absurd rfl hq
        · cases hl
      · rename_i hc'
        split at hl
        · split at hl
          · cases hl; exact w_callvH ho hc' (by assumption) (by assumption) h hw hf
          · cases hl; exact absurd rfl hq
        · cases hl
      · cases hl
    · cases hl
theorem low_any {own : List (Nat × Nat)} {o : Oper} {io : IOp} {K : AV → Hp → Prop} (hl : lowOp P own o = some io) (h : io.sem P fr hp K) (hw : WI E S w μ hp) (hf : Fits S w μ fr ρ o.op.operands.toList)
    (hc : ∀ v, ρ (.const v) = v) (hfn : ∀ f, ρ (.func f) = .func (.func f) #[] #[]) : Yield P ρ o w (WPost E S μ w K) := by
  unfold lowOp at hl
  split at hl
  · cases hl; exact low_any0 (by assumption) h hw hf hc hfn
  · cases hl; exact h.elim
end

end Go.Proofs.Ytlpapmofmdgllaa.Av
