/-
  THE QUIET OPERATIONS: memory that is only read, or made once for all. Conditions: none.
-/
import Derived.Test.YtlpapmofmdgllaaAvSnd2
import Derived.Laws.BytesString
set_option linter.unusedVariables false
set_option linter.unusedSimpArgs false
namespace Go.Proofs.Ytlpapmofmdgllaa.Av
open Go.RowKit

theorem addr_add (b o k : Nat) : (⟨b, o, none⟩ : Addr).add k = ⟨b, o + k, none⟩ := by
  unfold Addr.add; split <;> simp_all

/-- the cells from ⟨b, o⟩ on stand for xs -/
def CellsAt (S : Nat → Prop) (w : World) (μ : Mu) (b o : Nat) (xs : List AV) : Prop :=
  (∀ x ∈ xs, x.one = true) ∧ ∀ j x, xs[j]? = some x → ∃ v, w.cell? ⟨b, o + j, none⟩ = some v ∧ VR S w μ v x
theorem CellsAt.drop {S : Nat → Prop} {w : World} {μ : Mu} {b o : Nat} {xs : List AV} (h : CellsAt S w μ b o xs) (k : Nat) : CellsAt S w μ b (o + k) (xs.drop k) :=
  ⟨fun x hx => h.1 x (List.mem_of_mem_drop hx), fun j x hx => by
    obtain ⟨v, h1, h2⟩ := h.2 (k + j) x (by simpa using hx)
    exact ⟨v, by rw [Nat.add_assoc]; exact h1, h2⟩⟩
theorem CellsAt.vr {S : Nat → Prop} {w : World} {μ : Mu} {b o : Nat} {xs : List AV} (h : CellsAt S w μ b o xs) (hS : S b) : VR S w μ (.pointer (some ⟨b, o, none⟩)) (.obj xs) := by
  refine .obj b o (fun i => (w.cell? ⟨b, o + i, none⟩).getD undef) xs hS h.1 (fun i hi => ?_) (fun i x hx => ?_)
  · obtain ⟨v, h1, _⟩ := h.2 i xs[i] (List.getElem?_eq_getElem hi)
    simp only [h1]; rfl
  · obtain ⟨v, h1, h2⟩ := h.2 i x hx
    simp only [h1]; exact h2
theorem VR.cellsAt {S : Nat → Prop} {w : World} {μ : Mu} {b o : Nat} {xs : List AV} (h : VR S w μ (.pointer (some ⟨b, o, none⟩)) (.obj xs)) : CellsAt S w μ b o xs ∧ S b := by
  cases h with
  | obj _ _ vs _ hS h1 hc hh => exact ⟨⟨h1, fun j x hx => ⟨vs j, hc j (List.getElem?_eq_some_iff.1 hx).1, hh j x hx⟩⟩, hS⟩
theorem VR.obj_form {S : Nat → Prop} {w : World} {μ : Mu} {v : Value} {xs : List AV} (h : VR S w μ v (.obj xs)) : ∃ b o, v = .pointer (some ⟨b, o, none⟩) := by
  cases h with
  | obj b o _ _ _ _ _ _ => exact ⟨b, o, rfl⟩

theorem cell_of_block {w : World} {b : Nat} {cur : Array Value} {e : TypeId} {fz : Nat × Nat} (h : w.heap[b]? = some (.cells cur e fz)) (j : Nat) : w.cell? ⟨b, j, none⟩ = cur[j]? := by
  simp [World.cell?, h]

theorem Lies.at_ {S : Nat → Prop} {w : World} {μ : Mu} {cur : Array Value} {esz : Nat} {es : List AV} {b : Nat} {e : TypeId} {fz : Nat × Nat} (h : Lies S w μ cur esz es) (hb : w.heap[b]? = some (.cells cur e fz)) {i : Nat} (hi : i < es.length) : CellsAt S w μ b (i * esz) es[i].cells :=
  ⟨fun x hx => (h.1 _ (List.getElem_mem hi)).2 x hx, fun j x hx => by
    obtain ⟨v, h1, h2⟩ := h.2 i j es[i] x (List.getElem?_eq_getElem hi) hx
    exact ⟨v, by rw [cell_of_block hb]; exact h1, h2⟩⟩

/-- the values in cells -/
theorem CellsAt.vals {S : Nat → Prop} {w : World} {μ : Mu} {b o : Nat} {xs : List AV} (h : CellsAt S w μ b o xs) : ∃ vs : List Value, VRs S w μ vs xs ∧ ∀ j v, vs[j]? = some v → w.cell? ⟨b, o + j, none⟩ = some v := by
  refine ⟨(List.range xs.length).map fun j => (w.cell? ⟨b, o + j, none⟩).getD undef, ⟨by simp, fun j v x hv hx => ?_⟩, fun j v hv => ?_⟩
  · obtain ⟨u, h1, h2⟩ := h.2 j x hx
    have hj := (List.getElem?_eq_some_iff.1 hx).1
    simp [hj, h1] at hv
    exact hv ▸ h2
  · have hj : j < xs.length := by have := (List.getElem?_eq_some_iff.1 hv).1; simpa using this
    obtain ⟨u, h1, h2⟩ := h.2 j xs[j] (List.getElem?_eq_getElem hj)
    simp [hj, h1] at hv
    rw [h1, hv]

theorem run_isAgg {P : Program} {t : TypeId} {g : Bool} (h : tyAgg P t = some g) (w : World) : (isAgg t).run P w = .ok g w := by
  unfold tyAgg at h
  split at h
  · rename_i fs hu; cases h; simp [isAgg, run_underlying hu]
  · rename_i n e hu; cases h; simp [isAgg, run_underlying hu]
  · rename_i d h1 h2 hu; cases h
    simp only [isAgg, Sem.run_bind, run_underlying hu, Result.andThen_ok]
    cases d <;> first | rfl | (rename_i fs; exact absurd rfl (h1 fs)) | (rename_i n e; exact absurd rfl (h2 n e)) | exact absurd hu (h1 _) | exact absurd hu (h2 _ _)
  · cases h
theorem run_tySize {P : Program} {t : TypeId} {n : Nat} (h : tySize P t = some n) (w : World) : (sizeOf t).run P w = .ok n w := by
  unfold tySize at h
  cases hi : P.info? t with
  | none => rw [hi] at h; cases h
  | some i => rw [hi] at h; cases h; simp [sizeOf, typeInfo, hi]

/-- a load -/
theorem run_loadVar_av {P : Program} {t : TypeId} {g : Bool} {n : Nat} (hg : tyAgg P t = some g) (hn : tySize P t = some n) {S : Nat → Prop} {w : World} {μ : Mu} {b o : Nat} {xs : List AV}
    (h : CellsAt S w μ b o xs) : (g = true → n ≤ xs.length → ∃ v, (loadVar t ⟨b, o, none⟩).run P w = .ok v w ∧ VR S w μ v (.agg (xs.take n))) ∧
      (g = false → ∀ x, xs[0]? = some x → ∃ v, (loadVar t ⟨b, o, none⟩).run P w = .ok v w ∧ VR S w μ v x) := by
  refine ⟨fun e hl => ?_, fun e x hx => ?_⟩
  · subst e
    obtain ⟨vs, h1, h2⟩ := h.vals
    have hlen : (vs.take n).length = n := by rw [List.length_take, h1.1]; omega
    have hr := run_loadCells_list (P := P) w ⟨b, o, none⟩ (vs.take n) (fun j v hv => by
      rw [addr_add]
      rw [List.getElem?_take] at hv
      split at hv
      · exact h2 j v hv
      · cases hv)
    rw [hlen] at hr
    refine ⟨.agg (vs.take n).toArray, by simp [loadVar, run_isAgg hg, run_tySize hn, hr], ?_⟩
    have h3 := h1.take n
    exact .agg _ _ (by simpa using h3.1) (fun x hx => h.1 x (List.mem_of_mem_take hx)) (fun i v x a b => h3.2 i v x (by simpa using a) b)
  · subst e
    obtain ⟨v, h1, h2⟩ := h.2 0 x hx
    exact ⟨v, by simp [loadVar, run_isAgg hg, h1, show w.cell? ⟨b, o, none⟩ = some v from h1], h2⟩

/-- what was there stays, new blocks may be read for good -/
theorem WI.step {E : Env} {S S' : Nat → Prop} {w w' : World} {μ : Mu} {hp : Hp} (h : WI E S w μ hp) (hos : w'.os = w.os) (ht : w'.tape = w.tape) (ho : w'.output = w.output) (hs : w.heap.size ≤ w'.heap.size)
    (hb : ∀ b, b < w.heap.size → w'.heap[b]? = w.heap[b]?) (h1 : ∀ b, S b → S' b) (h2 : ∀ b, S' b → S b ∨ (w.heap.size ≤ b ∧ b < w'.heap.size)) : WI E S' w' μ hp := by
  have hsame : Same S w w' := fun b hb' => hb b (h.lt b hb')
  refine ⟨⟨hos.trans h.ext.os, ht.trans h.ext.tape, ho.trans h.ext.output, Nat.le_trans h.ext.size hs, fun b hb' hn => (hb b (Nat.lt_of_lt_of_le hb' h.ext.size)).trans (h.ext.block b hb' hn)⟩, fun b hb' => ?_, fun b hb' => h1 b (h.base b hb'), fun b hb' => ?_, h.fresh, fun k bx hk => ?_, h.apart, h.le⟩
  · rcases h2 b hb' with e | e
    · exact Nat.lt_of_lt_of_le (h.lt b e) hs
    · exact e.2
  · rcases h2 b hb' with e | e
    · exact h.new b e
    · exact .inr (.inl (Nat.le_trans h.ext.size e.1))
  · obtain ⟨B, hB, hz, hh⟩ := h.box k bx hk
    refine ⟨B, hB, hz, ?_⟩
    cases hbl : B.blk with
    | none => rw [hbl] at hh; exact hh
    | some b =>
      rw [hbl] at hh
      obtain ⟨a1, a2, a3, cur, a4, a5, a6, a7, a8, a9⟩ := hh
      have hlt : b < w.heap.size := (Array.getElem?_eq_some_iff.1 a4).1
      refine ⟨a1, fun e => h1 b (a2 e), fun e hs' => ?_, cur, (hb b hlt).trans a4, a5, a6, a7, a8, fun i j e x p q => ?_⟩
      · rcases h2 b hs' with e' | e'
        · exact a3 e e'
        · omega
      · obtain ⟨v, b1, b2⟩ := a9 i j e x p q
        exact ⟨v, b1, b2.mono h1 hsame (Mu.le.refl _)⟩

theorem WI.alloc {E : Env} {S : Nat → Prop} {w : World} {μ : Mu} {hp : Hp} (h : WI E S w μ hp) (o : Obj) : WI E (fun b => S b ∨ b = w.heap.size) (w.alloc o) μ hp :=
  h.step rfl rfl rfl (by simp) (fun b hb => Below.heap_alloc w o b hb) (fun b hb => .inl hb) (fun b hb => hb.imp id (fun e => by subst e; exact ⟨Nat.le_refl _, by simp⟩))
theorem same_alloc {E : Env} {S : Nat → Prop} {w : World} {μ : Mu} {hp : Hp} (h : WI E S w μ hp) (o : Obj) : Same S w (w.alloc o) := fun b hb => Below.heap_alloc w o b (h.lt b hb)

theorem VR.pur1 {E : Env} {S : Nat → Prop} {w : World} {μ : Mu} {hp : Hp} (hw : WI E S w μ hp) {v : Value} {x : AV} (h : VR S w μ v x) : VR S w μ v (x.pur1 hp) := by
  cases h with
  | row k v n b cap esz hμ hn hm =>
    simp only [AV.pur1]
    split
    · rename_i bx hk
      split
      · rename_i hc
        obtain ⟨hv, hf, hle⟩ := hc
        obtain ⟨B, hB, hz, hh⟩ := hw.box k bx hk
        rw [hv, hμ] at hB
        cases hB
        obtain ⟨a1, a2, a3, cur, a4, a5, a6, a7, a8⟩ := hh
        have hlen : (bx.es.take n).length = n := by simp; omega
        have key : VR S w μ (.slice (some ⟨b, 0, none⟩) (bx.es.take n).length cap) (.sl (bx.es.take n)) := by
          refine .sl b 0 cap esz (fun i j => (cur[i * esz + j]?).getD undef) (bx.es.take n) (a2 hf) (by rw [hlen]; exact hn) hm (fun e he => a8.1 e (List.mem_of_mem_take he)) (fun i j hi hj => ?_) (fun i j e x p q => ?_)
          · rw [cell_of_block a4, Nat.zero_add]
            have hi' : i < bx.es.length := by rw [hlen] at hi; omega
            have he := a8.1 bx.es[i] (List.getElem_mem hi')
            obtain ⟨u, c1, _⟩ := a8.2 i j bx.es[i] _ (List.getElem?_eq_getElem hi') (List.getElem?_eq_getElem (by rw [he.1]; exact hj))
            rw [c1]; rfl
          · rw [List.getElem?_take] at p
            split at p
            · obtain ⟨u, c1, c2⟩ := a8.2 i j e x p q
              simp only [c1]; exact c2
            · cases p
        rw [hlen] at key
        exact key
      · exact .row k v n b cap esz hμ hn hm
    · exact .row k v n b cap esz hμ hn hm
  | row0 k v cap esz hμ =>
    simp only [AV.pur1]
    split
    · split
      · simp only [List.take_zero]; exact .sl0 none 0 (Nat.zero_le _)
      · exact .row0 k v cap esz hμ
    · exact .row0 k v cap esz hμ
  | ptr k v i off b cap esz hμ =>
    simp only [AV.pur1]
    split
    · rename_i bx hk
      split
      · rename_i hc
        obtain ⟨hv, hf, hle⟩ := hc
        obtain ⟨B, hB, hz, hh⟩ := hw.box k bx hk
        rw [hv, hμ] at hB
        cases hB
        obtain ⟨a1, a2, a3, cur, a4, a5, a6, a7, a8⟩ := hh
        have := ((a8.at_ a4 hle).drop off).vr (a2 hf)
        simpa [List.getD_eq_getElem?_getD, hle] using this
      · exact .ptr k v i off b cap esz hμ
    · exact .ptr k v i off b cap esz hμ
  | _ => simp only [AV.pur1]; constructor <;> assumption
theorem pur1_one {hp : Hp} {x : AV} (h : x.one = true) : (x.pur1 hp).one = true := by
  cases x <;> simp only [AV.pur1] <;> try exact h
  · split
    · split <;> rfl
    · rfl
  · split
    · split <;> rfl
    · rfl
theorem VR.pur {E : Env} {S : Nat → Prop} {w : World} {μ : Mu} {hp : Hp} (hw : WI E S w μ hp) {v : Value} {x : AV} (h : VR S w μ v x) : VR S w μ v (x.pur hp) := by
  cases x with
  | agg xs =>
    cases h with | agg cs _ hl h1 hh =>
    refine .agg cs _ (by simpa using hl) (fun y hy => ?_) (fun i v y p q => ?_)
    · obtain ⟨x, hx, rfl⟩ := List.mem_map.1 hy; exact pur1_one (h1 x hx)
    · simp only [List.getElem?_map, Option.map_eq_some_iff] at q
      obtain ⟨x, hx, rfl⟩ := q
      exact (hh i v x p hx).pur1 hw
  | tup xs =>
    cases h with | tup cs _ hl hh =>
    refine .tup cs _ (by simpa using hl) (fun i v y p q => ?_)
    simp only [List.getElem?_map, Option.map_eq_some_iff] at q
    obtain ⟨x, hx, rfl⟩ := q
    exact (hh i v x p hx).pur1 hw
  | _ => exact VR.pur1 hw h
theorem VR.purA {E : Env} {S : Nat → Prop} {w : World} {μ : Mu} {hp : Hp} (hw : WI E S w μ hp) {v : Value} {x : AV} (h : VR S w μ v x) : VR S w μ v (x.purA hp) := by
  cases x with
  | fn f xs =>
    cases h with | fn _ cs _ hl hh =>
    refine .fn f cs _ (by simpa using hl) (fun i v y p q => ?_)
    simp only [List.getElem?_map, Option.map_eq_some_iff] at q
    obtain ⟨x, hx, rfl⟩ := q
    exact (hh i v x p hx).pur1 hw
  | _ => exact VR.pur hw h
theorem cells_one {x : AV} (h : x.one = true) : x.cells = [x] := by cases x <;> first | rfl | (simp [AV.one] at h)
theorem pur_of_one {hp : Hp} {x : AV} (h : x.one = true) : x.pur hp = x.pur1 hp := by cases x <;> first | rfl | (simp [AV.one] at h)
theorem pur_cells {hp : Hp} {x : AV} (h : x.ok = true) : (x.pur hp).cells = x.cells.map (AV.pur1 hp) := by
  rcases AV.ok_iff.1 h with h | h
  · rw [pur_of_one h, cells_one (pur1_one h), cells_one h]; rfl
  · cases x <;> first | rfl | (simp [AV.isAgg] at h)
theorem pur_ok {hp : Hp} {x : AV} (h : x.ok = true) : (x.pur hp).ok = true := by
  rcases AV.ok_iff.1 h with h | h
  · rw [pur_of_one h]; simp [AV.ok, pur1_one h]
  · cases x <;> first | rfl | (simp [AV.isAgg] at h)

end Go.Proofs.Ytlpapmofmdgllaa.Av
