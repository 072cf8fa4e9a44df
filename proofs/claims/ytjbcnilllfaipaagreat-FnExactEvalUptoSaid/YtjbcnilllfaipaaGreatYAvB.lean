/-
 THE QUIET OPERATIONS OF THE MODEL answer as the abstract ones say. Conditions: none.
-/
import Derived.Test.YtjbcnilllfaipaaGreatYAvA
import Derived.Laws.BytesString
set_option linter.unusedVariables false
set_option linter.unusedSimpArgs false

namespace Go.Proofs.YtjbcnilllfaipaaGreat.Av
open Go.RowKit

theorem EH (b o k : Nat) : (⟨b, o, none⟩ : Addr).add k = ⟨b, o + k, none⟩ := by
 unfold Addr.add; split <;> simp_all

def DB (S : Nat → Prop) (w : World) (μ : Mu) (b o : Nat) (xs : List AV) : Prop :=
 (∀ x ∈ xs, x.one = true) ∧ ∀ j x, xs[j]? = some x → ∃ v, w.cell? ⟨b, o + j, none⟩ = some v ∧ VR S w μ v x
theorem DB.drop {S : Nat → Prop} {w : World} {μ : Mu} {b o : Nat} {xs : List AV} (h : DB S w μ b o xs) (k : Nat) : DB S w μ b (o + k) (xs.drop k) :=
 ⟨fun x hx => h.1 x (List.mem_of_mem_drop hx), fun j x hx => by
  obtain ⟨v, h1, h2⟩ := h.2 (k + j) x (by simpa using hx)
  exact ⟨v, by rw [Nat.add_assoc]; exact h1, h2⟩⟩
theorem DB.vr {S : Nat → Prop} {w : World} {μ : Mu} {b o : Nat} {xs : List AV} (h : DB S w μ b o xs) (hS : S b) : VR S w μ (.pointer (some ⟨b, o, none⟩)) (.obj xs) := by
 refine .obj b o (fun i => (w.cell? ⟨b, o + i, none⟩).getD undef) xs hS h.1 (fun i hi => ?_) (fun i x hx => ?_)
 ·obtain ⟨v, h1, _⟩ := h.2 i xs[i] (List.getElem?_eq_getElem hi)
  simp only [h1]; rfl
 ·obtain ⟨v, h1, h2⟩ := h.2 i x hx
  simp only [h1]; exact h2
theorem VR.SO {S : Nat → Prop} {w : World} {μ : Mu} {b o : Nat} {xs : List AV} (h : VR S w μ (.pointer (some ⟨b, o, none⟩)) (.obj xs)) : DB S w μ b o xs ∧ S b := by
 cases h with
 | obj _ _ vs _ hS h1 hc hh => exact ⟨⟨h1, fun j x hx => ⟨vs j, hc j (List.getElem?_eq_some_iff.1 hx).1, hh j x hx⟩⟩, hS⟩
theorem VR.LO {S : Nat → Prop} {w : World} {μ : Mu} {v : Value} {xs : List AV} (h : VR S w μ v (.obj xs)) : ∃ b o, v = .pointer (some ⟨b, o, none⟩) := by
 cases h with
 | obj b o _ _ _ _ _ _ => exact ⟨b, o, rfl⟩

theorem HZ {w : World} {b : Nat} {cur : Array Value} {e : TypeId} {fz : Nat × Nat} (h : w.heap[b]? = some (.cells cur e fz)) (j : Nat) : w.cell? ⟨b, j, none⟩ = cur[j]? := by
 simp [World.cell?, h]

theorem Et.at_ {S : Nat → Prop} {w : World} {μ : Mu} {cur : Array Value} {esz : Nat} {es : List AV} {b : Nat} {e : TypeId} {fz : Nat × Nat} (h : Et S w μ cur esz es) (hb : w.heap[b]? = some (.cells cur e fz)) {i : Nat} (hi : i < es.length) : DB S w μ b (i * esz) es[i].cells :=
 ⟨fun x hx => (h.1 _ (List.getElem_mem hi)).2 x hx, fun j x hx => by
  obtain ⟨v, h1, h2⟩ := h.2 i j es[i] x (List.getElem?_eq_getElem hi) hx
  exact ⟨v, by rw [HZ hb]; exact h1, h2⟩⟩

theorem Et.atR {S : Nat → Prop} {w : World} {μ : Mu} {cur : Array Value} {esz : Nat} {es : List AV} {b : Nat} {e : TypeId} (h : Et S w μ cur esz es) (hb : CX w b cur e) {i : Nat} (hi : i < es.length) : DB S w μ b (i * esz) es[i].cells := let ⟨_, h1, _⟩ := hb; h.at_ h1 hi
theorem DB.Aey {S : Nat → Prop} {w : World} {μ : Mu} {b o : Nat} {xs : List AV} (h : DB S w μ b o xs) : ∃ vs : List Value, VRs S w μ vs xs ∧ ∀ j v, vs[j]? = some v → w.cell? ⟨b, o + j, none⟩ = some v := by
 refine ⟨(List.range xs.length).map fun j => (w.cell? ⟨b, o + j, none⟩).getD undef, ⟨by simp, fun j v x hv hx => ?_⟩, fun j v hv => ?_⟩
 ·obtain ⟨u, h1, h2⟩ := h.2 j x hx
  have hj := (List.getElem?_eq_some_iff.1 hx).1
  simp [hj, h1] at hv
  exact hv ▸ h2
 ·have hj : j < xs.length := by have := (List.getElem?_eq_some_iff.1 hv).1; simpa using this
  obtain ⟨u, h1, h2⟩ := h.2 j xs[j] (List.getElem?_eq_getElem hj)
  simp [hj, h1] at hv
  rw [h1, hv]

theorem Ku {P : Program} {t : TypeId} {g : Bool} (h : Lq P t = some g) (w : World) : (isAgg t).run P w = .ok g w := by
 unfold Lq at h
 split at h
 ·rename_i fs hu; cases h; simp [isAgg, run_underlying hu]
 ·rename_i n e hu; cases h; simp [isAgg, run_underlying hu]
 ·rename_i d h1 h2 hu; cases h
  simp only [isAgg, Sem.run_bind, run_underlying hu, Result.andThen_ok]
  cases d <;> first | rfl | (rename_i fs; exact absurd rfl (h1 fs)) | (rename_i n e; exact absurd rfl (h2 n e)) | exact absurd hu (h1 _) | exact absurd hu (h2 _ _)
 ·cases h
theorem CV {P : Program} {t : TypeId} {n : Nat} (h : B4 P t = some n) (w : World) : (sizeOf t).run P w = .ok n w := by
 unfold B4 at h
 cases hi : P.info? t with
 | none => rw [hi] at h; cases h
 | some i => rw [hi] at h; cases h; simp [sizeOf, typeInfo, hi]

theorem FI {P : Program} {t : TypeId} {g : Bool} {n : Nat} (hg : Lq P t = some g) (hn : B4 P t = some n) {S : Nat → Prop} {w : World} {μ : Mu} {b o : Nat} {xs : List AV}
  (h : DB S w μ b o xs) : (g = true → n ≤ xs.length → ∃ v, (loadVar t ⟨b, o, none⟩).run P w = .ok v w ∧ VR S w μ v (.agg (xs.take n))) ∧
   (g = false → ∀ x, xs[0]? = some x → ∃ v, (loadVar t ⟨b, o, none⟩).run P w = .ok v w ∧ VR S w μ v x) := by
 refine ⟨fun e hl => ?_, fun e x hx => ?_⟩
 ·subst e
  obtain ⟨vs, h1, h2⟩ := h.Aey
  have hlen : (vs.take n).length = n := by rw [List.length_take, h1.1]; omega
  have hr := run_loadCells_list (P := P) w ⟨b, o, none⟩ (vs.take n) (fun j v hv => by
   rw [EH]
   rw [List.getElem?_take] at hv
   split at hv
   ·exact h2 j v hv
   ·cases hv)
  rw [hlen] at hr
  refine ⟨.agg (vs.take n).toArray, by simp [loadVar, Ku hg, CV hn, hr], ?_⟩
  have h3 := h1.take n
  exact .agg _ _ (by simpa using h3.1) (fun x hx => h.1 x (List.mem_of_mem_take hx)) (fun i v x a b => h3.2 i v x (by simpa using a) b)
 ·subst e
  obtain ⟨v, h1, h2⟩ := h.2 0 x hx
  exact ⟨v, by simp [loadVar, Ku hg, h1, show w.cell? ⟨b, o, none⟩ = some v from h1], h2⟩

theorem WI.step {E : Env} {S S' : Nat → Prop} {w w' : World} {μ : Mu} {hp : Hp} (h : WI E S w μ hp) (hos : w'.os = w.os) (ht : w'.tape = w.tape) (ho : w'.output = w.output) (hs : w.heap.size ≤ w'.heap.size)
  (hb : ∀ b, b < w.heap.size → w'.heap[b]? = w.heap[b]?) (h1 : ∀ b, S b → S' b) (h2 : ∀ b, S' b → S b ∨ (w.heap.size ≤ b ∧ b < w'.heap.size)) : WI E S' w' μ hp := by
 have hsame : Cc S w w' := fun b hb' => hb b (h.lt b hb')
 refine ⟨⟨hos.trans h.ext.os, ht.trans h.ext.tape, ho.trans h.ext.output, Nat.le_trans h.ext.size hs, fun b hb' hn => (hb b (Nat.lt_of_lt_of_le hb' h.ext.size)).trans (h.ext.block b hb' hn)⟩, fun b hb' => ?_, fun b hb' => h1 b (h.base b hb'), fun b hb' => ?_, h.fresh, fun k bx hk => ?_, h.apart, h.le⟩
 ·rcases h2 b hb' with e | e
  ·exact Nat.lt_of_lt_of_le (h.lt b e) hs
  ·exact e.2
 ·rcases h2 b hb' with e | e
  ·exact h.new b e
  ·exact .inr (.inl (Nat.le_trans h.ext.size e.1))
 ·obtain ⟨B, hB, hz, hh⟩ := h.box k bx hk
  refine ⟨B, hB, hz, ?_⟩
  cases hbl : B.blk with
  | none => rw [hbl] at hh; exact hh
  | some b =>
   rw [hbl] at hh
   obtain ⟨a1, a2, a3, cur, a4, a5, a6, a7, a8, a9⟩ := hh
   have hlt : b < w.heap.size := a4.lt
   refine ⟨a1, fun e => h1 b (a2 e), fun e hs' => ?_, cur, a4.of (hb b hlt), a5, a6, a7, a8, fun i j e x p q => ?_⟩
   ·rcases h2 b hs' with e' | e'
    ·exact a3 e e'
    ·omega
   ·obtain ⟨v, b1, b2⟩ := a9 i j e x p q
    exact ⟨v, b1, b2.mono h1 hsame (Mu.le.refl _)⟩

theorem WI.alloc {E : Env} {S : Nat → Prop} {w : World} {μ : Mu} {hp : Hp} (h : WI E S w μ hp) (o : Obj) : WI E (fun b => S b ∨ b = w.heap.size) (w.alloc o) μ hp :=
 h.step rfl rfl rfl (by simp) (fun b hb => Below.heap_alloc w o b hb) (fun b hb => .inl hb) (fun b hb => hb.imp id (fun e => by subst e; exact ⟨Nat.le_refl _, by simp⟩))
theorem G3 {E : Env} {S : Nat → Prop} {w : World} {μ : Mu} {hp : Hp} (h : WI E S w μ hp) (o : Obj) : Cc S w (w.alloc o) := fun b hb => Below.heap_alloc w o b (h.lt b hb)

theorem VR.AR {E : Env} {S : Nat → Prop} {w : World} {μ : Mu} {hp : Hp} (hw : WI E S w μ hp) {v : Value} {x : AV} (h : VR S w μ v x) : VR S w μ v (x.AR hp) := by
 cases h with
 | row k v n b cap esz hμ hn hm =>
  simp only [AV.AR]
  split
  ·rename_i bx hk
   split
   ·rename_i hc
    obtain ⟨hv, hf, hle⟩ := hc
    obtain ⟨B, hB, hz, hh⟩ := hw.box k bx hk
    rw [hv, hμ] at hB
    cases hB
    obtain ⟨a1, a2, a3, cur, a4, a5, a6, a7, a8⟩ := hh
    have hlen : (bx.es.take n).length = n := by simp; omega
    have key : VR S w μ (.slice (some ⟨b, 0, none⟩) (bx.es.take n).length cap) (.sl (bx.es.take n)) := by
     refine .sl b 0 cap esz (fun i j => (cur[i * esz + j]?).getD undef) (bx.es.take n) (a2 hf) (by rw [hlen]; exact hn) hm (fun e he => a8.1 e (List.mem_of_mem_take he)) (fun i j hi hj => ?_) (fun i j e x p q => ?_)
     ·rw [a4.cell, Nat.zero_add]
      have hi' : i < bx.es.length := by rw [hlen] at hi; omega
      have he := a8.1 bx.es[i] (List.getElem_mem hi')
      obtain ⟨u, c1, _⟩ := a8.2 i j bx.es[i] _ (List.getElem?_eq_getElem hi') (List.getElem?_eq_getElem (by rw [he.1]; exact hj))
      rw [c1]; rfl
     ·rw [List.getElem?_take] at p
      split at p
      ·obtain ⟨u, c1, c2⟩ := a8.2 i j e x p q
       simp only [c1]; exact c2
      ·cases p
    rw [hlen] at key
    exact key
   ·exact .row k v n b cap esz hμ hn hm
  ·exact .row k v n b cap esz hμ hn hm
 | JO k v cap esz hμ =>
  simp only [AV.AR]
  split
  ·split
   ·simp only [List.take_zero]; exact .sl0 none 0 (Nat.zero_le _)
   ·exact .JO k v cap esz hμ
  ·exact .JO k v cap esz hμ
 | ptr k v i off b cap esz hμ =>
  simp only [AV.AR]
  split
  ·rename_i bx hk
   split
   ·rename_i hc
    obtain ⟨hv, hf, hle⟩ := hc
    obtain ⟨B, hB, hz, hh⟩ := hw.box k bx hk
    rw [hv, hμ] at hB
    cases hB
    obtain ⟨a1, a2, a3, cur, a4, a5, a6, a7, a8⟩ := hh
    have := ((a8.atR a4 hle).drop off).vr (a2 hf)
    simpa [List.getD_eq_getElem?_getD, hle] using this
   ·exact .ptr k v i off b cap esz hμ
  ·exact .ptr k v i off b cap esz hμ
 | _ => simp only [AV.AR]; constructor <;> assumption
theorem JS {hp : Hp} {x : AV} (h : x.one = true) : (x.AR hp).one = true := by
 cases x <;> simp only [AV.AR] <;> try exact h
 ·split
  ·split <;> rfl
  ·rfl
 ·split
  ·split <;> rfl
  ·rfl
theorem VR.pur {E : Env} {S : Nat → Prop} {w : World} {μ : Mu} {hp : Hp} (hw : WI E S w μ hp) {v : Value} {x : AV} (h : VR S w μ v x) : VR S w μ v (x.pur hp) := by
 cases x with
 | agg xs =>
  cases h with | agg cs _ hl h1 hh =>
  refine .agg cs _ (by simpa using hl) (fun y hy => ?_) (fun i v y p q => ?_)
  ·obtain ⟨x, hx, rfl⟩ := List.mem_map.1 hy; exact JS (h1 x hx)
  ·simp only [List.getElem?_map, Option.map_eq_some_iff] at q
   obtain ⟨x, hx, rfl⟩ := q
   exact (hh i v x p hx).AR hw
 | tup xs =>
  cases h with | tup cs _ hl hh =>
  refine .tup cs _ (by simpa using hl) (fun i v y p q => ?_)
  simp only [List.getElem?_map, Option.map_eq_some_iff] at q
  obtain ⟨x, hx, rfl⟩ := q
  exact (hh i v x p hx).AR hw
 | _ => exact VR.AR hw h
theorem VR.Bv {E : Env} {S : Nat → Prop} {w : World} {μ : Mu} {hp : Hp} (hw : WI E S w μ hp) {v : Value} {x : AV} (h : VR S w μ v x) : VR S w μ v (x.Bv hp) := by
 cases x with
 | fn f xs =>
  cases h with | fn _ cs _ hl hh =>
  refine .fn f cs _ (by simpa using hl) (fun i v y p q => ?_)
  simp only [List.getElem?_map, Option.map_eq_some_iff] at q
  obtain ⟨x, hx, rfl⟩ := q
  exact (hh i v x p hx).AR hw
 | _ => exact VR.pur hw h
theorem G0 {x : AV} (h : x.one = true) : x.cells = [x] := by cases x <;> first | rfl | (simp [AV.one] at h)
theorem Ok {hp : Hp} {x : AV} (h : x.one = true) : x.pur hp = x.AR hp := by cases x <;> first | rfl | (simp [AV.one] at h)
theorem Kv {hp : Hp} {x : AV} (h : x.ok = true) : (x.pur hp).cells = x.cells.map (AV.AR hp) := by
 rcases AV.EX.1 h with h | h
 ·rw [Ok h, G0 (JS h), G0 h]; rfl
 ·cases x <;> first | rfl | (simp [AV.isAgg] at h)
theorem AaC {hp : Hp} {x : AV} (h : x.ok = true) : (x.pur hp).ok = true := by
 rcases AV.EX.1 h with h | h
 ·rw [Ok h]; simp [AV.ok, JS h]
 ·cases x <;> first | rfl | (simp [AV.isAgg] at h)

end Go.Proofs.YtjbcnilllfaipaaGreat.Av

namespace Go.Proofs.YtjbcnilllfaipaaGreat.Av
open Go.RowKit

theorem DB.new {E : Env} {S : Nat → Prop} {w : World} {μ : Mu} {hp : Hp} (hw : WI E S w μ hp) {cs : Array Value} {xs : List AV} {e : TypeId} (h : VRs S w μ cs.toList xs) (h1 : ∀ x ∈ xs, x.one = true) :
  DB (fun b => S b ∨ b = w.heap.size) (w.alloc (.cells cs e)) μ w.heap.size 0 xs := by
 refine ⟨h1, fun j x hx => ?_⟩
 have hj : j < cs.size := by have := (List.getElem?_eq_some_iff.1 hx).1; rw [← h.1] at this; simpa using this
 refine ⟨cs[j], ?_, ?_⟩
 ·rw [HZ (heap_alloc_new w _), Nat.zero_add]; simp [hj]
 ·exact (h.2 j cs[j] x (by simp [hj]) hx).mono (fun b hb => .inl hb) (G3 hw _) (Mu.le.refl _)

theorem IV {P : Program} {e : TypeId} {v : Value} (w : World) : (newVar e v).run P w = .ok ⟨w.heap.size, 0, none⟩ (w.alloc (.cells v.cells e)) := rfl

theorem VRs.pur {E : Env} {S : Nat → Prop} {w : World} {μ : Mu} {hp : Hp} (hw : WI E S w μ hp) {vs : List Value} {xs : List AV} (h : VRs S w μ vs xs) : VRs S w μ vs (xs.map (AV.AR hp)) :=
 ⟨by simpa using h.1, fun i v y p q => by
  simp only [List.getElem?_map, Option.map_eq_some_iff] at q
  obtain ⟨x, hx, rfl⟩ := q
  exact (h.2 i v x p hx).AR hw⟩

theorem Lp (v : List Value) : ∀ (off : Nat) (cs : Array Value) (i : Nat), off + v.length ≤ cs.size →
  ((v.zipIdx.foldl (fun cs (c, j) => cs.setIfInBounds (off + j) c) cs).size = cs.size) ∧
  (v.zipIdx.foldl (fun cs (c, j) => cs.setIfInBounds (off + j) c) cs)[i]? = if off ≤ i ∧ i < off + v.length then v[i - off]? else cs[i]? := by
 suffices h : ∀ (k off : Nat) (cs : Array Value) (i : Nat), off + k + v.length ≤ cs.size →
   (((v.zipIdx k).foldl (fun cs (c, j) => cs.setIfInBounds (off + j) c) cs).size = cs.size) ∧
   ((v.zipIdx k).foldl (fun cs (c, j) => cs.setIfInBounds (off + j) c) cs)[i]? = if off + k ≤ i ∧ i < off + k + v.length then v[i - (off + k)]? else cs[i]? from
  fun off cs i hl => h 0 off cs i hl
 induction v with
 | nil => intro k off cs i hl; simp; omega
 | cons c v ih =>
  intro k off cs i hl
  simp only [List.length_cons] at hl
  simp only [List.zipIdx_cons, List.foldl_cons]
  have := ih (k + 1) off (cs.setIfInBounds (off + k) c) i (by simp; omega)
  refine ⟨by rw [this.1]; simp, ?_⟩
  rw [this.2]
  by_cases h1 : i = off + k
  ·subst h1
   rw [if_neg (by omega), if_pos (by simp)]
   simp [show off + k < cs.size by omega]
  ·by_cases h2 : off + (k + 1) ≤ i ∧ i < off + (k + 1) + v.length
   ·rw [if_pos h2, if_pos (by simp; omega)]
    rw [show i - (off + k) = (i - (off + (k + 1))) + 1 by omega]
    simp
   ·rw [if_neg h2, if_neg (by simp; omega)]
    simp [Array.getElem?_setIfInBounds_ne (Ne.symm h1)]

theorem Sr (cs : List AV) (off : Nat) (xs : List AV) (i : Nat) (hl : off + xs.length ≤ cs.length) : (lay cs off xs)[i]? = if off ≤ i ∧ i < off + xs.length then xs[i - off]? else cs[i]? := by
 unfold lay
 have h1 : (cs.take off).length = off := by simp; omega
 rw [List.append_assoc, List.getElem?_append, h1]
 by_cases h2 : i < off
 ·rw [if_pos h2, if_neg (by omega), List.getElem?_take, if_pos h2]
 ·rw [if_neg h2, List.getElem?_append]
  by_cases h3 : i - off < xs.length
  ·rw [if_pos h3, if_pos (by omega)]
  ·rw [if_neg h3, if_neg (by omega)]
   simp only [List.getElem?_drop]
   congr 1; omega
theorem Sq (cs : List AV) (off : Nat) (xs : List AV) (hl : off + xs.length ≤ cs.length) : (lay cs off xs).length = cs.length := by
 unfold lay; simp; omega
theorem Sp {cs : List AV} {off : Nat} {xs : List AV} (h : ∀ x ∈ cs, x.one = true) (h' : ∀ x ∈ xs, x.one = true) : ∀ x ∈ lay cs off xs, x.one = true := by
 intro x hx
 unfold lay at hx
 rcases List.mem_append.1 hx with hx | hx
 ·rcases List.mem_append.1 hx with hx | hx
  ·exact h x (List.mem_of_mem_take hx)
  ·exact h' x hx
 ·exact h x (List.mem_of_mem_drop hx)
theorem VRs.lay {S : Nat → Prop} {w : World} {μ : Mu} {cs : Array Value} {xs : List AV} {v : List Value} {ys : List AV} (h : VRs S w μ cs.toList xs) (h' : VRs S w μ v ys) {off : Nat} (hl : off + ys.length ≤ xs.length) :
  VRs S w μ (v.zipIdx.foldl (fun cs (c, j) => cs.setIfInBounds (off + j) c) cs).toList (lay xs off ys) := by
 have hsz : cs.size = xs.length := by simpa using h.1
 have hb : off + v.length ≤ cs.size := by rw [hsz, h'.1]; exact hl
 refine ⟨by rw [Sq _ _ _ hl, Array.length_toList, (Lp v off cs 0 hb).1, hsz], fun i u y p q => ?_⟩
 rw [Array.getElem?_toList, (Lp v off cs i hb).2] at p
 rw [Sr _ _ _ _ hl, ← h'.1] at q
 split at p
 ·rename_i hc; rw [if_pos hc] at q; exact h'.2 _ u y p q
 ·rename_i hc; rw [if_neg hc] at q; exact h.2 i u y (by simpa using p) q

section
variable {P : Program} {E : Env} {hp : Hp} {fr : Nat → AV}

theorem Adw {o : Oper} {e : TypeId} {x : Operand} {ix : Ax} {K : AV → Prop} (ho : o.op = .box e x) (hx : AB x = some ix) (h : (ix.ev fr).ok = true ∧ K (.obj ((ix.ev fr).pur hp).cells)) : QOk P E fr hp o K := by
 refine ⟨_, h.2, fun S w μ ρ hw hf _ _ => ?_⟩
 have hv := hf.one (x := x) (by simp [ho, Op.operands]) hx
 refine Bc.val (v := .pointer (some ⟨w.heap.size, 0, none⟩)) (w' := w.alloc (.cells (ρ x).cells e)) (by simp [execOp, ho, Instr.box, IV]) ?_
 obtain ⟨h1, h2⟩ := (hv.pur hw).cells (AV.EX.1 (AaC h.1))
 exact ⟨_, (DB.new hw h1 h2).vr (.inr rfl), hw.alloc _, fun b hb => .inl hb, G3 hw _⟩

theorem GV {e : TypeId} {z : AV} (h : Ep P e = some z) : ∃ zv, (∀ w, (zeroValue e).run P w = .ok zv w) ∧ (∀ S w μ, VR S w μ zv z) ∧ z.ok = true := by
 unfold Ep at h
 cases hi : P.info? e with
 | none => rw [hi] at h; cases h
 | some i =>
  rw [hi] at h
  cases hz : i.zero with
  | none => simp [hz] at h
  | some zv =>
   simp only [Option.bind_some, hz] at h
   exact ⟨zv, fun w => by simp [zeroValue, typeInfo, hi, hz], fun S w μ => (Ij h).1, (Ij (S := fun _ => True) (w := default) (μ := mu0) h).2⟩

theorem Aay {o : Oper} {e : TypeId} {z : AV} {K : AV → Prop} (ho : o.op = .alloc e) (hz : Ep P e = some z) (h : z.ok = true ∧ K (.obj (z.pur hp).cells)) : QOk P E fr hp o K := by
 obtain ⟨zv, hr, hv, hk⟩ := GV hz
 refine ⟨_, h.2, fun S w μ ρ hw hf _ _ => ?_⟩
 refine Bc.val (v := .pointer (some ⟨w.heap.size, 0, none⟩)) (w' := w.alloc (.cells zv.cells e)) (by simp [execOp, ho, Instr.alloc, hr, IV]) ?_
 obtain ⟨h1, h2⟩ := ((hv S w μ).pur hw).cells (AV.EX.1 (AaC hk))
 exact ⟨_, (DB.new hw h1 h2).vr (.inr rfl), hw.alloc _, fun b hb => .inl hb, G3 hw _⟩

theorem TG {l : List Field} (w : World) (h : ∀ f ∈ l, (B4 P f.type).isSome) : (l.mapM (fun f : Field => (do pure (f.offset, ← sizeOf f.type) : Sem (Nat × Nat)))).run P w = .ok (l.map fun f => (f.offset, (B4 P f.type).getD 0)) w := by
 induction l with
 | nil => rfl
 | cons f l ih =>
  obtain ⟨n, hn⟩ := Option.isSome_iff_exists.1 (h f (by simp))
  rw [List.mapM_cons]
  simp only [Sem.run_bind, CV hn, Result.andThen_ok, Sem.run_pure, ih (fun g hg => h g (by simp [hg])), List.map_cons, hn, Option.getD_some]
theorem run_places {fs : Array Field} (w : World) (h : ∀ f ∈ fs.toList, (B4 P f.type).isSome) : (fs.mapM (fun f : Field => (do pure (f.offset, ← sizeOf f.type) : Sem (Nat × Nat)))).run P w = .ok (fs.map fun f => (f.offset, (B4 P f.type).getD 0)) w := by
 obtain ⟨l⟩ := fs
 rw [List.mapM_toArray]
 have := TG (P := P) w h
 rw [map_eq_pure_bind]
 simp only [Sem.run_bind, this, Result.andThen_ok, Sem.run_pure, List.map_toArray]

theorem Pn {fs : Array Field} {places : Nat → Option (Nat × Nat)} (hpl : ∀ i f n, fs[i]? = some f → B4 P f.type = some n → places i = some (f.offset, n)) :
  ∀ {ps : List (Nat × Operand)} {is : List (Nat × Nat × Ax)} {xs : List AV} {K : List AV → Prop}, JZ P fs ps = some is → Hi fr xs is K →
  ∃ ys, K ys ∧ ∀ S w μ ρ (cs : Array Value), Fits S w μ fr ρ (ps.map (·.2)) → VRs S w μ cs.toList xs → (∀ x ∈ xs, x.one = true) →
   ∃ cs', Instr.fill places cs (ps.map fun p => (p.1, ρ p.2)) = some cs' ∧ VRs S w μ cs'.toList ys ∧ ∀ x ∈ ys, x.one = true
 | [], is, xs, K, hl, h => by
  cases hl
  exact ⟨xs, h, fun S w μ ρ cs _ hv h1 => ⟨cs, rfl, hv, h1⟩⟩
 | (i, x) :: ps, is, xs, K, hl, h => by
  unfold JZ at hl
  split at hl
  ·rename_i f y r h1 h2 h3
   cases hn : B4 P f.type with
   | none => rw [hn] at hl; cases hl
   | some n =>
    rw [hn] at hl
    cases hl
    unfold Hi at h
    obtain ⟨⟨hok, hlen, hoff⟩, h⟩ := h
    obtain ⟨ys, hK, hh⟩ := Pn hpl h3 h
    refine ⟨ys, hK, fun S w μ ρ cs hf hv hone => ?_⟩
    have hx := hf x (by simp) y h2
    obtain ⟨c1, c2⟩ := hx.cells (AV.EX.1 hok)
    have hsz : (ρ x).cells.size = n := by have := c1.1; rw [hlen] at this; simpa using this
    have hcs : cs.size = xs.length := by simpa using hv.1
    have hstep := VRs.lay hv c1 (off := f.offset) (by rw [hlen]; exact hoff)
    obtain ⟨cs', d1, d2, d3⟩ := hh S w μ ρ _ (fun u hu => hf u (by simp at hu ⊢; right; exact hu)) hstep (Sp hone c2)
    refine ⟨cs', ?_, d2, d3⟩
    simp only [List.map_cons, Instr.fill, hpl i f n h1 hn, hsz, hcs]
    rw [if_neg (by simp; omega)]
    have e : Array.foldl (fun (cs : Array Value) (x : Value × Nat) => match x with | (c, j) => cs.setIfInBounds (f.offset + j) c) cs (ρ x).cells.zipIdx =
      List.foldl (fun (cs : Array Value) (x : Value × Nat) => match x with | (c, j) => cs.setIfInBounds (f.offset + j) c) cs (ρ x).cells.toList.zipIdx := by
     rw [← Array.foldl_toList, Array.toList_zipIdx]
    rw [e]
    exact d1
  ·cases hl

theorem Ach {o : Oper} {t : TypeId} {fs : Array Field} {ps : Array (Nat × Operand)} {z : AV} {is : List (Nat × Nat × Ax)} {K : AV → Prop} (ho : o.op = .build t ps) (ht : P.underlying t = some (.struct fs)) (hz : Ep P t = some z) (hza : z.isAgg = true)
  (hl : JZ P fs ps.toList = some is) (hall : ∀ f ∈ fs.toList, (B4 P f.type).isSome) (h : Hi fr z.cells is fun cs => K (.agg cs)) : QOk P E fr hp o K := by
 obtain ⟨zv, hr, hv, hk⟩ := GV hz
 obtain ⟨ys, hK, hh⟩ := Pn (places := fun i => (fs.map fun f => (f.offset, (B4 P f.type).getD 0))[i]?) (fun i f n h1 h2 => by simp [h1, h2]) hl h
 refine ⟨_, hK, fun S w μ ρ hw hf _ _ => ?_⟩
 obtain ⟨c1, c2⟩ := (hv S w μ).cells (AV.EX.1 hk)
 obtain ⟨cs', d1, d2, d3⟩ := hh S w μ ρ zv.cells (fun u hu => hf u (by
  simp only [ho, Op.operands]
  simpa using hu)) c1 c2
 refine Bc.val (v := .agg cs') (w' := w) ?_ (Cq.here hw (.agg cs' ys (by simpa using d2.1) d3 (fun i v x a b => d2.2 i v x (by simpa using a) b)))
 have e : (ps.map fun (p : Nat × Operand) => (p.1, ρ p.2)).toList = ps.toList.map fun p => (p.1, ρ p.2) := by simp
 simp only [execOp, ho, Instr.build, Sem.run_bind, hr, Result.andThen_ok, run_underlying ht, run_places w hall, e, d1]
 rfl

theorem Et.set {S : Nat → Prop} {w : World} {μ : Mu} {cur : Array Value} {esz : Nat} {es : List AV} (h : Et S w μ cur esz es) (hsz : cur.size = es.length * esz) {v : Value} {x : AV} (hv : VR S w μ v x) (hok : x.ok = true) (hx : x.cells.length = esz) {i : Nat} (hi : i < es.length) :
  Et S w μ (v.cells.toList.zipIdx.foldl (fun cs (c, j) => cs.setIfInBounds (i * esz + j) c) cur) esz (es.set i x) ∧ (v.cells.toList.zipIdx.foldl (fun cs (c, j) => cs.setIfInBounds (i * esz + j) c) cur).size = cur.size := by
 obtain ⟨c1, c2⟩ := hv.cells (AV.EX.1 hok)
 have hl : v.cells.toList.length = esz := by rw [c1.1, hx]
 have hle : i * esz + esz ≤ es.length * esz := by
  have := Nat.mul_le_mul_right esz (show i + 1 ≤ es.length from hi)
  rw [Nat.add_mul, Nat.one_mul] at this
  exact this
 have hb : i * esz + v.cells.toList.length ≤ cur.size := by rw [hl, hsz]; exact hle
 refine ⟨⟨fun e he => ?_, fun i' j e y p q => ?_⟩, (Lp _ _ _ 0 hb).1⟩
 ·rcases List.mem_or_eq_of_mem_set he with he | he
  ·exact h.1 e he
  ·subst he; exact ⟨hx, c2⟩
 ·rw [(Lp _ _ _ _ hb).2, hl]
  have hj : j < esz := by
   have h2 : e.cells.length = esz := by
    rcases List.mem_or_eq_of_mem_set (List.mem_of_getElem? p) with he | he
    ·exact (h.1 e he).1
    ·subst he; exact hx
   rw [← h2]; exact (List.getElem?_eq_some_iff.1 q).1
  by_cases hii : i' = i
  ·subst hii
   rw [List.getElem?_set_self hi] at p
   cases p
   rw [if_pos (by omega)]
   have hjl : j < v.cells.toList.length := by omega
   refine ⟨v.cells.toList[j], ?_, c1.2 j _ y (List.getElem?_eq_getElem hjl) q⟩
   rw [show i' * esz + j - i' * esz = j by omega]
   exact List.getElem?_eq_getElem hjl
  ·rw [List.getElem?_set_ne (Ne.symm hii)] at p
   rw [if_neg]
   ·exact h.2 i' j e y p q
   ·rintro ⟨h1, h2⟩
    rcases Nat.lt_or_gt_of_ne hii with hlt | hlt
    ·have := Nat.mul_le_mul_right esz (show i' + 1 ≤ i from hlt); rw [Nat.add_mul, Nat.one_mul] at this; omega
    ·have := Nat.mul_le_mul_right esz (show i + 1 ≤ i' from hlt); rw [Nat.add_mul, Nat.one_mul] at this; omega

theorem Lc {esz : Nat} : ∀ {ps : List (Nat × Operand)} {is : List (Nat × Ax)} {es : List AV} {K : List AV → Prop}, Ik ps = some is → D8 fr esz es is K →
  ∃ fs, K fs ∧ fs.length = es.length ∧ ∀ S w μ ρ (cur : Array Value), Fits S w μ fr ρ (ps.map (·.2)) → Et S w μ cur esz es → cur.size = es.length * esz →
   ∃ cur', Instr.fill (fun i => some (i * esz, esz)) cur (ps.map fun p => (p.1, ρ p.2)) = some cur' ∧ Et S w μ cur' esz fs ∧ cur'.size = fs.length * esz
 | [], is, es, K, hl, h => by
  cases hl
  exact ⟨es, h, rfl, fun S w μ ρ cur _ hv h1 => ⟨cur, rfl, hv, h1⟩⟩
 | (i, x) :: ps, is, es, K, hl, h => by
  unfold Ik at hl
  split at hl
  ·rename_i y r h2 h3
   cases hl
   unfold D8 at h
   obtain ⟨⟨hok, hlen, hi⟩, h⟩ := h
   obtain ⟨gs, hK, hgl, hh⟩ := Lc h3 h
   refine ⟨gs, hK, by rw [hgl]; simp, fun S w μ ρ cur hf hv hsz => ?_⟩
   have hx := hf x (by simp) y h2
   have hcl : (ρ x).cells.size = esz := by have := (hx.cells (AV.EX.1 hok)).1.1; rw [hlen] at this; simpa using this
   obtain ⟨s1, s2⟩ := Et.set hv hsz hx hok hlen hi
   obtain ⟨cur', d1, d2, d3⟩ := hh S w μ ρ _ (fun u hu => hf u (by simp at hu ⊢; right; exact hu)) s1 (by rw [s2, hsz]; simp)
   refine ⟨cur', ?_, d2, d3⟩
   have hle : i * esz + esz ≤ es.length * esz := by
    have := Nat.mul_le_mul_right esz (show i + 1 ≤ es.length from hi)
    rw [Nat.add_mul, Nat.one_mul] at this
    exact this
   simp only [List.map_cons, Instr.fill, hcl]
   rw [if_neg (by simp; omega)]
   have e : Array.foldl (fun (cs : Array Value) (x : Value × Nat) => match x with | (c, j) => cs.setIfInBounds (i * esz + j) c) cur (ρ x).cells.zipIdx =
     List.foldl (fun (cs : Array Value) (x : Value × Nat) => match x with | (c, j) => cs.setIfInBounds (i * esz + j) c) cur (ρ x).cells.toList.zipIdx := by
    rw [← Array.foldl_toList, Array.toList_zipIdx]
   rw [e]
   exact d1
  ·cases hl

theorem Et.W9 {S : Nat → Prop} {w : World} {μ : Mu} {zv : Value} {z : AV} (hv : VR S w μ zv z) (hok : z.ok = true) (m : Nat) :
  Et S w μ ((Array.range (m * z.cells.length)).map fun i => zv.cells[i % zv.cells.size]!) z.cells.length (List.replicate m z) := by
 obtain ⟨c1, c2⟩ := hv.cells (AV.EX.1 hok)
 have hsz : zv.cells.size = z.cells.length := by simpa using c1.1
 refine ⟨fun e he => by rw [List.eq_of_mem_replicate he]; exact ⟨rfl, c2⟩, fun i j e x p q => ?_⟩
 have he := List.eq_of_mem_replicate (List.mem_of_getElem? p)
 subst he
 have hi : i < m := by have := (List.getElem?_eq_some_iff.1 p).1; simpa using this
 have hj := (List.getElem?_eq_some_iff.1 q).1
 have hlt : i * e.cells.length + j < m * e.cells.length := by
  have := Nat.mul_le_mul_right e.cells.length (show i + 1 ≤ m from hi)
  rw [Nat.add_mul, Nat.one_mul] at this; omega
 have hmod : (i * e.cells.length + j) % e.cells.length = j := by
  rw [Nat.mul_comm, Nat.mul_add_mod]; exact Nat.mod_eq_of_lt hj
 refine ⟨zv.cells[j]!, ?_, ?_⟩
 ·simp only [Array.getElem?_map, Array.getElem?_range, if_pos hlt, Option.map_some, hsz, hmod]
 ·have hj' : j < zv.cells.size := by omega
  refine c1.2 j _ x ?_ q
  simp [hj', getElem!_pos]

theorem JM {t e : TypeId} {m : Nat} {z : AV} {zv : Value} {ps : Array (Nat × Value)} {cur' : Array Value} (he : Fo P t = some e) (hs : B4 P e = some z.cells.length) (hz : ∀ w, (zeroValue e).run P w = .ok zv w) (hzs : zv.cells.size = z.cells.length)
  (h24 : m * z.cells.length ≤ 2 ^ 24) (hf : Instr.fill (fun i => some (i * z.cells.length, z.cells.length)) ((Array.range (m * z.cells.length)).map fun i => zv.cells[i % zv.cells.size]!) ps.toList = some cur') (w : World) :
  (Instr.buildSlice t m ps).run P w = .ok (.slice (some ⟨w.heap.size, 0, none⟩) m m) (w.alloc (.cells cur' e)) := by
 have hu : P.underlying t = some (.slice e) := by
  unfold Fo at he; split at he
  ·rename_i h; cases he; exact h
  ·cases he
 unfold Instr.buildSlice
 simp only [Sem.run_bind, run_underlying hu, Result.andThen_ok, CV hs]
 rw [if_neg (by omega)]
 by_cases h0 : m * z.cells.length = 0
 ·simp only [h0, if_true, Sem.run_bind, Sem.run_pure, Result.andThen_ok]
  rw [h0] at hf
  have e0 : (Array.range 0).map (fun i => zv.cells[i % zv.cells.size]!) = #[] := Array.eq_empty_of_size_eq_zero (by simp)
  rw [e0] at hf
  have e1 : ((Array.range 0).map fun x => (#[] : Array Value)[x % (#[] : Array Value).size]!) = #[] := Array.eq_empty_of_size_eq_zero (by simp)
  rw [e1, hf]
  rfl
 ·simp only [h0, if_false, Sem.run_bind, Sem.run_pure, Result.andThen_ok, hz]
  rw [hf]
  rfl

theorem VR.AeB {S : Nat → Prop} {w : World} {μ : Mu} {cur : Array Value} {esz : Nat} {es : List AV} {b : Nat} {e : TypeId} {fz : Nat × Nat} {cap : Nat} (h : Et S w μ cur esz es) (hb : w.heap[b]? = some (.cells cur e fz)) (hS : S b) (hl : es.length ≤ cap) (hm : cap ≤ maxLen) :
  VR S w μ (.slice (some ⟨b, 0, none⟩) es.length cap) (.sl es) := by
 refine .sl b 0 cap esz (fun i j => (cur[i * esz + j]?).getD undef) es hS hl hm h.1 (fun i j hi hj => ?_) (fun i j e x p q => ?_)
 ·rw [HZ hb, Nat.zero_add]
  obtain ⟨u, c1, _⟩ := h.2 i j es[i] _ (List.getElem?_eq_getElem hi) (List.getElem?_eq_getElem (by rw [(h.1 _ (List.getElem_mem hi)).1]; exact hj))
  rw [c1]; rfl
 ·obtain ⟨u, c1, c2⟩ := h.2 i j e x p q
  simp only [c1]; exact c2
theorem Et.mono {S S' : Nat → Prop} {w w' : World} {μ μ' : Mu} {cur : Array Value} {esz : Nat} {es : List AV} (h : Et S w μ cur esz es) (hS : ∀ b, S b → S' b) (hw : Cc S w w') (hμ : Mu.le μ μ') : Et S' w' μ' cur esz es :=
 ⟨h.1, fun i j e x p q => let ⟨u, c1, c2⟩ := h.2 i j e x p q; ⟨u, c1, c2.mono hS hw hμ⟩⟩
theorem Et.pur {S : Nat → Prop} {w : World} {μ : Mu} (hw : WI E S w μ hp) {cur : Array Value} {esz : Nat} {es : List AV} (h : Et S w μ cur esz es) (hok : ∀ e ∈ es, e.ok = true) : Et S w μ cur esz (es.map (AV.pur hp)) := by
 refine ⟨fun f hf => ?_, fun i j f x p q => ?_⟩
 ·obtain ⟨e, he, rfl⟩ := List.mem_map.1 hf
  rw [Kv (hok e he)]
  refine ⟨by simpa using (h.1 e he).1, fun x hx => ?_⟩
  obtain ⟨y, hy, rfl⟩ := List.mem_map.1 hx
  exact JS ((h.1 e he).2 y hy)
 ·simp only [List.getElem?_map, Option.map_eq_some_iff] at p
  obtain ⟨e, he, rfl⟩ := p
  rw [Kv (hok e (List.mem_of_getElem? he))] at q
  simp only [List.getElem?_map, Option.map_eq_some_iff] at q
  obtain ⟨y, hy, rfl⟩ := q
  obtain ⟨u, c1, c2⟩ := h.2 i j e y he hy
  exact ⟨u, c1, c2.AR hw⟩
theorem RE {esz : Nat} : ∀ {is : List (Nat × Ax)} {es : List AV} {K : List AV → Prop}, (∀ e ∈ es, e.ok = true) → D8 fr esz es is K → D8 fr esz es is fun fs => (∀ e ∈ fs, e.ok = true) ∧ K fs
 | [], es, K, h0, h => ⟨h0, h⟩
 | (i, x) :: r, es, K, h0, h => ⟨h.1, RE (fun e he => by
   rcases List.mem_or_eq_of_mem_set he with he | he
   ·exact h0 e he
   ·exact he ▸ h.1.1) h.2⟩

theorem Ad6 {o : Oper} {t e : TypeId} {m : Nat} {ps : Array (Nat × Operand)} {z : AV} {is : List (Nat × Ax)} {K : AV → Prop} (ho : o.op = .buildSlice t m ps) (he : Fo P t = some e) (hs : B4 P e = some z.cells.length) (hz : Ep P e = some z)
  (hl : Ik ps.toList = some is) (h24 : m * z.cells.length ≤ 2 ^ 24) (hpos : 0 < z.cells.length) (h : D8 fr z.cells.length (List.replicate m z) is fun es => K (.sl (es.map (AV.pur hp)))) : QOk P E fr hp o K := by
 obtain ⟨zv, hr, hv, hk⟩ := GV hz
 obtain ⟨fs, ⟨hoks, hK⟩, hfl, hh⟩ := Lc hl (RE (fun e he => by rw [List.eq_of_mem_replicate he]; exact hk) h)
 refine ⟨_, hK, fun S w μ ρ hw hf _ _ => ?_⟩
 have hzs : zv.cells.size = z.cells.length := by simpa using ((hv S w μ).cells (AV.EX.1 hk)).1.1
 obtain ⟨cur', d1, d2, d3⟩ := hh S w μ ρ _ (fun u hu => hf u (by
  simp only [ho, Op.operands]
  simpa using hu)) (Et.W9 (hv S w μ) hk m) (by simp)
 have e' : (ps.map fun (p : Nat × Operand) => (p.1, ρ p.2)).toList = ps.toList.map fun p => (p.1, ρ p.2) := by simp
 refine Bc.val (v := .slice (some ⟨w.heap.size, 0, none⟩) m m) (w' := w.alloc (.cells cur' e)) ?_ ?_
 ·have := JM (ps := ps.map fun (p : Nat × Operand) => (p.1, ρ p.2)) he hs hr hzs h24 (by rw [e']; exact d1) w
  simp only [execOp, ho, Sem.run_bind, this, Result.andThen_ok]
  rfl
 ·have hlen : fs.length = m := by simpa using hfl
  have hml : m ≤ maxLen := by
   have : m * 1 ≤ m * z.cells.length := Nat.mul_le_mul_left m hpos
   unfold maxLen; omega
  refine ⟨fun b => S b ∨ b = w.heap.size, ?_, hw.alloc _, fun b hb => .inl hb, G3 hw _⟩
  have h1 := ((d2.pur hw hoks).mono (S' := fun b => S b ∨ b = w.heap.size) (fun b hb => .inl hb) (G3 hw (.cells cur' e)) (Mu.le.refl μ))
  have := VR.AeB h1 (heap_alloc_new w _) (.inr rfl) (cap := m) (by simp [hlen]) hml
  simpa [hlen] using this

end

end Go.Proofs.YtjbcnilllfaipaaGreat.Av

namespace Go.Proofs.YtjbcnilllfaipaaGreat.Av
open Go.RowKit

theorem Kt {P : Program} {t e : TypeId} (he : Fo P t = some e) : P.underlying t = some (.slice e) := by
 unfold Fo at he; split at he
 ·rename_i h; cases he; exact h
 ·cases he

section
variable {P : Program} {E : Env} {hp : Hp} {fr : Nat → AV}

theorem Fc {α : Type} {l : List α} {i : Nat} (h : i < l.length) (d : α) : l.getD i d = l[i] := by simp [List.getD_eq_getElem?_getD, h]

theorem Adt {o : Oper} {t : TypeId} {a : Operand} {ia : Ax} {g : Bool} {n : Nat} {K : AV → Prop} (ho : o.op = .load t a) (hg : Lq P t = some g) (hn : B4 P t = some n) (ha : AB a = some ia)
  (h : FX hp g n (ia.ev fr) K) : QOk P E fr hp o K := by
 unfold FX at h
 have fin : ∀ (cs : List AV) (off : Nat), F2 g cs off n K → (∀ S w μ (ρ : Operand → Value), WI E S w μ hp → VR S w μ (ρ a) (ia.ev fr) → ∃ b p, ρ a = .pointer (some ⟨b, p, none⟩) ∧ DB S w μ b p (cs.drop off)) → QOk P E fr hp o K := by
  intro cs off hk hc
  unfold F2 at hk
  cases g with
  | true =>
   refine ⟨_, hk.2, fun S w μ ρ hw hf _ _ => ?_⟩
   obtain ⟨b, p, h1, h2⟩ := hc S w μ ρ hw (hf.one (x := a) (by simp [ho, Op.operands]) ha)
   obtain ⟨v, h3, h4⟩ := (FI (P := P) hg hn h2).1 rfl (by simp; omega)
   exact Bc.val (v := v) (w' := w) (by simp [execOp, ho, h1, Instr.loadAt, Instr.sureAddr, h3]) (Cq.here hw h4)
  | false =>
   refine ⟨_, hk.2, fun S w μ ρ hw hf _ _ => ?_⟩
   obtain ⟨b, p, h1, h2⟩ := hc S w μ ρ hw (hf.one (x := a) (by simp [ho, Op.operands]) ha)
   obtain ⟨v, h3, h4⟩ := (FI (P := P) hg hn h2).2 rfl (cs.getD off .top) (by rw [Fc hk.1]; simp [hk.1])
   exact Bc.val (v := v) (w' := w) (by simp [execOp, ho, h1, Instr.loadAt, Instr.sureAddr, h3]) (Cq.here hw h4)
 split at h
 ·rename_i cs e1
  refine fin cs 0 h (fun S w μ ρ hw hv => ?_)
  rw [e1] at hv
  obtain ⟨b, p, hb⟩ := hv.LO
  rw [hb] at hv
  exact ⟨b, p, hb, by simpa using hv.SO.1⟩
 ·rename_i k v i off e1
  split at h
  ·rename_i bx hk
   obtain ⟨⟨hver, hi⟩, h⟩ := h
   refine fin _ off h (fun S w μ ρ hw hv => ?_)
   rw [e1] at hv
   generalize hra : ρ a = va at hv
   cases hv with
   | ptr _ _ _ _ b cap esz hμ =>
    obtain ⟨B, hB, hz, hh⟩ := hw.box k bx hk
    rw [hver, hμ] at hB
    cases hB
    obtain ⟨a1, a2, a3, cur, a4, a5, a6, a7, a8⟩ := hh
    refine ⟨b, i * esz + off, rfl, ?_⟩
    rw [Fc hi]
    exact (a8.atR a4 hi).drop off
  ·exact h.elim
 ·exact h.elim

theorem Acf {o : Oper} {s : TypeId} {fs : Array Field} {fd : Field} {x : Operand} {ix : Ax} {f n : Nat} {K : AV → Prop} (ho : o.op = .fieldAddr s x f) (hs : P.underlying s = some (.struct fs)) (hf' : fs[f]? = some fd) (hn : B4 P fd.type = some (n + 1))
  (hx : AB x = some ix) (h : I8 fd.offset (ix.ev fr) K) : QOk P E fr hp o K := by
 have run : ∀ (b p : Nat) (w : World), (Instr.fieldAt s (.pointer (some ⟨b, p, none⟩)) f).run P w = .ok (.pointer (some ⟨b, p + fd.offset, none⟩)) w := by
  intro b p w
  simp [Instr.fieldAt, run_underlying hs, hf', Instr.sureAddr, fieldPlace, CV hn, EH]
 unfold I8 at h
 split at h
 ·rename_i cs e1
  refine ⟨_, h, fun S w μ ρ hw hf _ _ => ?_⟩
  have hv := hf.one (x := x) (by simp [ho, Op.operands]) hx
  rw [e1] at hv
  obtain ⟨b, p, hb⟩ := hv.LO
  rw [hb] at hv
  obtain ⟨c1, c2⟩ := hv.SO
  exact Bc.val (v := .pointer (some ⟨b, p + fd.offset, none⟩)) (w' := w) (by simp [execOp, ho, hb, run]) (Cq.here hw ((c1.drop fd.offset).vr c2))
 ·rename_i k v i off e1
  refine ⟨_, h, fun S w μ ρ hw hf _ _ => ?_⟩
  have hv := hf.one (x := x) (by simp [ho, Op.operands]) hx
  rw [e1] at hv
  generalize hra : ρ x = va at hv
  cases hv with
  | ptr _ _ _ _ b cap esz hμ =>
   exact Bc.val (v := .pointer (some ⟨b, i * esz + (off + fd.offset), none⟩)) (w' := w) (by simp [execOp, ho, hra, run, Nat.add_assoc]) (Cq.here hw (.ptr k v i _ b cap esz hμ))
 ·exact h.elim

theorem Ad8 {o : Oper} {s : TypeId} {fs : Array Field} {fd : Field} {x : Operand} {ix : Ax} {f n : Nat} {g : Bool} {K : AV → Prop} (ho : o.op = .field s x f) (hs : P.underlying s = some (.struct fs)) (hf' : fs[f]? = some fd) (hn : B4 P fd.type = some n) (hg : Lq P fd.type = some g)
  (hx : AB x = some ix) (h : AbQ g fd.offset n (ix.ev fr) K) : QOk P E fr hp o K := by
 unfold AbQ at h
 split at h
 ·rename_i cs e1
  unfold F2 at h
  cases g with
  | true =>
   refine ⟨_, h.2, fun S w μ ρ hw hf _ _ => ?_⟩
   have hv := hf.one (x := x) (by simp [ho, Op.operands]) hx
   rw [e1] at hv
   generalize hra : ρ x = va at hv
   cases hv with
   | agg vs _ hl h1 hh =>
    refine Bc.val (v := .agg (vs.extract fd.offset (fd.offset + n))) (w' := w) (by simp [execOp, ho, hra, Instr.field, run_underlying hs, hf', asAgg, part, Ku hg, CV hn]) (Cq.here hw ?_)
    refine .agg _ _ (by simp [hl]; omega) (fun y hy => h1 y (List.mem_of_mem_drop (List.mem_of_mem_take hy))) (fun i v y p q => ?_)
    rw [List.getElem?_take] at q
    split at q
    ·rename_i hi
     rw [List.getElem?_drop] at q
     refine hh (fd.offset + i) v y ?_ q
     rw [Array.getElem?_extract] at p
     split at p
     ·exact p
     ·cases p
    ·cases q
  | false =>
   refine ⟨_, h.2, fun S w μ ρ hw hf _ _ => ?_⟩
   have hv := hf.one (x := x) (by simp [ho, Op.operands]) hx
   rw [e1] at hv
   generalize hra : ρ x = va at hv
   cases hv with
   | agg vs _ hl h1 hh =>
    have hlt : fd.offset < vs.size := by omega
    refine Bc.val (v := vs[fd.offset]) (w' := w) (by simp [execOp, ho, hra, Instr.field, run_underlying hs, hf', asAgg, part, Ku hg, hlt]) (Cq.here hw ?_)
    exact hh fd.offset _ _ (by simp [hlt]) (by rw [Fc h.1]; simp [h.1])
 ·exact h.elim

theorem Ace {o : Oper} {t e : TypeId} {x i : Operand} {ix ii : Ax} {n : Nat} {K : AV → Prop} (ho : o.op = .indexAddr t x i) (he : Fo P t = some e) (hn : B4 P e = some (n + 1)) (hx : AB x = some ix) (hi : AB i = some ii)
  (h : FY hp (n + 1) (ix.ev fr) (ii.ev fr) K) : QOk P E fr hp o K := by
 have hu := Kt he
 have run : ∀ (b p len cap : Nat) (k : IntKind) (z : Int) (w : World), 0 ≤ z → z < len → (Instr.indexAt t (.slice (some ⟨b, p, none⟩) len cap) (.int k z)).run P w = .ok (.pointer (some ⟨b, p + z.toNat * (n + 1), none⟩)) w := by
  intro b p len cap k z w h0 h1
  simp [Instr.indexAt, asIntOf, run_underlying hu, h0, h1, CV hn, EH]
 unfold FY at h
 split at h
 ·rename_i es k z e1 e2
  obtain ⟨⟨h0, h1, h2⟩, h⟩ := h
  refine ⟨_, h, fun S w μ ρ hw hf _ _ => ?_⟩
  have hv := hf.one (x := x) (by simp [ho, Op.operands]) hx
  have hz := hf.one (x := i) (by simp [ho, Op.operands]) hi
  rw [e1] at hv; rw [e2] at hz
  generalize hra : ρ x = va at hv
  generalize hrb : ρ i = vb at hz
  cases hz
  have hlt : z.toNat < es.length := by omega
  cases hv with
  | sl0 a cap hc => simp at h1; omega
  | sl b p cap esz vs _ hS hl hm hzz hc hh =>
   have hes : esz = n + 1 := by rw [Fc hlt] at h2; rw [← h2]; exact ((hzz _ (List.getElem_mem hlt)).1).symm
   subst hes
   refine Bc.val (v := .pointer (some ⟨b, p + z.toNat * (n + 1), none⟩)) (w' := w) (by simp [execOp, ho, hra, hrb, run b p es.length cap k z w h0 h1]) (Cq.here hw ?_)
   refine DB.vr ⟨fun y hy => ?_, fun j y hy => ?_⟩ hS
   ·rw [Fc hlt] at hy; exact (hzz _ (List.getElem_mem hlt)).2 y hy
   ·rw [Fc hlt] at hy h2
    have hj : j < n + 1 := by rw [← h2]; exact (List.getElem?_eq_some_iff.1 hy).1
    exact ⟨_, hc z.toNat j hlt hj, hh z.toNat j _ y (List.getElem?_eq_getElem hlt) hy⟩
 ·rename_i k v m kk z e1 e2
  split at h
  ·rename_i bx hk
   obtain ⟨⟨hver, hesz, h0, h1⟩, h⟩ := h
   refine ⟨_, h, fun S w μ ρ hw hf _ _ => ?_⟩
   have hv := hf.one (x := x) (by simp [ho, Op.operands]) hx
   have hz := hf.one (x := i) (by simp [ho, Op.operands]) hi
   rw [e1] at hv; rw [e2] at hz
   generalize hra : ρ x = va at hv
   generalize hrb : ρ i = vb at hz
   cases hz
   cases hv with
   | row _ _ _ b cap esz hμ hnn hm =>
    obtain ⟨B, hB, hzz, hh⟩ := hw.box k bx hk
    rw [hver, hμ] at hB
    cases hB
    simp only at hzz
    have e3 : esz = n + 1 := hzz.trans hesz
    subst e3
    refine Bc.val (v := .pointer (some ⟨b, z.toNat * (n + 1) + 0, none⟩)) (w' := w) (by simp [execOp, ho, hra, hrb, run b 0 m cap kk z w h0 h1]) (Cq.here hw (.ptr k v z.toNat 0 b cap _ hμ))
   | JO _ _ cap esz hμ => simp at h1; omega
  ·exact h.elim
 ·exact h.elim

theorem Adq {o : Oper} {t : TypeId} {x i : Operand} {ix ii : Ax} {K : AV → Prop} (ho : o.op = .index t x i) (ht : P.underlying t = some .string) (hx : AB x = some ix) (hi : AB i = some ii)
  (h : VA (ix.ev fr) (ii.ev fr) K) : QOk P E fr hp o K := by
 unfold VA at h
 split at h
 ·rename_i s k z e1 e2
  obtain ⟨⟨h0, h1⟩, h⟩ := h
  refine ⟨_, h, fun S w μ ρ hw hf _ _ => ?_⟩
  have hv := hf.one (x := x) (by simp [ho, Op.operands]) hx
  have hz := hf.one (x := i) (by simp [ho, Op.operands]) hi
  rw [e1] at hv; rw [e2] at hz
  generalize hra : ρ x = va at hv
  generalize hrb : ρ i = vb at hz
  cases hz; cases hv
  have hlt : z.toNat < s.size := by omega
  have hlt' : z.toNat < s.data.size := hlt
  have hb : D7 s z.toNat = s[z.toNat] := by unfold D7; simp only [Array.getD, hlt', dif_pos]; rfl
  refine Bc.val (v := .int .u8 (D7 s z.toNat).toNat) (w' := w) (by simp [execOp, ho, hra, hrb, Instr.index, asIntOf, run_underlying ht, h0, hlt, hb]) (Cq.here hw (.int _ _ ?_ ?_))
  ·simp [IntKind.min, IntKind.signed]
  ·have := (D7 s z.toNat).toNat_lt; simp [IntKind.max, IntKind.signed, IntKind.bits]; omega
 ·exact h.elim

theorem Ac2 {o : Oper} {c : Call} {t : TypeId} {g : Bool} {x : Operand} {ix : Ax} {K : AV → Prop} (ho : o.op = .call c) (hc : c.callee = .builtin .len) (ha : c.args.toList = [x]) (hat : c.argTypes.toList = [t])
  (ht : if g then P.underlying t = some .string else ∃ e, P.underlying t = some (.slice e)) (hx : AB x = some ix) (h : Mx g (ix.ev fr) K) : QOk P E fr hp o K := by
 obtain ⟨callee, args, argTypes⟩ := c
 simp only at hc ha hat
 subst hc
 obtain ⟨al⟩ := args
 obtain ⟨tl⟩ := argTypes
 simp only at ha hat
 subst ha hat
 have hrange : ∀ (n : Nat), n ≤ maxLen → ∀ S w μ, VR S w μ (.int .i64 n) (.int .i64 n) := fun n hn S w μ => .int _ _ (by simp [IntKind.min, IntKind.signed, IntKind.bits]) (by unfold maxLen at hn; simp [IntKind.max, IntKind.signed, IntKind.bits]; omega)
 have fin : ∀ (n : Nat), K (.int .i64 n) → (∀ S w μ (ρ : Operand → Value), WI E S w μ hp → VR S w μ (ρ x) (ix.ev fr) → n ≤ maxLen ∧ (Builtin.len_ #[t] o.type #[ρ x]).run P w = .ok (.int .i64 n) w) → QOk P E fr hp o K := by
  intro n hk hr
  refine ⟨_, hk, fun S w μ ρ hw hf _ _ => ?_⟩
  obtain ⟨h1, h2⟩ := hr S w μ ρ hw (hf.one (x := x) (by simp [ho, Op.operands, Call.operands]) hx)
  exact Bc.val (v := .int .i64 n) (w' := w) (by simp [execOp, ho, resolve, invoke, builtin, h2]) (Cq.here hw (hrange n h1 _ _ _))
 unfold Mx at h
 split at h
 ·rename_i s e1
  obtain ⟨rfl, h⟩ := h
  refine fin s.size h (fun S w μ ρ hw hv => ?_)
  rw [e1] at hv
  generalize ρ x = va at hv
  cases hv with | str _ hs =>
  exact ⟨hs, by simp [Builtin.len_, run_underlying (by simpa using ht), goInt]⟩
 ·rename_i es e1
  obtain ⟨rfl, h⟩ := h
  obtain ⟨e, ht⟩ : ∃ e, P.underlying t = some (.slice e) := by simpa using ht
  refine fin es.length h (fun S w μ ρ hw hv => ?_)
  rw [e1] at hv
  generalize ρ x = va at hv
  cases hv with
  | sl0 a cap hc => exact ⟨Nat.zero_le _, by simp [Builtin.len_, run_underlying ht, goInt]⟩
  | sl b p cap esz vs _ hS hl hm hzz hc hh => exact ⟨Nat.le_trans hl hm, by simp [Builtin.len_, run_underlying ht, goInt]⟩
 ·rename_i k v n e1
  obtain ⟨rfl, h⟩ := h
  obtain ⟨e, ht⟩ : ∃ e, P.underlying t = some (.slice e) := by simpa using ht
  refine fin n h (fun S w μ ρ hw hv => ?_)
  rw [e1] at hv
  generalize ρ x = va at hv
  cases hv with
  | row _ _ _ b cap esz hμ hnn hm => exact ⟨Nat.le_trans hnn hm, by simp [Builtin.len_, run_underlying ht, goInt]⟩
  | JO _ _ cap esz hμ => exact ⟨Nat.zero_le _, by simp [Builtin.len_, run_underlying ht, goInt]⟩
 ·rename_i e1
  obtain ⟨rfl, h⟩ := h
  obtain ⟨e, ht⟩ : ∃ e, P.underlying t = some (.slice e) := by simpa using ht
  refine fin 0 h (fun S w μ ρ hw hv => ?_)
  rw [e1] at hv
  generalize ρ x = va at hv
  cases hv
  exact ⟨Nat.zero_le _, by simp [Builtin.len_, run_underlying ht, goInt]⟩
 ·exact h.elim

theorem Ad9 {o : Oper} {c : Call} {t e : TypeId} {x : Operand} {ix : Ax} {K : AV → Prop} (ho : o.op = .call c) (hc : c.callee = .builtin .cap) (ha : c.args.toList = [x]) (hat : c.argTypes.toList = [t])
  (ht : P.underlying t = some (.slice e)) (hx : AB x = some ix) (h : AbS (ix.ev fr) K) : QOk P E fr hp o K := by
 obtain ⟨callee, args, argTypes⟩ := c
 simp only at hc ha hat
 subst hc
 obtain ⟨al⟩ := args
 obtain ⟨tl⟩ := argTypes
 simp only at ha hat
 subst ha hat
 unfold AbS at h
 split at h
 ·rename_i e1
  refine ⟨_, h, fun S w μ ρ hw hf _ _ => ?_⟩
  have hv := hf.one (x := x) (by simp [ho, Op.operands, Call.operands]) hx
  rw [e1] at hv
  generalize hr : ρ x = va at hv
  cases hv
  exact Bc.val (v := .int .i64 0) (w' := w) (by simp [execOp, ho, resolve, invoke, builtin, hr, Builtin.cap_, run_underlying ht, goInt]) (Cq.here hw (.int _ _ (by simp [IntKind.min, IntKind.signed, IntKind.bits]) (by simp [IntKind.max, IntKind.signed, IntKind.bits])))
 ·exact h.elim
theorem EJ {S : Nat → Prop} {w : World} {μ : Mu} {ρ : Operand → Value} {d : Int} {x : Option Operand} {ix : Option Ax} (hl : ∀ y, x = some y → ∃ iy, ix = some iy ∧ AB y = some iy) (h0 : x = none → ix = none) (hi : DZ fr ix = true)
  (hv : ∀ y, x = some y → ∀ iy, AB y = some iy → VR S w μ (ρ y) (iy.ev fr)) : (x = none ∧ ix = none) ∨ ∃ y k, x = some y ∧ ρ y = .int k (A0 fr d ix) ∧ ix ≠ none := by
 cases x with
 | none => exact .inl ⟨rfl, h0 rfl⟩
 | some y =>
  obtain ⟨iy, rfl, hl'⟩ := hl y rfl
  right
  have := hv y rfl iy hl'
  simp only [DZ] at hi
  cases he : iy.ev fr with
  | int k n =>
   rw [he] at this
   generalize hr : ρ y = vy at this
   cases this
   exact ⟨y, k, rfl, by simp [A0, he, AV.num, hr], by simp⟩
  | _ => rw [he] at hi; cases hi

theorem run_sliceBound {k : IntKind} {z : Int} {m : Nat} {c : BoundsCode} (h0 : 0 ≤ z) (h1 : z ≤ m) (w : World) : (Instr.sliceBound (.int k z) m c).run P w = .ok z.toNat w := by
 simp [Instr.sliceBound, asIntOf, h0, h1]

theorem DF {S : Nat → Prop} {w : World} {μ : Mu} {ρ : Operand → Value} {g : Bool} {len cap : Nat} {lo hi : Option Operand} {il ih : Option Ax} (hcap : len ≤ cap)
  (hl : (lo = none ∧ il = none) ∨ ∃ y k, lo = some y ∧ ρ y = .int k (A0 fr 0 il) ∧ il ≠ none) (hh : (hi = none ∧ ih = none) ∨ ∃ y k, hi = some y ∧ ρ y = .int k (A0 fr len ih) ∧ ih ≠ none)
  (h0 : 0 ≤ A0 fr 0 il) (h1 : A0 fr 0 il ≤ A0 fr len ih) (h2 : A0 fr len ih ≤ len) :
  (Instr.sliceBounds g len cap (lo.map ρ) (hi.map ρ) none).run P w = .ok ((A0 fr 0 il).toNat, (A0 fr len ih).toNat, cap) w := by
 unfold Instr.sliceBounds
 rcases hl with ⟨rfl, rfl⟩ | ⟨y, k, rfl, hy, _⟩ <;> rcases hh with ⟨rfl, rfl⟩ | ⟨y', k', rfl, hy', _⟩
 ·simp [A0]
 ·simp only [Option.map_none, Option.map_some, hy', Sem.run_bind, Sem.run_pure, Result.andThen_ok]
  rw [run_sliceBound (by omega) (by omega)]
  simp [A0]
 ·simp only [Option.map_none, Option.map_some, hy, Sem.run_bind, Sem.run_pure, Result.andThen_ok]
  rw [run_sliceBound h0 (by simpa [A0] using h1)]
  simp [A0]
 ·simp only [Option.map_some, hy, hy', Sem.run_bind, Sem.run_pure, Result.andThen_ok]
  rw [run_sliceBound (by omega) (by omega)]
  simp only [Result.andThen_ok]
  rw [run_sliceBound h0 (by omega)]
  simp

theorem NQ {o : Oper} {t : TypeId} {n : Nat} {x : Operand} {ix : Ax} {lo hi : Option Operand} {il ih : Option Ax} {K : AV → Prop} (ho : o.op = .slice t x lo hi none) (ht : Qm P t = some n) (hx : AB x = some ix)
  (hlo : ∀ y, lo = some y → ∃ iy, il = some iy ∧ AB y = some iy) (hlo0 : lo = none → il = none) (hhi : ∀ y, hi = some y → ∃ iy, ih = some iy ∧ AB y = some iy) (hhi0 : hi = none → ih = none)
  (h : FW fr n il ih (ix.ev fr) K) : QOk P E fr hp o K := by
 have hfit : ∀ {S w μ} {ρ : Operand → Value}, Fits S w μ fr ρ o.op.operands.toList → (∀ y, lo = some y → ∀ iy, AB y = some iy → VR S w μ (ρ y) (iy.ev fr)) ∧ (∀ y, hi = some y → ∀ iy, AB y = some iy → VR S w μ (ρ y) (iy.ev fr)) ∧ VR S w μ (ρ x) (ix.ev fr) := by
  intro S w μ ρ hf
  refine ⟨fun y hy iy h => hf y (by simp [ho, Op.operands, hy]) iy h, fun y hy iy h => hf y (by simp [ho, Op.operands, hy]) iy h, hf.one (x := x) (by simp [ho, Op.operands]) hx⟩
 unfold FW at h
 split at h
 ·rename_i s e1
  obtain ⟨⟨rfl, i1, i2, h0, h1, h2⟩, h⟩ := h
  have hu : P.underlying t = some .string := by
   unfold Qm at ht
   split at ht
   ·assumption
   ·split at ht <;> simp at ht
   ·cases ht
  refine ⟨_, h, fun S w μ ρ hw hf _ _ => ?_⟩
  obtain ⟨f1, f2, hv⟩ := hfit hf
  rw [e1] at hv
  generalize hr : ρ x = va at hv
  cases hv with | str _ hs =>
  have hb := DF (P := P) (S := S) (w := w) (μ := μ) (g := false) (len := s.size) (cap := s.size) (Nat.le_refl _) (EJ (d := 0) hlo hlo0 i1 f1) (EJ (d := s.size) hhi hhi0 i2 f2) h0 h1 h2
  refine Bc.val (v := .string (s.extract (A0 fr 0 il).toNat (A0 fr s.size ih).toNat)) (w' := w) (by simp [execOp, ho, hr, Instr.sliceAt, run_underlying hu, Instr.slice, hb]) (Cq.here hw (.str _ ?_))
  have : (s.extract (A0 fr 0 il).toNat (A0 fr s.size ih).toNat).size ≤ s.size := by rw [ByteArray.size_extract]; omega
  omega
 ·rename_i es e1
  obtain ⟨⟨hn, i1, i2, h0, h1, h2, h3⟩, h⟩ := h
  obtain ⟨e, hu, hz⟩ : ∃ e, P.underlying t = some (.slice e) ∧ B4 P e = some n := by
   unfold Qm at ht
   split at ht
   ·simp at ht; omega
   ·split at ht
    ·simp at ht; subst ht; exact ⟨_, by assumption, by assumption⟩
    ·cases ht
   ·cases ht
  refine ⟨_, h, fun S w μ ρ hw hf _ _ => ?_⟩
  obtain ⟨f1, f2, hv⟩ := hfit hf
  rw [e1] at hv
  generalize hr : ρ x = va at hv
  cases hv with
  | sl0 a cap hc =>
   have hb := DF (P := P) (S := S) (w := w) (μ := μ) (g := true) (len := 0) (cap := cap) (Nat.zero_le _) (EJ (d := 0) hlo hlo0 i1 f1) (EJ (d := ((0 : Nat) : Int)) hhi hhi0 i2 f2) h0 h1 h2
   simp only [List.length_nil] at h1 h2 ⊢
   have e3 : (A0 fr 0 il).toNat = 0 := by omega
   have e4 : (A0 fr ((0 : Nat) : Int) ih).toNat = 0 := by omega
   rw [e3, e4] at hb
   refine Bc.val (v := .slice (if cap = 0 then a else a.map (·.add (0 * n))) 0 cap) (w' := w) (by simp [execOp, ho, hr, Instr.sliceAt, run_underlying hu, Instr.slice, hb, CV hz]) (Cq.here hw ?_)
   simp only [List.drop_nil, List.take_nil]
   exact .sl0 _ _ hc
  | sl b p cap esz vs _ hS hl hm hzz hc hh =>
   have hb := DF (P := P) (S := S) (w := w) (μ := μ) (g := true) (len := es.length) (cap := cap) hl (EJ (d := 0) hlo hlo0 i1 f1) (EJ (d := es.length) hhi hhi0 i2 f2) h0 h1 h2
   generalize hL : (A0 fr 0 il).toNat = L at *
   generalize hH : (A0 fr es.length ih).toNat = H at *
   have hLH : L ≤ H := by omega
   have hHe : H ≤ es.length := by omega
   have hlen : ((es.drop L).take (H - L)).length = H - L := by simp; omega
   refine Bc.val (v := .slice (if cap = L then some ⟨b, p, none⟩ else some ⟨b, p + L * n, none⟩) (H - L) (cap - L)) (w' := w) (by
    simp [execOp, ho, hr, Instr.sliceAt, run_underlying hu, Instr.slice, hb, CV hz, EH]) (Cq.here hw ?_)
   by_cases hHL : H = L
   ·have : (es.drop L).take (H - L) = [] := List.eq_nil_of_length_eq_zero (by rw [hlen]; omega)
    rw [this, hHL, Nat.sub_self]
    exact .sl0 _ _ (by omega)
   ·have hne : cap ≠ L := by omega
    rw [if_neg hne]
    have hL0 : L * n = L * esz := by
     rcases h3 with h3 | h3
     ·subst h3; simp [A0] at hL; subst hL; simp
     ·have : 0 < es.length := by omega
      have h4 := h3 es[0] (List.getElem_mem this)
      rw [(hzz _ (List.getElem_mem this)).1] at h4
      rw [h4]
    rw [hL0]
    have key : VR S w μ (.slice (some ⟨b, p + L * esz, none⟩) ((es.drop L).take (H - L)).length (cap - L)) (.sl ((es.drop L).take (H - L))) := by
     refine .sl b (p + L * esz) (cap - L) esz (fun i j => vs (L + i) j) _ hS (by rw [hlen]; omega) (by omega) (fun e he => hzz e (List.mem_of_mem_drop (List.mem_of_mem_take he))) (fun i j hi hj => ?_) (fun i j e x hp' hq => ?_)
     ·rw [hlen] at hi
      rw [Nat.add_assoc p, ← Nat.add_mul]
      exact hc (L + i) j (by omega) hj
     ·rw [List.getElem?_take] at hp'
      split at hp'
      ·rw [List.getElem?_drop] at hp'
       exact hh (L + i) j e x hp' hq
      ·cases hp'
    rw [hlen] at key
    exact key
 ·rename_i k v m e1
  obtain ⟨⟨hn, rfl, i2, h0, h2⟩, h⟩ := h
  obtain ⟨e, hu, hz⟩ : ∃ e, P.underlying t = some (.slice e) ∧ B4 P e = some n := by
   unfold Qm at ht
   split at ht
   ·simp at ht; omega
   ·split at ht
    ·simp at ht; subst ht; exact ⟨_, by assumption, by assumption⟩
    ·cases ht
   ·cases ht
  refine ⟨_, h, fun S w μ ρ hw hf _ _ => ?_⟩
  obtain ⟨f1, f2, hv⟩ := hfit hf
  rw [e1] at hv
  generalize hr : ρ x = va at hv
  have hlo' : lo = none := by
   cases lo with
   | none => rfl
   | some y => obtain ⟨iy, h5, _⟩ := hlo y rfl; cases h5
  subst hlo'
  cases hv with
  | row _ _ _ b cap esz hμ hnn hm =>
   have hb := DF (P := P) (S := S) (w := w) (μ := μ) (g := true) (len := m) (cap := cap) (fr := fr) (il := none) (lo := none) hnn (.inl ⟨rfl, rfl⟩) (EJ (d := m) hhi hhi0 i2 f2) (by simp [A0]) (by simpa [A0] using h0) h2
   refine Bc.val (v := .slice (some ⟨b, 0, none⟩) (A0 fr m ih).toNat cap) (w' := w) (by
    have e5 : (A0 fr 0 (none : Option Ax)).toNat = 0 := rfl
    simp only [Option.map_none] at hb
    simp [execOp, ho, hr, Instr.sliceAt, run_underlying hu, Instr.slice, hb, CV hz, EH, e5]) (Cq.here hw (.row k v _ b cap esz hμ (by omega) hm))
  | JO _ _ cap esz hμ =>
   have hb := DF (P := P) (S := S) (w := w) (μ := μ) (g := true) (len := 0) (cap := 0) (fr := fr) (il := none) (lo := none) (Nat.le_refl _) (.inl ⟨rfl, rfl⟩) (EJ (d := ((0 : Nat) : Int)) hhi hhi0 i2 f2) (by simp [A0]) (by simpa [A0] using h0) h2
   have e4 : (A0 fr ((0 : Nat) : Int) ih).toNat = 0 := by omega
   rw [e4] at hb ⊢
   refine Bc.val (v := .slice none 0 0) (w' := w) (by
    have e5 : (A0 fr 0 (none : Option Ax)).toNat = 0 := rfl
    simp only [Option.map_none] at hb
    simp [execOp, ho, hr, Instr.sliceAt, run_underlying hu, Instr.slice, hb, CV hz, e5]) (Cq.here hw (.JO k v cap esz hμ))
 ·rename_i e1
  obtain ⟨⟨hn, rfl, i2, h0⟩, h⟩ := h
  obtain ⟨e, hu, hz⟩ : ∃ e, P.underlying t = some (.slice e) ∧ B4 P e = some n := by
   unfold Qm at ht
   split at ht
   ·simp at ht; omega
   ·split at ht
    ·simp at ht; subst ht; exact ⟨_, by assumption, by assumption⟩
    ·cases ht
   ·cases ht
  refine ⟨_, h, fun S w μ ρ hw hf _ _ => ?_⟩
  obtain ⟨f1, f2, hv⟩ := hfit hf
  rw [e1] at hv
  generalize hr : ρ x = va at hv
  have hlo' : lo = none := by
   cases lo with
   | none => rfl
   | some y => obtain ⟨iy, h5, _⟩ := hlo y rfl; cases h5
  subst hlo'
  cases hv with
  | Ar =>
   have hb := DF (P := P) (S := S) (w := w) (μ := μ) (g := true) (len := 0) (cap := 0) (fr := fr) (il := none) (lo := none) (Nat.le_refl _) (.inl ⟨rfl, rfl⟩) (EJ (d := ((0 : Nat) : Int)) hhi hhi0 i2 f2) (by simp [A0]) (by have := h0; simp only [Int.natCast_zero, A0] at this ⊢; omega) (by have := h0; simp only [Int.natCast_zero] at this ⊢; omega)
   have e4 : (A0 fr ((0 : Nat) : Int) ih).toNat = 0 := by have := h0; simp only [Int.natCast_zero] at this ⊢; omega
   rw [e4] at hb
   refine Bc.val (v := .slice none 0 0) (w' := w) (by
    have e5 : (A0 fr 0 (none : Option Ax)).toNat = 0 := rfl
    simp only [Option.map_none] at hb
    simp [execOp, ho, hr, Instr.sliceAt, run_underlying hu, Instr.slice, hb, CV hz, e5]) (Cq.here hw .Ar)
 ·exact h.elim
end

end Go.Proofs.YtjbcnilllfaipaaGreat.Av

namespace Go.Proofs.YtjbcnilllfaipaaGreat.Av
open Go.RowKit

theorem foldl_push (l : List UInt8) : ∀ (s : ByteArray), ((l.map fun b => (b.toNat : Int)).foldl (fun r n => r.push (UInt8.ofNat n.toNat)) s) = ⟨s.data ++ l.toArray⟩ := by
 induction l with
 | nil => intro s; simp
 | cons b l ih =>
  intro s
  simp only [List.map_cons, List.foldl_cons, ih]
  simp [ByteArray.push]

theorem Acd {P : Program} {w : World} {b p : Nat} {cap : Nat} {l : List UInt8} (h : ∀ j (hj : j < l.length), w.cell? ⟨b, p + j, none⟩ = some (.int .u8 l[j].toNat)) :
  (Conv.bytesToString (.slice (some ⟨b, p, none⟩) l.length cap)).run P w = .ok (.string ⟨l.toArray⟩) w := by
 have h1 := run_loadCells_list (P := P) w ⟨b, p, none⟩ ((l.map fun b => (b.toNat : Int)).map (Value.int .u8)) (fun j v hv => by
  rw [EH]
  simp only [List.map_map, List.getElem?_map, Option.map_eq_some_iff] at hv
  obtain ⟨x, hx, rfl⟩ := hv
  obtain ⟨hj, rfl⟩ := List.getElem?_eq_some_iff.1 hx
  exact h j hj)
 simp only [List.length_map] at h1
 rw [run_bytesToString w _ _ _ _ h1, foldl_push]
 simp

section
variable {P : Program} {E : Env} {hp : Hp} {fr : Nat → AV}

theorem Aeb {o : Oper} {s d e : TypeId} {x : Operand} {ix : Ax} {K : AV → Prop} (ho : o.op = .convert s d x) (hs : P.underlying s = some (.slice e)) (hd : P.underlying d = some .string) (he : P.underlying e = some (.int .u8)) (hx : AB x = some ix)
  (h : AbV (GH hp (ix.ev fr)) K) : QOk P E fr hp o K := by
 have fin : ∀ (l : List UInt8), K (.str ⟨l.toArray⟩) → (∀ S w μ (ρ : Operand → Value), WI E S w μ hp → VR S w μ (ρ x) (ix.ev fr) → (l = [] ∧ ∃ a c, ρ x = .slice a 0 c) ∨ ∃ b p cap, ρ x = .slice (some ⟨b, p, none⟩) l.length cap ∧ l.length ≤ maxLen ∧ ∀ j (hj : j < l.length), w.cell? ⟨b, p + j, none⟩ = some (.int .u8 l[j].toNat)) → QOk P E fr hp o K := by
  intro l hk hc
  refine ⟨_, hk, fun S w μ ρ hw hf _ _ => ?_⟩
  rcases hc S w μ ρ hw (hf.one (x := x) (by simp [ho, Op.operands]) hx) with ⟨rfl, a, c, h1⟩ | ⟨b, p, cap, h1, h2, h3⟩
  ·refine Bc.val (v := .string ⟨#[]⟩) (w' := w) ?_ (Cq.here hw (.str _ (Nat.zero_le _)))
   cases a with
   | none => simp [execOp, ho, h1, run_convert_bytes_string w s d e none 0 c hs he hd, Conv.bytesToString]; rfl
   | some a =>
    have := run_bytesToString (P := P) w a 0 c [] (by simp [loadCells, loadCellsFrom])
    simp [execOp, ho, h1, run_convert_bytes_string w s d e (some a) 0 c hs he hd, this]; rfl
  ·exact Bc.val (v := .string ⟨l.toArray⟩) (w' := w) (by simp [execOp, ho, h1, run_convert_bytes_string w s d e _ _ cap hs he hd, Acd h3]) (Cq.here hw (.str _ (by simpa [ByteArray.size] using h2)))
 unfold AbV at h
 split at h
 ·rename_i es0 es e1
  obtain ⟨l, hes, h⟩ := h
  refine fin l h (fun S w μ ρ hw hv => ?_)
  have Aw : ∀ j (hj : j < l.length), es[j]? = some (.int .u8 l[j].toNat) := fun j hj => by rw [hes]; simp [hj]
  have hlen : es.length = l.length := by rw [hes]; simp
  unfold GH at e1
  split at e1
  ·rename_i es' e2
   cases e1
   rw [e2] at hv
   generalize ρ x = va at hv
   cases hv with
   | sl0 a cap hc => exact .inl ⟨by simpa using hes.symm, a, cap, rfl⟩
   | sl b p cap esz vs _ hS hl hm hzz hc hh =>
    refine .inr ⟨b, p, cap, by rw [hlen], by omega, fun j hj => ?_⟩
    have hg := Aw j hj
    have h1 := (hzz _ (List.mem_of_getElem? hg)).1
    simp [AV.cells] at h1
    subst h1
    have h2 := hc j 0 (by omega) (by omega)
    have h3 := hh j 0 _ _ hg rfl
    generalize vs j 0 = u at h2 h3
    cases h3
    simpa using h2
  ·rename_i e2
   cases e1
   rw [e2] at hv
   generalize ρ x = va at hv
   cases hv
   exact .inl ⟨by simpa using hes.symm, none, 0, rfl⟩
  ·rename_i k v n e2
   split at e1
   ·rename_i bx hk
    split at e1
    ·rename_i hc
     cases e1
     rw [e2] at hv
     generalize ρ x = va at hv
     have hn : n = l.length := by rw [← hlen]; simp; omega
     cases hv with
     | row _ _ _ b cap esz hμ hnn hm =>
      obtain ⟨B, hB, hz, hh⟩ := hw.box k bx hk
      rw [hc.1, hμ] at hB
      cases hB
      obtain ⟨a1, a2, a3, cur, a4, a5, a6, a7, a8⟩ := hh
      refine .inr ⟨b, 0, cap, by rw [hn], by omega, fun j hj => ?_⟩
      have hg := Aw j hj
      rw [List.getElem?_take, if_pos (by omega)] at hg
      have h1 := (a8.1 _ (List.mem_of_getElem? hg)).1
      simp [AV.cells] at h1
      subst h1
      obtain ⟨u, h2, h3⟩ := a8.2 j 0 _ _ hg rfl
      cases h3
      rw [a4.cell]
      simpa using h2
     | JO _ _ cap esz hμ => exact .inl ⟨List.eq_nil_of_length_eq_zero hn.symm, none, 0, rfl⟩
    ·cases e1
   ·cases e1
  ·cases e1
 ·exact h.elim

theorem Ads {o : Oper} {f : FuncId} {first caps : Array Operand} {is : List Ax} {K : AV → Prop} (ho : o.op = .makeFunc (.func f) first caps) (hf0 : first.isEmpty = true) (hx : Cz caps.toList = some is) (h : K (.fn f (is.map fun x => x.ev fr))) : QOk P E fr hp o K := by
 refine ⟨_, h, fun S w μ ρ hw hf _ _ => ?_⟩
 have hv := hf.args (l := caps.toList) (is := is) (fun x hx => by simp only [ho, Op.operands, Array.toList_append, List.mem_append]; exact .inr hx) hx
 have hfe : first = #[] := by simpa using hf0
 refine Bc.val (v := .func (.func f) #[] (caps.map ρ)) (w' := w) (by simp [execOp, ho, Instr.makeFunc, hfe]) (Cq.here hw (.fn f _ _ (by simpa using hv.1) (fun i v x p q => hv.2 i v x (by simpa using p) q)))

theorem Aax {o : Oper} {x : Operand} {ix : Ax} {K : AV → Prop} (ho : o.op = .nilCheck x) (hx : AB x = some ix) (h : GQ (ix.ev fr) K) : QOk P E fr hp o K := by
 unfold GQ at h
 split at h
 ·rename_i cs e1
  refine ⟨_, h, fun S w μ ρ hw hf _ _ => ?_⟩
  have hv := hf.one (x := x) (by simp [ho, Op.operands]) hx
  rw [e1] at hv ⊢
  obtain ⟨b, p, hb⟩ := hv.LO
  exact Bc.val (v := ρ x) (w' := w) (by simp [execOp, ho, hb]) (Cq.here hw hv)
 ·rename_i k v i off e1
  refine ⟨_, h, fun S w μ ρ hw hf _ _ => ?_⟩
  have hv := hf.one (x := x) (by simp [ho, Op.operands]) hx
  rw [e1] at hv ⊢
  generalize hr : ρ x = va at hv
  cases hv with
  | ptr _ _ _ _ b cap esz hμ => exact Bc.val (v := .pointer (some ⟨b, i * esz + off, none⟩)) (w' := w) (by simp [execOp, ho, hr]) (Cq.here hw (.ptr k v i off b cap esz hμ))
 ·rename_i f xs e1
  refine ⟨_, h, fun S w μ ρ hw hf _ _ => ?_⟩
  have hv := hf.one (x := x) (by simp [ho, Op.operands]) hx
  rw [e1] at hv ⊢
  generalize hr : ρ x = va at hv
  cases hv with
  | fn _ cs _ hl hh => exact Bc.val (v := .func (.func f) #[] cs) (w' := w) (by simp [execOp, ho, hr]) (Cq.here hw (.fn f cs xs hl hh))
 ·exact h.elim

theorem WI.frz {S : Nat → Prop} {w : World} {μ : Mu} {hp : Hp} (h : WI E S w μ hp) {k : Nat} {bx : Box} (hk : Aw hp k = some bx) : ∃ S', WI E S' w μ (KG hp k) ∧ (∀ b, S b → S' b) := by
 obtain ⟨B, hB, hz, hh⟩ := h.box k bx hk
 let g : Nat → Prop := fun b => B.blk = some b
 have hget' : ∀ j, Aw (KG hp k) j = if k = j then some { bx with frz := true, es := bx.es.map (AV.pur hp) } else Aw hp j := fun j => by
  unfold KG; rw [hk]; rfl
 have hblk : ∀ b, B.blk = some b → b < w.heap.size := fun b hb => by
  rw [hb] at hh
  obtain ⟨_, _, _, cur, a4, _⟩ := hh
  exact a4.lt
 have hokE : ∀ b, B.blk = some b → ∀ e ∈ bx.es, e.ok = true := fun b hb e he => by
  rw [hb] at hh
  obtain ⟨_, _, _, cur, a4, a5, a6, a7, a8⟩ := hh
  by_cases hq : e.isAgg = true
  ·simp [AV.ok, hq]
  ·have : e.cells = [e] := by cases e <;> first | rfl | (simp [AV.isAgg] at hq)
   simp [AV.ok, (a8.1 e he).2 e (by rw [this]; simp)]
 cases hfz : bx.frz with
 | true =>
  refine ⟨S, ⟨h.ext, h.lt, h.base, h.new, h.fresh, fun j bj hj => ?_, ?_, h.le⟩, fun _ h => h⟩
  ·rw [hget'] at hj
   by_cases hkj : k = j
   ·rw [if_pos hkj] at hj; cases hj; subst hkj
    refine ⟨B, hB, hz, ?_⟩
    cases hbl : B.blk with
    | none => rw [hbl] at hh; simp only at hh; simp [hh]
    | some b =>
     have hok := hokE b hbl
     rw [hbl] at hh
     obtain ⟨a1, a2, a3, cur, a4, a5, a6, a7, a8⟩ := hh
     exact ⟨fun e => (by cases e), fun _ => a2 hfz, fun e => (by cases e), cur, a4, a5, a6, by simpa using a7, a8.pur h hok⟩
   ·rw [if_neg hkj] at hj; exact h.box j bj hj
  ·intro j j' bj bj' Bj Bj' b hj hj' hne hf1 hf2
   rw [hget'] at hj hj'
   by_cases hkj : k = j
   ·rw [if_pos hkj] at hj; cases hj; cases hf1
   ·rw [if_neg hkj] at hj
    by_cases hkj' : k = j'
    ·rw [if_pos hkj'] at hj'; cases hj'; cases hf2
    ·rw [if_neg hkj'] at hj'; exact h.apart j j' bj bj' Bj Bj' b hj hj' hne hf1 hf2
 | false =>
  have hmono : ∀ b, S b → (S b ∨ B.blk = some b) := fun b hb => .inl hb
  refine ⟨fun b => S b ∨ B.blk = some b, ⟨h.ext, fun b hb => hb.elim (h.lt b) (hblk b), fun b hb => .inl (h.base b hb), fun b hb => ?_, h.fresh, fun j bj hj => ?_, ?_, h.le⟩, hmono⟩
  ·rcases hb with hb | hb
   ·exact h.new b hb
   ·rw [hb] at hh
    exact .inr (hh.1 hfz)
  ·rw [hget'] at hj
   by_cases hkj : k = j
   ·rw [if_pos hkj] at hj; cases hj; subst hkj
    refine ⟨B, hB, hz, ?_⟩
    cases hbl : B.blk with
    | none => rw [hbl] at hh; simp only at hh; simp [hh]
    | some b =>
     have hok := hokE b hbl
     rw [hbl] at hh
     obtain ⟨a1, a2, a3, cur, a4, a5, a6, a7, a8⟩ := hh
     exact ⟨fun e => (by cases e), fun _ => .inr (by first | rfl | exact hbl), fun e => (by cases e), cur, a4, a5, a6, by simpa using a7, (a8.pur h hok).mono (fun b' hb' => .inl hb') (Cc.refl _ _) (Mu.le.refl _)⟩
   ·rw [if_neg hkj] at hj
    obtain ⟨B0, h0, hz0, hh0⟩ := h.box j bj hj
    refine ⟨B0, h0, hz0, ?_⟩
    cases hbl0 : B0.blk with
    | none => rw [hbl0] at hh0; exact hh0
    | some b0 =>
     rw [hbl0] at hh0
     obtain ⟨a1, a2, a3, cur, a4, a5, a6, a7, a8⟩ := hh0
     refine ⟨a1, fun e => .inl (a2 e), fun e hb => ?_, cur, a4, a5, a6, a7, a8.mono hmono (Cc.refl _ _) (Mu.le.refl _)⟩
     rcases hb with hb | hb
     ·exact a3 e hb
     ·exact h.apart j k bj bx B0 B b0 hj hk (Ne.symm hkj) e hfz h0 hB hbl0 hb
  ·intro j j' bj bj' Bj Bj' b hj hj' hne hf1 hf2
   rw [hget'] at hj hj'
   by_cases hkj : k = j
   ·rw [if_pos hkj] at hj; cases hj; cases hf1
   ·rw [if_neg hkj] at hj
    by_cases hkj' : k = j'
    ·rw [if_pos hkj'] at hj'; cases hj'; cases hf2
    ·rw [if_neg hkj'] at hj'; exact h.apart j j' bj bj' Bj Bj' b hj hj' hne hf1 hf2

theorem WI.Cy {S : Nat → Prop} {w : World} {μ : Mu} : ∀ (l : List Nat) {hp : Hp} {S : Nat → Prop}, WI E S w μ hp → ∃ S', WI E S' w μ (Cy l hp) ∧ ∀ b, S b → S' b
 | [], hp, S, h => ⟨S, h, fun _ h => h⟩
 | k :: r, hp, S, h => by
  cases hk : Aw hp k with
  | none =>
   have e : KG hp k = hp := by unfold KG; rw [hk]
   obtain ⟨S', h1, h2⟩ := WI.Cy (S := S) r h
   exact ⟨S', by simp only [Av.Cy, e]; exact h1, h2⟩
  | some bx =>
   obtain ⟨S1, h1, h2⟩ := h.frz hk
   obtain ⟨S', h3, h4⟩ := WI.Cy (S := S1) r h1
   exact ⟨S', h3, fun b hb => h4 b (h2 b hb)⟩
theorem VRs.clean {S : Nat → Prop} {w : World} {μ : Mu} {vs : List Value} {xs : List AV} (h : VRs S w μ vs xs) (hc : ∀ x ∈ xs, Ac x) : VRs S w mu0 vs xs :=
 ⟨h.1, fun i v x a b => hc x (Dd b) _ _ _ _ (h.2 i v x a b)⟩
theorem VRs.Bv {S : Nat → Prop} {w : World} {μ : Mu} (hw : WI E S w μ hp) {vs : List Value} {xs : List Ax} (h : VRs S w μ vs (xs.map fun x => x.ev fr)) : VRs S w μ vs (xs.map fun x => (x.ev fr).Bv hp) :=
 ⟨by simpa using h.1, fun i v y p q => by
  simp only [List.getElem?_map, Option.map_eq_some_iff] at q
  obtain ⟨x, hx, rfl⟩ := q
  exact (h.2 i v (x.ev fr) p (by simp [hx])).Bv hw⟩

theorem WR {f : FuncId} {args : List AV} {res : AV} (hc : Ap P f args res) {S : Nat → Prop} {w : World} {μ : Mu} (hw : WI E S w μ hp) {vs : List Value} (hv : VRs S w μ vs args) :
  Calls P f vs.toArray w fun e w' => ∃ v, e = .returned v ∧ Cq E S μ w hp res v w' := by
 obtain ⟨_, hcl, hc⟩ := hc
 refine (hc S w vs hw.lt (hv.clean hcl)).mono fun e w' ⟨v, he, h1, h2⟩ => ⟨v, he, _, h1.mono (fun b hb => hb) (Cc.refl _ _) (Mu.le.zero μ), ?_, fun b hb => .inl hb, fun b hb => h2.block b (hw.lt b hb)⟩
 exact hw.step h2.os h2.tape h2.output h2.size (fun b hb => h2.block b hb) (fun b hb => .inl hb) (fun b hb => hb)

theorem VR.Je {S S' : Nat → Prop} {w w' : World} {μ μ' : Mu} {v : Value} {x : AV} (h : VR S w μ v x) (hs : x.Je = true) : VR S' w' μ' v x := by
 cases h <;> first | (constructor; done) | (constructor <;> assumption) | (simp [AV.Je] at hs)
theorem VR.Wd {S S' : Nat → Prop} {w w' : World} {μ μ' : Mu} {v : Value} {x : AV} (h : VR S w μ v x) (hs : x.Wd = true) : VR S' w' μ' v x := by
 cases h with
 | tup cs xs hl hh =>
  simp only [AV.Wd, List.all_eq_true] at hs
  exact .tup cs xs hl fun i v x p q => (hh i v x p q).Je (hs x (Dd q))
 | bool b => exact .bool b
 | int k n a b => exact .int k n a b
 | str s a => exact .str s a
 | Cx => exact .Cx
 | Ar => exact .Ar
 | IZ => exact .IZ
 | _ => simp [AV.Wd, AV.Je] at hs
theorem PN {f : FuncId} {args : List AV} {K : AV → Prop} (h : NB P f args hp K) : Dy P f = true ∧ ∃ r, K r ∧ ∀ {S : Nat → Prop} {w : World} {μ : Mu}, WI E S w μ hp → ∀ {vs : List Value}, VRs S w μ vs args →
  Calls P f vs.toArray w fun e w' => ∃ v, e = .returned v ∧ Cq E S μ w hp r v w' := by
 obtain ⟨r, h, hk⟩ := h
 rcases h with hc | ⟨ks, hc, hs⟩
 ·exact ⟨hc.1, r, hk, fun hw _ hv => WR hc hw hv⟩
 ·refine ⟨hc.1, r, hk, fun {S w μ} hw vs hv => ?_⟩
  obtain ⟨S', hw', hS⟩ := WI.Cy (S := S) ks hw
  have hv2 : VRs S' w μ vs (args.map (AV.Bv (Cy ks hp))) := ⟨by simpa using hv.1, fun i v y p q => by
   simp only [List.getElem?_map, Option.map_eq_some_iff] at q
   obtain ⟨x, hx, rfl⟩ := q
   exact ((hv.2 i v x p hx).mono hS (Cc.refl _ _) (Mu.le.refl _)).Bv hw'⟩
  obtain ⟨_, hcl, hc⟩ := hc
  refine (hc S' w vs hw'.lt (hv2.clean hcl)).mono fun e w' ⟨v, he, h1, h2⟩ => ⟨v, he, S, h1.Wd hs, ?_, fun _ h => h, fun b hb => h2.block b (hw.lt b hb)⟩
  exact hw.step h2.os h2.tape h2.output h2.size (fun b hb => h2.block b hb) (fun _ h => h) (fun b hb => .inl hb)

theorem GP {f : FuncId} (h : Dy P f = true) (args : Array Value) (w : World) : (callFunc f args).run P w = .ok (.enter f args) w := by
 unfold Dy at h
 split at h
 ·rename_i fn hf
  simp only [Bool.and_eq_true, bne_iff_ne, ne_eq] at h
  obtain ⟨h1, h2⟩ := h
  have h3 : fn.body.isNone = false := by cases hb : fn.body <;> simp_all
  simp only [callFunc, Sem.run_bind]
  have h2' : (fn.name == "runtime.NumGoroutine") = false := by simpa using h2
  show Sem.run P (match P.funcs[f]? with | none => _ | some fn => _) w = _
  simp only [hf, h2', h3]
  rfl
 ·cases h

theorem Adv {o : Oper} {c : Call} {f : FuncId} {is : List Ax} {K : AV → Prop} (ho : o.op = .call c) (hc : c.callee = .value (.func f)) (hcl : Dy P f = true) (hx : Cz c.args.toList = some is)
  (h : NB P f (is.map fun x => (x.ev fr).Bv hp) hp K) : QOk P E fr hp o K := by
 obtain ⟨_, r, hk, hr⟩ := PN (E := E) h
 refine ⟨r, hk, fun S w μ ρ hw hf _ hfun => ?_⟩
 have hv := (hf.args (l := c.args.toList) (is := is) (fun x hx => by simp only [ho, Op.operands, Call.operands, hc, Array.toList_append, List.mem_append]; exact .inr hx) hx).Bv hw
 have := hr hw hv
 unfold Bc
 simp only [execOp, ho, resolve, hc, hfun, Deferred.ofValue, invoke, Sem.run_bind, Sem.run_pure, Result.andThen_ok, GP hcl]
 have e : (List.map ρ c.args.toList).toArray = #[] ++ Array.map ρ c.args ++ #[] := by apply Array.ext'; simp
 rw [e] at this
 exact this

theorem Acg {o : Oper} {c : Call} {x : Operand} {ix : Ax} {is : List Ax} {K : AV → Prop} (ho : o.op = .call c) (hc : c.callee = .value x) (hx0 : AB x = some ix) (hx : Cz c.args.toList = some is)
  (h : SX P ((ix.ev fr).Bv hp) (is.map fun x => (x.ev fr).Bv hp) hp K) : QOk P E fr hp o K := by
 unfold SX at h
 split at h
 ·rename_i f caps e1
  obtain ⟨hcl, r, hk, hr⟩ := PN (E := E) h
  refine ⟨r, hk, fun S w μ ρ hw hf _ hfun => ?_⟩
  have hv := (hf.args (l := c.args.toList) (is := is) (fun x hx => by simp only [ho, Op.operands, Call.operands, hc, Array.toList_append, List.mem_append]; exact .inr hx) hx).Bv hw
  have hfv := (hf.one (x := x) (by simp [ho, Op.operands, Call.operands, hc]) hx0).Bv hw
  rw [e1] at hfv
  generalize hrx : ρ x = va at hfv
  cases hfv with
  | fn _ cs _ hl hh =>
   have hcv : VRs S w μ cs.toList caps := ⟨by simpa using hl, fun i v y p q => hh i v y (by simpa using p) q⟩
   have := hr hw (hv.append hcv)
   unfold Bc
   simp only [execOp, ho, resolve, hc, hrx, Deferred.ofValue, invoke, Sem.run_bind, Sem.run_pure, Result.andThen_ok, GP hcl]
   have e : (List.map ρ c.args.toList ++ cs.toList).toArray = #[] ++ Array.map ρ c.args ++ cs := by apply Array.ext'; simp
   rw [e] at this
   exact this
 ·exact h.elim

theorem OM {own : List (Nat × Nat)} {o : Oper} {io : IOp} {K : AV → Hp → Prop} (hl : OO P own o = some io) (hq : io.quiet = true) (h : io.sem P fr hp K) : QOk P E fr hp o fun v => K v hp := by
 unfold OO at hl
 simp only at hl
 split at hl
 ·rename_i x ho
  cases hx : AB x <;> rw [hx] at hl <;> cases hl
  exact Ac1 (.inl ho) hx h
 ·rename_i x ho
  cases hx : AB x <;> rw [hx] at hl <;> cases hl
  exact Ac1 (.inr ho) hx h
 ·rename_i c a b ho
  split at hl
  ·cases hl; exact Adr ho (by assumption) (by assumption) (by assumption) h
  ·cases hl
 ·rename_i op t x y ty ho
  split at hl
  ·split at hl
   ·unfold Wq at hl
    split at hl
    ·split at hl
     ·split at hl <;> cases hl <;> cases hq
     ·cases hl
    ·cases hl
   split at hl
   iterate 6
    ·cases hl; exact Adx ho (by assumption) (by assumption) h
   ·rename_i h1 h2 _ _ _ _
    cases hl; exact Aea ho (by assumption) (by assumption) ⟨by simp_all, by simp_all⟩ h
  ·cases hl
 ·rename_i op t x ho
  cases hx : AB x <;> rw [hx] at hl <;> cases hl
  exact AeD ho hx h
 ·rename_i e ho
  split at hl
  ·cases hl; exact Aay ho (by assumption) h
  ·cases hl; cases hq
  ·cases hl
 ·rename_i e x ho
  split at hl
  ·cases hl; exact Adw ho (by assumption) h
  ·cases hl; cases hq
  ·cases hl
 ·rename_i t ps ho
  split at hl
  ·split at hl
   ·split at hl
    ·rename_i hc
     cases hl
     exact Ach ho (by assumption) (by assumption) hc.1 (by assumption) (fun f hf => List.all_eq_true.1 hc.2 f hf) h
    ·cases hl
   ·cases hl
  ·cases hl
 ·rename_i t m ps ho
  split at hl
  ·split at hl
   ·split at hl
    ·rename_i hc
     split at hl
     ·cases hl
      exact Ad6 ho (by assumption) (by rw [hc.1]; assumption) (by assumption) (by assumption) (by rw [hc.1]; exact hc.2.2) (by rw [hc.1]; exact hc.2.1) h
     ·cases hl; cases hq
    ·cases hl
   ·cases hl
  ·cases hl
 ·rename_i t a ho
  split at hl
  ·cases hl; exact Adt ho (by assumption) (by assumption) (by assumption) h
  ·cases hl
 ·rename_i t a x ho
  split at hl
  ·cases hl; cases hq
  ·cases hl
 ·rename_i s x f ho
  split at hl
  ·split at hl
   ·split at hl
    ·cases hl; exact Acf ho (by assumption) (by assumption) (by assumption) (by assumption) h
    ·cases hl
   ·cases hl
  ·cases hl
 ·rename_i s x f ho
  split at hl
  ·split at hl
   ·split at hl
    ·cases hl; exact Ad8 ho (by assumption) (by assumption) (by assumption) (by assumption) (by assumption) h
    ·cases hl
   ·cases hl
  ·cases hl
 ·rename_i t x i ho
  split at hl
  ·split at hl
   ·cases hl; exact Ace ho (by assumption) (by assumption) (by assumption) (by assumption) h
   ·cases hl
  ·cases hl
 ·rename_i t x i ho
  split at hl
  ·cases hl; exact Adq ho (by assumption) (by assumption) (by assumption) h
  ·cases hl
 ·rename_i t x lo hi ho
  split at hl
  ·split at hl
   ·rename_i h1 h2
    cases hl
    refine NQ ho (by assumption) (by assumption) ?_ ?_ ?_ ?_ h <;> cases lo <;> cases hi <;> simp_all
   ·rename_i h1 h2
    cases hl
    refine NQ ho (by assumption) (by assumption) ?_ ?_ ?_ ?_ h <;> cases lo <;> cases hi <;> simp_all
   ·rename_i h1 h2
    cases hl
    refine NQ ho (by assumption) (by assumption) ?_ ?_ ?_ ?_ h <;> cases lo <;> cases hi <;> simp_all
   ·rename_i h1 h2
    cases hl
    refine NQ ho (by assumption) (by assumption) ?_ ?_ ?_ ?_ h <;> cases lo <;> cases hi <;> simp_all
   ·cases hl
  ·cases hl
 ·rename_i t l c ho
  split at hl
  ·split at hl
   ·split at hl
    ·split at hl
     ·cases hl; cases hq
     ·cases hl
    ·cases hl
   ·cases hl
  ·cases hl
 ·rename_i s d x ho
  split at hl
  ·cases hl; exact Adu ho (by assumption) (by assumption) (by assumption) h
  ·split at hl
   ·split at hl
    ·cases hl; exact Aeb ho (by assumption) (by assumption) (by assumption) (by assumption) h
    ·cases hl
   ·cases hl
  ·split at hl
   ·cases hl; cases hq
   ·cases hl
  ·cases hl
 ·rename_i x i ho
  cases hx : AB x <;> rw [hx] at hl <;> cases hl
  exact Zs ho hx h
 ·rename_i f first caps ho
  split at hl
  ·rename_i hc
   cases hx : Cz caps.toList <;> rw [hx] at hl <;> cases hl
   exact Ads ho hc hx h
  ·cases hl
 ·rename_i x ho
  cases hx : AB x <;> rw [hx] at hl <;> cases hl
  exact Aax ho hx h
 ·rename_i c ho
  split at hl
  ·rename_i hc
   split at hl
   ·split at hl
    ·cases hl; exact Ac2 ho hc (by assumption) (by assumption) (by simp; assumption) (by assumption) h
    ·cases hl; exact Ac2 ho hc (by assumption) (by assumption) (by simp; exact ⟨_, by assumption⟩) (by assumption) h
    ·cases hl
   ·cases hl
  ·split at hl
   ·split at hl
    ·split at hl
     ·split at hl
      ·split at hl
       ·cases hl; cases hq
       ·cases hl
      ·cases hl
     ·cases hl
    ·split at hl
     ·split at hl
      ·split at hl
       ·cases hl; cases hq
       ·cases hl
      ·cases hl
     ·cases hl
   ·cases hl
  ·rename_i hc
   cases hx : Cz c.args.toList <;> rw [hx] at hl <;> cases hl
   exact Ad7 (mx := true) ho hc hx h
  ·rename_i hc
   cases hx : Cz c.args.toList <;> rw [hx] at hl <;> cases hl
   exact Ad7 (mx := false) ho hc hx h
  ·rename_i hc
   split at hl
   ·split at hl
    ·cases hl; exact Ad9 ho hc (by assumption) (by assumption) (by assumption) (by assumption) h
    ·cases hl
   ·cases hl
  ·rename_i f hc
   split at hl
   ·rename_i hcl
    cases hx : Cz c.args.toList <;> rw [hx] at hl <;> simp only [Option.map_none, Option.map_some, reduceCtorEq, Option.some.injEq] at hl
    subst hl
    split at h
    ·rename_i hh; rw [if_pos hh] at hq; cases hq
    ·exact Adv ho hc hcl hx h
   ·cases hl
  ·rename_i x _ hc
   split at hl
   ·split at hl
    ·cases hl; cases hq
    ·cases hl; exact Acg ho hc (by assumption) (by assumption) h
   ·cases hl
  ·cases hl
 ·cases hl
theorem Dr {own : List (Nat × Nat)} {o : Oper} {io : IOp} {K : AV → Hp → Prop} (hl : OP P own o = some io) (hq : io.quiet = true) (h : io.sem P fr hp K) : QOk P E fr hp o fun v => K v hp := by
 unfold OP at hl
 split at hl
 ·cases hl
  have he : ∀ {b : Bool} {y : IOp}, (y.kept b).quiet = true → y.kept b = y := fun {b y} hy => by
   cases y <;> first | rfl | (cases b <;> first | rfl | (cases hy))
  have he' := he hq
  rw [he'] at hq h
  exact OM (by assumption) (by rw [← hq, UK]) (MS h)
 ·cases hl; exact h.elim
end

end Go.Proofs.YtjbcnilllfaipaaGreat.Av
