/-
  MARKS: what the laws write into memory that they hold (mark) and what they then ask of it (held). 'Tch fp w w'': of what was there only the blocks of fp may have turned. Conditions: none.
-/
import Derived.Test.YtbgphlpiknnajaaRows
import Derived.Test.YtbgphlpiknnajaaOwn
set_option linter.unusedVariables false
set_option maxRecDepth 100000
namespace Go.Proofs.Ytbgphlpiknnajaa
open Go.RowKit Go.Proofs.Ytbgphlpiknnajaa.Ml
def digsB (q : Nat) (acc : List UInt8) : List UInt8 := if h : q = 0 then acc else digsB (q / 10) (UInt8.ofNat (48 + q % 10) :: acc)
termination_by q
decreasing_by exact Nat.div_lt_self (Nat.pos_of_ne_zero h) (by decide)

/-- what markText writes of k -/
def markB (k : Int) : ByteArray := ⟨((109 : UInt8) :: digsB k.toNat []).toArray⟩

theorem digsB_len : ∀ (n q : Nat) (acc : List UInt8), q < 2 ^ n → (digsB q acc).length ≤ acc.length + n
  | 0, q, acc, h => by
    obtain rfl : q = 0 := by simpa using h
    unfold digsB; simp
  | n + 1, q, acc, h => by
    by_cases hq : q = 0
    · subst hq; unfold digsB; simp
    · unfold digsB
      rw [dif_neg hq]
      have := digsB_len n (q / 10) (UInt8.ofNat (48 + q % 10) :: acc) (by rw [Nat.pow_succ] at h; omega)
      simp only [List.length_cons] at this
      omega
theorem markB_le (k : Int) (h : k ≤ 4611686018427387904) : (markB k).size ≤ maxLen := by
  have := digsB_len 63 k.toNat [] (by omega)
  show (List.toArray _).size ≤ _
  simp only [List.size_toArray, List.length_cons, List.length_nil] at this ⊢
  unfold maxLen
  omega

end Go.Proofs.Ytbgphlpiknnajaa
namespace Go.Proofs.Ytbgphlpiknnajaa.Ml
open Go.RowKit Go.Proofs.Ytbgphlpiknnajaa

/-- what x reads as once it has been marked from k on, and how many marks that takes -/
class Mk (α : Type) where
  mark : Int → α → α
  cnt : α → Nat
instance : Mk Int := ⟨fun k _ => k, fun _ => 1⟩
instance : Mk ByteArray := ⟨fun k _ => markB k, fun _ => 1⟩
instance : Mk Bool := ⟨fun k _ => decide (k.tmod 3 = 0), fun _ => 1⟩

def mkL {α : Type} [Mk α] : Int → List α → List α
  | _, [] => []
  | k, x :: xs => Mk.mark k x :: mkL (k + (Mk.cnt x : Nat)) xs
def cntL {α : Type} [Mk α] : List α → Nat
  | [] => 0
  | x :: xs => Mk.cnt x + cntL xs
instance {α : Type} [Mk α] : Mk (List α) := ⟨mkL, cntL⟩

theorem mkL_len {α : Type} [Mk α] : ∀ (l : List α) (k : Int), (mkL k l).length = l.length
  | [], _ => rfl
  | _ :: xs, _ => by simp [mkL, mkL_len xs]
theorem cntL_append {α : Type} [Mk α] : ∀ (l r : List α), cntL (l ++ r) = cntL l + cntL r
  | [], r => by simp [cntL]
  | x :: xs, r => by simp only [List.cons_append, cntL, cntL_append xs]; omega
theorem mkL_append {α : Type} [Mk α] : ∀ (l r : List α) (k : Int), mkL k (l ++ r) = mkL k l ++ mkL (k + (cntL l : Nat)) r
  | [], r, k => by simp [mkL, cntL]
  | x :: xs, r, k => by
    simp only [List.cons_append, mkL, cntL, mkL_append xs]
    congr 3
    omega
theorem mkL_get {α : Type} [Mk α] {l : List α} {i : Nat} (hi : i < l.length) (k : Int) : (mkL k l)[i]? = some (Mk.mark (k + (cntL (l.take i) : Nat)) l[i]) := by
  have h : l = l.take i ++ l[i] :: l.drop (i + 1) := by rw [List.getElem_cons_drop, List.take_append_drop]
  have h2 : mkL k l = mkL k (l.take i) ++ mkL (k + (cntL (l.take i) : Nat)) (l[i] :: l.drop (i + 1)) := by rw [← mkL_append, ← h]
  rw [h2, List.getElem?_append_right (by rw [mkL_len, List.length_take]; omega), mkL_len, List.length_take, Nat.min_eq_left (by omega), Nat.sub_self]
  rfl
theorem cntL_take {α : Type} [Mk α] {l : List α} {i : Nat} (hi : i < l.length) : cntL (l.take (i + 1)) = cntL (l.take i) + Mk.cnt l[i] := by
  rw [List.take_succ_eq_append_getElem hi, cntL_append]
  simp [cntL]
theorem cntL_take_le {α : Type} [Mk α] (l : List α) (i : Nat) : cntL (l.take i) ≤ cntL l := by
  have h := cntL_append (l.take i) (l.drop i)
  rw [List.take_append_drop] at h
  omega

/-- of what was there only the blocks of fp may have turned -/
structure Tch (fp : List Nat) (w w' : World) : Prop where
  os : w'.os = w.os
  tape : w'.tape = w.tape
  output : w'.output = w.output
  size : w.heap.size ≤ w'.heap.size
  block : ∀ b, b < w.heap.size → b ∉ fp → w'.heap[b]? = w.heap[b]?
theorem Tch.refl (fp : List Nat) (w : World) : Tch fp w w := ⟨rfl, rfl, rfl, Nat.le_refl _, fun _ _ _ => rfl⟩
theorem Tch.trans {fp : List Nat} {a b c : World} (h : Tch fp a b) (k : Tch fp b c) : Tch fp a c :=
  ⟨k.os.trans h.os, k.tape.trans h.tape, k.output.trans h.output, Nat.le_trans h.size k.size, fun x hx hn => (k.block x (Nat.lt_of_lt_of_le hx h.size) hn).trans (h.block x hx hn)⟩
theorem Tch.mono {fp fp' : List Nat} {w w' : World} (h : Tch fp w w') (hs : ∀ b ∈ fp, b ∈ fp') : Tch fp' w w' := ⟨h.os, h.tape, h.output, h.size, fun b hb hn => h.block b hb fun hm => hn (hs b hm)⟩
theorem Tch.of_below {fp : List Nat} {w w' : World} (h : Below w.heap.size w w') : Tch fp w w' := ⟨h.os, h.tape, h.output, h.size, fun b hb _ => h.block b hb⟩
theorem Tch.setCell {fp : List Nat} {a w : World} (h : Tch fp a w) {p : Addr} (hp : p.block ∈ fp) (u : Value) : Tch fp a (w.setCell p u) :=
  h.trans ⟨rfl, rfl, rfl, by simp [World.setCell], fun b hb hn => Below.heap_setCell w p u b (fun e => hn (by rw [e]; exact hp))⟩
/-- memory from B on may turn: below B nothing has -/
theorem Tch.below {fp : List Nat} {B : Nat} {w w' : World} (h : Tch fp w w') (hB : ∀ b ∈ fp, B ≤ b) (hw : B ≤ w.heap.size) : Below B w w' :=
  ⟨h.os, h.tape, h.output, h.size, fun b hb => h.block b (Nat.lt_of_lt_of_le hb hw) fun hm => by have := hB b hm; omega⟩

theorem keepT {fp : List Nat} {w w' : World} (ht : Tch fp w w') {b : Nat} (hlt : b < w.heap.size) (hb : b ∉ fp) {cs : List Value} (h : ∀ j, w.cell? ⟨b, j, none⟩ = cs[j]?) : ∀ j, w'.cell? ⟨b, j, none⟩ = cs[j]? := fun j => (World.cell?_of_block (a := ⟨b, j, none⟩) (ht.block b hlt hb)).trans (h j)
/-- no more marks than bulk -/
class MkLe (α : Type) [Mk α] [Bulk α] : Prop where
  le : ∀ x : α, Mk.cnt x ≤ Bulk.bulk x
instance : MkLe Int := ⟨fun _ => Nat.le_refl _⟩
instance : MkLe Bool := ⟨fun _ => Nat.le_refl _⟩
instance : MkLe ByteArray := ⟨fun s => by simp [Mk.cnt, Bulk.bulk]⟩
theorem cntL_le {α : Type} [Mk α] [Bulk α] [MkLe α] (l : List α) : cntL l ≤ Bulk.bulk l := by
  induction l with
  | nil => simp [cntL]
  | cons x r ih =>
    have := MkLe.le x
    simp only [cntL, Bulk.bulk, List.map_cons, List.sum_cons] at ih ⊢
    omega

/-- AN ELEMENT OF AN OWNED SLICE, and what the slice is once the element has been written. -/
theorem OwnEls.split {α : Type} [Own α] {w : World} : ∀ {fs : List (List Nat)} {cs : List (List Value)} {xs : List α}, OwnEls fs w cs xs → ∀ {i : Nat}, (hi : i < xs.length) →
    ∃ fA f fB cA c cB, fs = fA ++ f :: fB ∧ cs = cA ++ c :: cB ∧ cA.length = i ∧ cA.flatten.length = i * Rep.n α ∧ Own.own f w c xs[i] ∧
      ∀ (w' : World) (c' : List Value) (x' : α), Own.own f w' c' x' → (∀ b ∈ fA.flatten ++ fB.flatten, w'.heap[b]? = w.heap[b]?) → OwnEls fs w' (cA ++ c' :: cB) (xs.set i x')
  | f :: fs, c :: cs, x :: xs, h, 0, hi => ⟨[], f, fs, [], c, cs, rfl, rfl, rfl, by simp, h.1, fun w' c' x' h' hw => ⟨h', OwnEls.on h.2 (fun b hb => hw b (by simpa using hb))⟩⟩
  | f :: fs, c :: cs, x :: xs, h, i + 1, hi => by
    obtain ⟨fA, f', fB, cA, c', cB, rfl, rfl, h1, h2, h3, h4⟩ := OwnEls.split h.2 (i := i) (by simpa using hi)
    have hc := Rep.len (Own.isRep h.1)
    refine ⟨f :: fA, f', fB, c :: cA, c', cB, rfl, rfl, by simp [h1], by rw [List.flatten_cons, List.length_append, hc, h2, Nat.add_mul]; omega, h3, fun w' c'' x' h' hw => ⟨Own.on h.1 (fun b hb => hw b (by simp [hb])), h4 w' c'' x' h' (fun b hb => hw b (by simp only [List.flatten_cons, List.mem_append] at hb ⊢; rcases hb with hb | hb; exact .inl (.inr hb); exact .inr hb))⟩⟩
  | [], [], [], h, i, hi => by simp at hi
  | [], [], _ :: _, h, _, _ => h.elim
  | [], _ :: _, _, h, _, _ => h.elim
  | _ :: _, [], _, h, _, _ => h.elim
  | _ :: _, _ :: _, [], h, _, _ => h.elim

theorem OwnSl.split {α : Type} [Own α] {fp : List Nat} {w : World} {v : Value} {l : List α} (h : OwnSl fp w v l) (hnd : fp.Nodup) {i : Nat} (hi : i < l.length) :
    ∃ g cap e pre c post f, v = .slice (some ⟨g, 0, none⟩) l.length cap ∧ Blk w g e (pre ++ c ++ post) ∧ pre.length = i * Rep.n α ∧ c.length = Rep.n α ∧ Own.own f w c l[i] ∧ f.Nodup ∧ g ∈ fp ∧ g ∉ f ∧ (∀ b ∈ f, b ∈ fp) ∧
      ∀ (w' : World) (c' : List Value) (x' : α), Blk w' g e (pre ++ c' ++ post) → Own.own f w' c' x' → (∀ b ∈ fp, b ≠ g → b ∉ f → w'.heap[b]? = w.heap[b]?) → OwnSl fp w' v (l.set i x') := by
  rcases h with ⟨rfl, rfl, rfl⟩ | ⟨g, cap, e, rest, fs, cs, rfl, h1, h2, h3, h4, rfl, h5⟩
  · simp at hi
  · obtain ⟨fA, f, fB, cA, c, cB, rfl, rfl, k1, k2, k3, k4⟩ := h5.split hi
    have hg := (List.nodup_cons.1 hnd).1
    have hn := (List.nodup_cons.1 hnd).2
    simp only [List.flatten_append, List.flatten_cons] at hn hg
    obtain ⟨nA, nR, dA⟩ := List.nodup_append.1 hn
    obtain ⟨nf, nB, dB⟩ := List.nodup_append.1 nR
    have hc := Rep.len (Own.isRep k3)
    refine ⟨g, cap, e, cA.flatten, c, cB.flatten ++ rest, f, rfl, by simpa using h1, k2, hc, k3, nf, by simp, fun hm => hg (by simp [hm]), fun b hb => by simp [hb], fun w' c' x' hb' ho' hw' => ?_⟩
    have hc' := Rep.len (Own.isRep ho')
    refine .inr ⟨g, cap, e, rest, fA ++ f :: fB, cA ++ c' :: cB, by simp, by simpa using hb', ?_, by simpa using h3, h4, rfl, k4 w' c' x' ho' fun b hb => ?_⟩
    · have := h2
      simp only [List.flatten_append, List.flatten_cons, List.length_append] at this ⊢
      omega
    · simp only [List.mem_append] at hb
      refine hw' b ?_ ?_ ?_
      · simp only [List.flatten_append, List.flatten_cons, List.mem_cons, List.mem_append]
        rcases hb with hb | hb
        · exact .inr (.inl hb)
        · exact .inr (.inr (.inr hb))
      · rintro rfl
        apply hg
        simp only [List.mem_append]
        rcases hb with hb | hb
        · exact .inl hb
        · exact .inr (.inr hb)
      · intro hm
        rcases hb with hb | hb
        · exact dA b hb b (List.mem_append_left _ hm) rfl
        · exact dB b hm b hb rfl

theorem Blk.mid {w : World} {b m : Nat} {e : TypeId} {pre c post : List Value} (h : Blk w b e (pre ++ c ++ post)) (hp : pre.length = m) {j : Nat} {u : Value} (hu : c[j]? = some u) : w.cell? ⟨b, m + j, none⟩ = some u :=
  h.cell (by rw [List.append_assoc, List.getElem?_append_right (by omega), hp, Nat.add_sub_cancel_left, List.getElem?_append_left (List.getElem?_eq_some_iff.1 hu).1]; exact hu)
theorem Blk.setMid {w : World} {b m : Nat} {e : TypeId} {pre c post : List Value} (h : Blk w b e (pre ++ c ++ post)) (hp : pre.length = m) (j : Nat) (hj : j < c.length) (u : Value) : Blk (w.setCell ⟨b, m + j, none⟩ u) b e (pre ++ c.set j u ++ post) := by
  have h2 := h.set (m + j) u
  rw [List.append_assoc, List.set_append_right _ _ (by omega), hp, Nat.add_sub_cancel_left, List.set_append_left _ _ hj, ← List.append_assoc] at h2
  exact h2

/-- the slice half way through its marks: the first i elements marked from k on -/
def midL {α : Type} [Mk α] (k : Int) (l : List α) (i : Nat) : List α := mkL k (l.take i) ++ l.drop i
theorem midL_zero {α : Type} [Mk α] (k : Int) (l : List α) : midL k l 0 = l := by simp [midL, mkL]
theorem midL_len {α : Type} [Mk α] (k : Int) (l : List α) (i : Nat) : (midL k l i).length = l.length := by
  simp only [midL, List.length_append, mkL_len, List.length_take, List.length_drop]; omega
theorem midL_end {α : Type} [Mk α] (k : Int) (l : List α) : midL k l l.length = mkL k l := by simp [midL]
theorem midL_get {α : Type} [Mk α] (k : Int) {l : List α} {i : Nat} (hi : i < l.length) : (midL k l i)[i]'(by rw [midL_len]; exact hi) = l[i] := by
  have h : (midL k l i)[i]? = some l[i] := by
    rw [midL, List.getElem?_append_right (by rw [mkL_len, List.length_take]; omega), mkL_len, List.length_take, Nat.min_eq_left (by omega), Nat.sub_self, List.getElem?_drop]
    simp [hi]
  rw [List.getElem?_eq_getElem (by rw [midL_len]; exact hi)] at h
  simpa using h
theorem midL_set {α : Type} [Mk α] (k : Int) {l : List α} {i : Nat} (hi : i < l.length) : (midL k l i).set i (Mk.mark (k + (cntL (l.take i) : Nat)) l[i]) = midL k l (i + 1) := by
  have hl : (mkL k (l.take i)).length = i := by rw [mkL_len, List.length_take]; omega
  have e1 : l.drop i = l[i] :: l.drop (i + 1) := (List.getElem_cons_drop hi).symm
  rw [midL, midL, e1, List.set_append_right _ _ (by omega), hl, Nat.sub_self, List.set_cons_zero, List.take_succ_eq_append_getElem hi, mkL_append]
  simp [mkL]

end Go.Proofs.Ytbgphlpiknnajaa.Ml
