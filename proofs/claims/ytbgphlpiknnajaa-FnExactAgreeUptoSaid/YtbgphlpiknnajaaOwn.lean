/-
  THE GROUND, MORE: values that own the memory that they reach: 'own fp w cs x': the cells cs read as x, through the blocks of fp alone, each of them a whole block of its own. Conditions: none.
-/
import Derived.Test.YtbgphlpiknnajaaBase
import Derived.Test.YtbgphlpiknnajaaReads
set_option linter.unusedVariables false
namespace Go.Proofs.Ytbgphlpiknnajaa.Ml
open Go.RowKit

/-- the cells cs read as x in w, through whatever blocks of w -/
def RV {α : Type} [Rep α] (w : World) (cs : List Value) (x : α) : Prop := Rep.rep (fun b => b < w.heap.size) w cs x
theorem RV.on {α : Type} [Rep α] {w w' : World} {cs : List Value} {x : α} (h : RV w cs x) (hb : Below w.heap.size w w') : RV w' cs x :=
  Rep.carry h (fun _ hb' => Nat.lt_of_lt_of_le hb' hb.size) (fun b hb' => hb.block b hb')

class Own (α : Type) extends Rep α where
  own : List Nat → World → List Value → α → Prop
  isRep : ∀ {fp w cs x}, own fp w cs x → rep (fun b => b ∈ fp) w cs x
  lt : ∀ {fp w cs x}, own fp w cs x → ∀ b ∈ fp, b < w.heap.size
  on : ∀ {fp w w' cs x}, own fp w cs x → (∀ b ∈ fp, w'.heap[b]? = w.heap[b]?) → own fp w' cs x

theorem Own.rv {α : Type} [Own α] {fp : List Nat} {w : World} {cs : List Value} {x : α} (h : Own.own fp w cs x) : RV w cs x :=
  Rep.carry (Own.isRep h) (fun b hb => Own.lt h b hb) (Same.refl _ _)
theorem Own.below {α : Type} [Own α] {fp : List Nat} {w w' : World} {cs : List Value} {x : α} (h : Own.own fp w cs x) (hb : Below w.heap.size w w') : Own.own fp w' cs x :=
  Own.on h fun b hb' => hb.block b (Own.lt h b hb')

/-- a type without inner memory -/
def flatOwn (α : Type) [Rep α] (fp : List Nat) (w : World) (cs : List Value) (x : α) : Prop := fp = [] ∧ Rep.rep (fun _ => False) w cs x
theorem flatOwn.isRep {α : Type} [Rep α] {fp : List Nat} {w : World} {cs : List Value} {x : α} (h : flatOwn α fp w cs x) : Rep.rep (fun b => b ∈ fp) w cs x := Rep.carry h.2 (fun _ h => h.elim) (Same.refl _ _)
theorem flatOwn.lt {α : Type} [Rep α] {fp : List Nat} {w : World} {cs : List Value} {x : α} (h : flatOwn α fp w cs x) : ∀ b ∈ fp, b < w.heap.size := by rw [h.1]; intro b hb; cases hb
theorem flatOwn.on {α : Type} [Rep α] {fp : List Nat} {w w' : World} {cs : List Value} {x : α} (h : flatOwn α fp w cs x) (_ : ∀ b ∈ fp, w'.heap[b]? = w.heap[b]?) : flatOwn α fp w' cs x :=
  ⟨h.1, Rep.carry h.2 (fun _ h => h) (fun _ h => h.elim)⟩
instance : Own Int := { own := flatOwn Int, isRep := flatOwn.isRep, lt := flatOwn.lt, on := flatOwn.on }
instance : Own Bool := { own := flatOwn Bool, isRep := flatOwn.isRep, lt := flatOwn.lt, on := flatOwn.on }
instance : Own UInt8 := { own := flatOwn UInt8, isRep := flatOwn.isRep, lt := flatOwn.lt, on := flatOwn.on }
instance : Own ByteArray := { own := flatOwn ByteArray, isRep := flatOwn.isRep, lt := flatOwn.lt, on := flatOwn.on }

/-- the elements' cells, one list an element, each owning its own blocks -/
def OwnEls {α : Type} [Own α] : List (List Nat) → World → List (List Value) → List α → Prop
  | [], _, [], [] => True
  | f :: fs, w, c :: cs, x :: xs => Own.own f w c x ∧ OwnEls fs w cs xs
  | _, _, _, _ => False

theorem OwnEls.snoc {α : Type} [Own α] {w : World} {f : List Nat} {c : List Value} {x : α} : ∀ {fs : List (List Nat)} {cs : List (List Value)} {xs : List α}, OwnEls fs w cs xs → Own.own f w c x → OwnEls (fs ++ [f]) w (cs ++ [c]) (xs ++ [x])
  | [], [], [], _, h => ⟨h, trivial⟩
  | _ :: _, _ :: _, _ :: _, h, h' => ⟨h.1, OwnEls.snoc h.2 h'⟩
  | [], [], _ :: _, h, _ => h.elim
  | [], _ :: _, _, h, _ => h.elim
  | _ :: _, [], _, h, _ => h.elim
  | _ :: _, _ :: _, [], h, _ => h.elim
theorem OwnEls.on {α : Type} [Own α] {w w' : World} : ∀ {fs : List (List Nat)} {cs : List (List Value)} {xs : List α}, OwnEls fs w cs xs → (∀ b ∈ fs.flatten, w'.heap[b]? = w.heap[b]?) → OwnEls fs w' cs xs
  | [], [], [], _, _ => trivial
  | _ :: _, _ :: _, _ :: _, h, h' => ⟨Own.on h.1 (fun b hb => h' b (by simp [hb])), OwnEls.on h.2 (fun b hb => h' b (by simp only [List.flatten_cons, List.mem_append]; exact .inr hb))⟩
  | [], [], _ :: _, h, _ => h.elim
  | [], _ :: _, _, h, _ => h.elim
  | _ :: _, [], _, h, _ => h.elim
  | _ :: _, _ :: _, [], h, _ => h.elim
theorem OwnEls.lt {α : Type} [Own α] {w : World} : ∀ {fs : List (List Nat)} {cs : List (List Value)} {xs : List α}, OwnEls fs w cs xs → ∀ b ∈ fs.flatten, b < w.heap.size
  | [], [], [], _, b, hb => by cases hb
  | _ :: _, _ :: _, _ :: _, h, b, hb => by
    simp only [List.flatten_cons, List.mem_append] at hb
    rcases hb with hb | hb
    · exact Own.lt h.1 b hb
    · exact OwnEls.lt h.2 b hb
  | [], [], _ :: _, h, _, _ => h.elim
  | [], _ :: _, _, h, _, _ => h.elim
  | _ :: _, [], _, h, _, _ => h.elim
  | _ :: _, _ :: _, [], h, _, _ => h.elim
theorem OwnEls.len {α : Type} [Own α] {w : World} : ∀ {fs : List (List Nat)} {cs : List (List Value)} {xs : List α}, OwnEls fs w cs xs → cs.length = xs.length ∧ cs.flatten.length = xs.length * Rep.n α
  | [], [], [], _ => by simp
  | _ :: _, c :: cs, x :: xs, h => by
    obtain ⟨h1, h2⟩ := OwnEls.len h.2
    have h3 := Rep.len (Own.isRep h.1)
    simp only [List.length_cons, List.flatten_cons, List.length_append, h1, h2, h3, Nat.add_mul, Nat.one_mul]
    exact ⟨trivial, by omega⟩
  | [], [], _ :: _, h => h.elim
  | [], _ :: _, _, h => h.elim
  | _ :: _, [], _, h => h.elim
  | _ :: _, _ :: _, [], h => h.elim
theorem OwnEls.get {α : Type} [Own α] {w : World} : ∀ {fs : List (List Nat)} {cs : List (List Value)} {xs : List α}, OwnEls fs w cs xs → ∀ {i : Nat} {x : α}, xs[i]? = some x → ∃ f c, f ∈ fs ∧ Own.own f w c x ∧ ∀ j u, c[j]? = some u → cs.flatten[i * Rep.n α + j]? = some u
  | [], [], [], _, i, x, hx => by simp at hx
  | f :: fs, c :: cs, y :: xs, h, 0, x, hx => by
    simp at hx; subst hx
    refine ⟨f, c, by simp, h.1, fun j u hu => ?_⟩
    rw [Nat.zero_mul, Nat.zero_add, List.flatten_cons, List.getElem?_append_left (List.getElem?_eq_some_iff.1 hu).1]
    exact hu
  | f :: fs, c :: cs, y :: xs, h, i + 1, x, hx => by
    obtain ⟨f', c', h1, h2, h3⟩ := OwnEls.get h.2 (i := i) (x := x) (by simpa using hx)
    refine ⟨f', c', by simp [h1], h2, fun j u hu => ?_⟩
    have hc := Rep.len (Own.isRep h.1)
    rw [List.flatten_cons, List.getElem?_append_right (by rw [hc, Nat.add_mul]; omega), hc]
    have e : (i + 1) * Rep.n α + j - Rep.n α = i * Rep.n α + j := by rw [Nat.add_mul]; omega
    rw [e]
    exact h3 j u hu
  | [], [], _ :: _, h, _, _, _ => h.elim
  | [], _ :: _, _, h, _, _, _ => h.elim
  | _ :: _, [], _, h, _, _, _ => h.elim
  | _ :: _, _ :: _, [], h, _, _, _ => h.elim

/-- a slice that owns its array, and whose elements own what they reach -/
def OwnSl {α : Type} [Own α] (fp : List Nat) (w : World) (v : Value) (l : List α) : Prop :=
  (v = .slice none 0 0 ∧ l = [] ∧ fp = []) ∨
  ∃ g cap e rest fs cs, v = .slice (some ⟨g, 0, none⟩) l.length cap ∧ Blk w g e (cs.flatten ++ rest) ∧ (cs.flatten ++ rest).length = cap * Rep.n α ∧ l.length ≤ cap ∧ cap ≤ maxLen ∧ fp = g :: fs.flatten ∧ OwnEls fs w cs l

theorem OwnSl.isRep {α : Type} [Own α] {fp : List Nat} {w : World} {v : Value} {l : List α} (h : OwnSl fp w v l) : RepSl (fun b => b ∈ fp) w v l := by
  rcases h with ⟨rfl, rfl, rfl⟩ | ⟨g, cap, e, rest, fs, cs, rfl, h1, h2, h3, h4, rfl, h5⟩
  · exact ⟨none, 0, rfl, Nat.le_refl _, Nat.zero_le _, .inl rfl⟩
  · refine ⟨_, cap, rfl, h3, h4, .inr ⟨g, 0, rfl, by simp, h1.row fun i x hx => ?_⟩⟩
    obtain ⟨f, c, k1, k2, k3⟩ := h5.get hx
    refine ⟨c, fun j u hu => ?_, Rep.carry (Own.isRep k2) (fun b hb => by simp only [List.mem_cons, List.mem_flatten]; exact .inr ⟨f, k1, hb⟩) (Same.refl _ _)⟩
    have := k3 j u hu
    rw [List.getElem?_append_left (List.getElem?_eq_some_iff.1 this).1]
    exact this
theorem OwnSl.lt {α : Type} [Own α] {fp : List Nat} {w : World} {v : Value} {l : List α} (h : OwnSl fp w v l) : ∀ b ∈ fp, b < w.heap.size := by
  rcases h with ⟨rfl, rfl, rfl⟩ | ⟨g, cap, e, rest, fs, cs, rfl, h1, h2, h3, h4, rfl, h5⟩
  · intro b hb; cases hb
  · intro b hb
    rcases List.mem_cons.1 hb with rfl | hb
    · exact h1.lt
    · exact h5.lt b hb
theorem OwnSl.on {α : Type} [Own α] {fp : List Nat} {w w' : World} {v : Value} {l : List α} (h : OwnSl fp w v l) (hw : ∀ b ∈ fp, w'.heap[b]? = w.heap[b]?) : OwnSl fp w' v l := by
  rcases h with h | ⟨g, cap, e, rest, fs, cs, rfl, h1, h2, h3, h4, rfl, h5⟩
  · exact .inl h
  · exact .inr ⟨g, cap, e, rest, fs, cs, rfl, h1.same (hw g (by simp)), h2, h3, h4, rfl, h5.on fun b hb => hw b (List.mem_cons_of_mem _ hb)⟩
instance {α : Type} [Own α] : Own (List α) where
  own fp w cs x := ∃ v, cs = [v] ∧ OwnSl fp w v x
  isRep := by rintro _ _ _ _ ⟨v, rfl, h⟩; exact ⟨v, rfl, h.isRep⟩
  lt := by rintro _ _ _ _ ⟨v, rfl, h⟩; exact h.lt
  on := by rintro _ _ _ _ _ ⟨v, rfl, h⟩ hw; exact ⟨v, rfl, h.on hw⟩
theorem OwnSl.rd {α : Type} [Own α] {fp : List Nat} {w : World} {v : Value} {l : List α} (h : OwnSl fp w v l) : Rd w v l := h.isRep.rd fun b hb => h.lt b hb
theorem OwnSl.below {α : Type} [Own α] {fp : List Nat} {w w' : World} {v : Value} {l : List α} (h : OwnSl fp w v l) (hb : Below w.heap.size w w') : OwnSl fp w' v l :=
  h.on fun b hb' => hb.block b (h.lt b hb')
theorem OwnSl.form {α : Type} [Own α] {fp : List Nat} {w : World} {v : Value} {l : List α} (h : OwnSl fp w v l) : ∃ a c, v = .slice a l.length c := h.isRep.form

/-- the blocks of fp are new since w, and no two are one -/
def New (w : World) (fp : List Nat) : Prop := fp.Nodup ∧ ∀ b ∈ fp, w.heap.size ≤ b

/-- the cells vs stored from ⟨g, p⟩ on, one behind the other -/
def setsAt (w : World) (g : Nat) : Nat → List Value → World
  | _, [] => w
  | p, v :: vs => setsAt (w.setCell ⟨g, p, none⟩ v) g (p + 1) vs

theorem setsAt_other {g b : Nat} (hb : b ≠ g) : ∀ (vs : List Value) (w : World) (p : Nat), (setsAt w g p vs).heap[b]? = w.heap[b]?
  | [], w, p => rfl
  | v :: vs, w, p => (setsAt_other hb vs _ _).trans (Below.heap_setCell w ⟨g, p, none⟩ v b hb)
theorem setsAt_blk {g : Nat} {e : TypeId} {rest : List Value} : ∀ (vs old pre : List Value) (w : World) (p : Nat), Blk w g e (pre ++ old ++ rest) → old.length = vs.length → p = pre.length → Blk (setsAt w g p vs) g e (pre ++ vs ++ rest)
  | [], [], pre, w, p, h, _, _ => h
  | v :: vs, o :: old, pre, w, p, h, hl, hp => by
    have h1 : Blk (w.setCell ⟨g, p, none⟩ v) g e ((pre ++ [v]) ++ old ++ rest) := by
      have := h.set p v
      rw [hp] at this ⊢
      simpa [List.set_append_right] using this
    have h2 := setsAt_blk vs old (pre ++ [v]) _ (p + 1) h1 (by simpa using hl) (by simp [hp])
    simpa [setsAt] using h2
  | [], _ :: _, _, _, _, _, hl, _ => by simp at hl
  | _ :: _, [], _, _, _, _, hl, _ => by simp at hl
theorem setsAt_below {B g : Nat} (hB : B ≤ g) : ∀ (vs : List Value) (a w : World) (p : Nat), Below B a w → Below B a (setsAt w g p vs)
  | [], a, w, p, h => h
  | v :: vs, a, w, p, h => setsAt_below hB vs a _ _ (h.setCell (p := ⟨g, p, none⟩) hB v)

/-- a slice that is being filled: k elements stand, the rest is to come; its block is the first that the call has laid -/
structure ToRel {α : Type} [Own α] (w wr : World) (e : TypeId) (l : List α) (k : Nat) (fs : List (List Nat)) (cs : List (List Value)) (rest : List Value) : Prop where
  blk : Blk wr w.heap.size e (cs.flatten ++ rest)
  len : rest.length = (l.length - k) * Rep.n α
  els : OwnEls fs wr cs (l.take k)
  nodup : fs.flatten.Nodup
  new : ∀ b ∈ fs.flatten, w.heap.size < b
  bel : Below w.heap.size w wr

theorem ToRel.start {α : Type} [Own α] {w : World} {e : TypeId} {l : List α} (z : Array Value) (n : Nat) (hn : n = Rep.n α) : ToRel w (w.alloc (.cells (madeCells z (l.length * n)) e)) e l 0 [] [] (madeCells z (l.length * n)).toList :=
  ⟨Blk.new _ _ _, by simp [madeCells, hn], trivial, List.nodup_nil, (fun b hb => absurd hb (by simp)), belA (bel0 _) (Nat.le_refl _) _⟩

/-- where the next element comes to lie: its cells are there -/
theorem ToRel.cells {α : Type} [Own α] {w wr : World} {e : TypeId} {l : List α} {k : Nat} {fs : List (List Nat)} {cs : List (List Value)} {rest : List Value} (h : ToRel w wr e l k fs cs rest) (hk : k < l.length) :
    ∀ j, j < Rep.n α → ∃ u, wr.cell? ⟨w.heap.size, k * Rep.n α + j, none⟩ = some u := fun j hj => by
  have h1 := h.els.len.2
  rw [List.length_take, Nat.min_eq_left (Nat.le_of_lt hk)] at h1
  have h2 := h.len
  have h3 : Rep.n α ≤ (l.length - k) * Rep.n α := Nat.le_mul_of_pos_left _ (by omega)
  have hlt : k * Rep.n α + j < (cs.flatten ++ rest).length := by rw [List.length_append]; omega
  exact ⟨_, h.blk.cell (List.getElem?_eq_getElem hlt)⟩

theorem ToRel.on {α : Type} [Own α] {w wr w1 : World} {e : TypeId} {l : List α} {k : Nat} {fs : List (List Nat)} {cs : List (List Value)} {rest : List Value} (h : ToRel w wr e l k fs cs rest) (hb : Below wr.heap.size wr w1) : ToRel w w1 e l k fs cs rest :=
  ⟨h.blk.below hb h.blk.lt, h.len, h.els.on fun b hb' => hb.block b (h.els.lt b hb'), h.nodup, h.new, belT h.bel hb (Nat.le_refl _)⟩

theorem ToRel.step {α : Type} [Own α] {w wr w1 : World} {e : TypeId} {l : List α} {k : Nat} {fs : List (List Nat)} {cs : List (List Value)} {rest : List Value} (h : ToRel w wr e l k fs cs rest) (hb : Below wr.heap.size wr w1) (hk : k < l.length)
    {f : List Nat} {c : List Value} (hf : New wr f) (ho : Own.own f w1 c l[k]) (n : Nat) (hn : n = Rep.n α) : ToRel w (setsAt w1 w.heap.size (k * n) c) e l (k + 1) (fs ++ [f]) (cs ++ [c]) (rest.drop (Rep.n α)) := by
  subst hn
  have h' := h.on hb
  have h1 := h.els.len.2
  rw [List.length_take, Nat.min_eq_left (Nat.le_of_lt hk)] at h1
  have h2 := h.len
  have h3 : Rep.n α ≤ (l.length - k) * Rep.n α := Nat.le_mul_of_pos_left _ (by omega)
  have hc := Rep.len (Own.isRep ho)
  have hlt := h.blk.lt
  refine ⟨?_, ?_, ?_, ?_, ?_, setsAt_below (Nat.le_refl _) _ _ _ _ h'.bel⟩
  · have h4 := setsAt_blk (g := w.heap.size) (e := e) (rest := rest.drop (Rep.n α)) c (rest.take (Rep.n α)) cs.flatten w1 (k * Rep.n α) (by rw [List.append_assoc, List.take_append_drop]; exact h'.blk) (by rw [List.length_take, hc, Nat.min_eq_left (by omega)]) h1.symm
    simpa using h4
  · rw [List.length_drop, h2, ← Nat.sub_one_mul]
    congr 1
  · have ht : l.take (k + 1) = l.take k ++ [l[k]] := List.take_succ_eq_append_getElem hk
    rw [ht]
    refine OwnEls.snoc (h'.els.on fun b hb' => setsAt_other (fun e' => ?_) _ _ _) (Own.on ho fun b hb' => setsAt_other (fun e' => ?_) _ _ _)
    · have := h.new b hb'
      omega
    · have := hf.2 b hb'
      omega
  · rw [List.flatten_append, List.flatten_singleton]
    refine List.nodup_append.2 ⟨h.nodup, hf.1, fun a ha b hb' e' => ?_⟩
    have k1 := h.els.lt a ha
    have k2 := hf.2 b hb'
    omega
  · intro b hb'
    rw [List.flatten_append, List.flatten_singleton, List.mem_append] at hb'
    rcases hb' with hb' | hb'
    · exact h.new b hb'
    · have := hf.2 b hb'
      omega

theorem ToRel.done {α : Type} [Own α] {w wr : World} {e : TypeId} {l : List α} {fs : List (List Nat)} {cs : List (List Value)} {rest : List Value} (h : ToRel w wr e l l.length fs cs rest) (hl : l.length ≤ maxLen) :
    OwnSl (w.heap.size :: fs.flatten) wr (.slice (some ⟨w.heap.size, 0, none⟩) l.length l.length) l ∧ New w (w.heap.size :: fs.flatten) := by
  have h1 := h.els
  rw [List.take_length] at h1
  have h2 := h.len
  rw [Nat.sub_self, Nat.zero_mul] at h2
  refine ⟨.inr ⟨_, _, e, rest, fs, cs, rfl, h.blk, by rw [List.length_append, h2, h1.len.2]; rfl, Nat.le_refl _, hl, rfl, h1⟩, List.nodup_cons.2 ⟨fun hm => Nat.lt_irrefl _ (h.new _ hm), h.nodup⟩, ?_⟩
  intro b hb
  rcases List.mem_cons.1 hb with rfl | hb
  · exact Nat.le_refl _
  · exact Nat.le_of_lt (h.new b hb)

end Go.Proofs.Ytbgphlpiknnajaa.Ml
