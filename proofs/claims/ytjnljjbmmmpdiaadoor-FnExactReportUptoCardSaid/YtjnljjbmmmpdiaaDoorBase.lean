/-
 THE GROUND: what a Go value reads as, told by plain Lean data. 'Rep': the cells of a value of one Go type read as one Lean value, through blocks in S alone. Conditions: none; a library of definitions and small lemmas.
-/
import Derived.WalkKit
import Derived.WalkSpells
import Derived.WalkLawsBesides
import Derived.ProofKit
import Derived.Lib.Hide
import Derived.Deep.QuietTactic
import Derived.BigQuiet
import Derived.Deep.LoopGhost
import Derived.Deep.OwnRows
import Derived.Deep.DeepFit
namespace Go.Proofs.YtjnljjbmmmpdiaaDoor.Ml
open Go.RowKit

def Same (S : Nat → Prop) (w w' : World) : Prop := ∀ b, S b → w'.heap[b]? = w.heap[b]?

theorem Same.refl (S : Nat → Prop) (w : World) : Same S w w := fun _ _ => rfl
theorem Same.trans {S : Nat → Prop} {a b c : World} (h : Same S a b) (k : Same S b c) : Same S a c := fun x hx => (k x hx).trans (h x hx)
theorem Same.mono {S S' : Nat → Prop} {w w' : World} (h : Same S' w w') (hS : ∀ b, S b → S' b) : Same S w w' := fun b hb => h b (hS b hb)
theorem Same.cell {S : Nat → Prop} {w w' : World} (h : Same S w w') {b o : Nat} (hb : S b) : w'.cell? ⟨b, o, none⟩ = w.cell? ⟨b, o, none⟩ := World.cell?_of_block (w := w) (h b hb)
theorem Same.below {S : Nat → Prop} {B : Nat} {w w' : World} (h : Below B w w') (hS : ∀ b, S b → b < B) : Same S w w' := fun b hb => h.block b (hS b hb)

class Rep (α : Type) where
 n : Nat
 rep : (Nat → Prop) → World → List Value → α → Prop
 len : ∀ {S w cs x}, rep S w cs x → cs.length = n
 carry : ∀ {S S' : Nat → Prop} {w w' cs x}, rep S w cs x → (∀ b, S b → S' b) → Same S w w' → rep S' w' cs x

instance : Rep Int where
 n := 1
 rep _ _ cs x := cs = [.int .i64 x] ∧ -9223372036854775808 ≤ x ∧ x ≤ 9223372036854775807
 len := by rintro _ _ _ _ ⟨rfl, _⟩; rfl
 carry h _ _ := h

instance : Rep Bool where
 n := 1
 rep _ _ cs x := cs = [.bool x]
 len := by rintro _ _ _ _ rfl; rfl
 carry h _ _ := h

instance : Rep UInt8 where
 n := 1
 rep _ _ cs x := cs = [.int .u8 x.toNat]
 len := by rintro _ _ _ _ rfl; rfl
 carry h _ _ := h

instance : Rep ByteArray where
 n := 1
 rep _ _ cs x := cs = [.string x] ∧ x.size ≤ maxLen
 len := by rintro _ _ _ _ ⟨rfl, _⟩; rfl
 carry h _ _ := h

instance {α β : Type} [Rep α] [Rep β] : Rep (α × β) where
 n := Rep.n α + Rep.n β
 rep S w cs x := ∃ c1 c2, cs = c1 ++ c2 ∧ Rep.rep S w c1 x.1 ∧ Rep.rep S w c2 x.2
 len := by rintro _ _ _ _ ⟨_, _, rfl, h1, h2⟩; simp [Rep.len h1, Rep.len h2]
 carry := by rintro _ _ _ _ _ _ ⟨_, _, rfl, h1, h2⟩ hS hw; exact ⟨_, _, rfl, Rep.carry h1 hS hw, Rep.carry h2 hS hw⟩

def At (w : World) (b o : Nat) (cs : List Value) : Prop := ∀ j u, cs[j]? = some u → w.cell? ⟨b, o + j, none⟩ = some u

theorem At.same {S : Nat → Prop} {w w' : World} {b o : Nat} {cs : List Value} (h : At w b o cs) (hw : Same S w w') (hb : S b) : At w' b o cs :=
 fun j u hu => (hw.cell hb).trans (h j u hu)

def RepRow {α : Type} [Rep α] (S : Nat → Prop) (w : World) (b o : Nat) (l : List α) : Prop :=
 ∀ i x, l[i]? = some x → ∃ cs, At w b (o + i * Rep.n α) cs ∧ Rep.rep S w cs x

def RepSl {α : Type} [Rep α] (S : Nat → Prop) (w : World) (v : Value) (l : List α) : Prop :=
 ∃ a cap, v = .slice a l.length cap ∧ l.length ≤ cap ∧ cap ≤ maxLen ∧ (l = [] ∨ ∃ b o, a = some ⟨b, o, none⟩ ∧ S b ∧ RepRow S w b o l)

theorem RepRow.carry {α : Type} [Rep α] {S S' : Nat → Prop} {w w' : World} {b o : Nat} {l : List α} (h : RepRow S w b o l) (hb : S b) (hS : ∀ b, S b → S' b) (hw : Same S w w') : RepRow S' w' b o l :=
 fun i x hx => let ⟨cs, h1, h2⟩ := h i x hx; ⟨cs, h1.same hw hb, Rep.carry h2 hS hw⟩

theorem RepSl.carry {α : Type} [Rep α] {S S' : Nat → Prop} {w w' : World} {v : Value} {l : List α} (h : RepSl S w v l) (hS : ∀ b, S b → S' b) (hw : Same S w w') : RepSl S' w' v l := by
 obtain ⟨a, cap, rfl, h1, h2, h3⟩ := h
 refine ⟨a, cap, rfl, h1, h2, ?_⟩
 rcases h3 with h3 | ⟨b, o, rfl, hb, hr⟩
 ·exact .inl h3
 ·exact .inr ⟨b, o, rfl, hS b hb, hr.carry hb hS hw⟩

instance {α : Type} [Rep α] : Rep (List α) where
 n := 1
 rep S w cs x := ∃ v, cs = [v] ∧ RepSl S w v x
 len := by rintro _ _ _ _ ⟨_, rfl, _⟩; rfl
 carry := by rintro _ _ _ _ _ _ ⟨v, rfl, h⟩ hS hw; exact ⟨v, rfl, h.carry hS hw⟩

theorem RepSl.form {α : Type} [Rep α] {S : Nat → Prop} {w : World} {v : Value} {l : List α} (h : RepSl S w v l) : ∃ a cap, v = .slice a l.length cap := by
 obtain ⟨a, cap, rfl, _⟩ := h; exact ⟨a, cap, rfl⟩

theorem RepSl.cap {α : Type} [Rep α] {S : Nat → Prop} {w : World} {a : Option Addr} {n c : Nat} {l : List α} (h : RepSl S w (.slice a n c) l) : l.length ≤ c ∧ c ≤ 9223372036854775807 := by
 obtain ⟨a', cap, he, h1, h2, h3⟩ := h
 simp at he
 unfold maxLen at h2
 omega

theorem bcell {B : Nat} {W w1 : World} (hb : Below B W w1) : (∀ b o, b < B → w1.cell? ⟨b, o, none⟩ = W.cell? ⟨b, o, none⟩) ∧ (∀ b o, b < B → w1.frozen? ⟨b, o, none⟩ = W.frozen? ⟨b, o, none⟩) :=
 ⟨fun b o h => hb.cell (p := ⟨b, o, none⟩) h, fun b o h => hb.frozen (p := ⟨b, o, none⟩) h⟩

theorem RepRow.get {α : Type} [Rep α] {S : Nat → Prop} {w : World} {b o : Nat} {l : List α} (h : RepRow S w b o l) {i : Nat} (hi : i < l.length) : ∃ cs, At w b (o + i * Rep.n α) cs ∧ Rep.rep S w cs l[i] := h i _ (List.getElem?_eq_getElem hi)

theorem strs_le {S : Nat → Prop} {w : World} {v : Value} {l : List ByteArray} (h : RepSl S w v l) {x : ByteArray} (hx : x ∈ l) : x.size ≤ maxLen := by
 obtain ⟨a, cap, rfl, h1, h2, h3⟩ := h
 rcases h3 with rfl | ⟨b, o, rfl, hb, hr⟩
 ·cases hx
 ·obtain ⟨i, hi⟩ := List.getElem?_of_mem hx
  obtain ⟨cs, _, h4⟩ := hr i x hi
  exact h4.2

theorem RepSl.strs {S : Nat → Prop} {w : World} {v : Value} {l : List ByteArray} (h : RepSl S w v l) :
  ∃ a cap, v = .slice a l.length cap ∧ l.length ≤ 9223372036854775807 ∧ ∀ i (hi : i < l.length), ∃ b o, a = some ⟨b, o, none⟩ ∧ S b ∧ w.cell? ⟨b, o + i, none⟩ = some (.string l[i]) ∧ l[i].size ≤ maxLen := by
 obtain ⟨a, cap, rfl, h1, h2, h3⟩ := h
 refine ⟨a, cap, rfl, by unfold maxLen at h2; omega, fun i hi => ?_⟩
 rcases h3 with rfl | ⟨b, o, rfl, hb, hr⟩
 ·simp at hi
 ·obtain ⟨cs, hat, rfl, hsz⟩ := hr.get hi
  have := hat 0 _ rfl
  simp [Rep.n] at this
  exact ⟨b, o, rfl, hb, this, hsz⟩

theorem strT {a b : ByteArray} (h : a = b) : (a.toList == b.toList) = true := by subst h; simp
theorem bytes_inj {a b : ByteArray} (h : a.toList = b.toList) : a = b := by
 rw [ByteArray.toList_eq, ByteArray.toList_eq] at h
 exact ByteArray.ext (Array.toList_inj.1 h)
theorem strF {a b : ByteArray} (h : ¬ a = b) : (a.toList == b.toList) = false :=
 beq_eq_false_iff_ne.2 fun e => h (bytes_inj e)
theorem strB (a b : ByteArray) : (a.toList == b.toList) = decide (a = b) := by
 by_cases h : a = b
 ·rw [strT h]; simp [h]
 ·rw [strF h]; simp [h]

theorem retB {a b : Bool} (h : a = b) : Ending.returned (.bool a) = Ending.returned (.bool b) := by rw [h]
theorem retI {k : IntKind} {a b : Int} (h : a = b) : Ending.returned (.int k a) = Ending.returned (.int k b) := by rw [h]
theorem retS {a b : ByteArray} (h : a = b) : Ending.returned (.string a) = Ending.returned (.string b) := by rw [h]

theorem belN {B : Nat} {a w : World} (h : Below B a w) (n : Nat) : Below B a (w.drewN n) := ⟨h.os, h.tape, h.output, h.size, h.block⟩
theorem belD {B : Nat} {a w : World} {n : Nat} (h : Below B (a.drewN n) w) : Below B a w := ⟨h.os, h.tape, h.output, h.size, h.block⟩
theorem belA {B : Nat} {a w : World} (h : Below B a w) (hB : B ≤ a.heap.size) (o : Obj) : Below B a (w.alloc o) := h.alloc (Nat.le_trans hB h.size) o
theorem bel0 (w : World) : Below w.heap.size w w := Below.refl _ _

theorem take_snoc_iff {α : Type} {l1 l2 : List α} {k : Nat} (h1 : k < l1.length) (h2 : k < l2.length) (hp : l1.take k = l2.take k) : l1.take (k + 1) = l2.take (k + 1) ↔ l1[k] = l2[k] := by
 rw [List.take_succ_eq_append_getElem h1, List.take_succ_eq_append_getElem h2, hp]
 exact ⟨fun h => by simpa using List.append_cancel_left h, fun h => by rw [h]⟩
theorem take_of_pre {α : Type} {l1 l2 : List α} {k : Nat} (h : l1 = l2.take l1.length) (hk : k ≤ l1.length) : l1.take k = l2.take k := by
 have e : l1.take k = (l2.take l1.length).take k := by rw [← h]
 rw [e, List.take_take, Nat.min_eq_left hk]
theorem take_ne {α : Type} {l1 l2 : List α} {k : Nat} (h1 : k < l1.length) (h2 : k < l2.length) (hne : ¬ l1[k] = l2[k]) : ¬ l1 = l2 := by
 rintro rfl; exact hne rfl

def Blk (w : World) (b : Nat) (e : TypeId) (cs : List Value) : Prop := w.heap[b]? = some (.cells cs.toArray e (0, 0))

theorem Blk.cell {w : World} {b : Nat} {e : TypeId} {cs : List Value} (h : Blk w b e cs) {j : Nat} {u : Value} (hu : cs[j]? = some u) : w.cell? ⟨b, j, none⟩ = some u := by
 simp only [World.cell?, show w.heap[b]? = _ from h]
 simpa using hu
theorem Blk.cells {w : World} {b : Nat} {e : TypeId} {cs : List Value} (h : Blk w b e cs) : ∀ j, w.cell? ⟨b, j, none⟩ = cs[j]? := fun j => by
 simp only [World.cell?, show w.heap[b]? = _ from h]
 simp
theorem keepC {B : Nat} {w w' : World} (hb : Below B w w') {b : Nat} (hlt : b < B) {cs : List Value} (h : ∀ j, w.cell? ⟨b, j, none⟩ = cs[j]?) : ∀ j, w'.cell? ⟨b, j, none⟩ = cs[j]? := fun j => (hb.cell (p := ⟨b, j, none⟩) hlt).trans (h j)
theorem Blk.frozen {w : World} {b : Nat} {e : TypeId} {cs : List Value} (h : Blk w b e cs) (j : Nat) : w.frozen? ⟨b, j, none⟩ = false := by
 simp only [World.frozen?, show w.heap[b]? = _ from h]
 simp
theorem Blk.lt {w : World} {b : Nat} {e : TypeId} {cs : List Value} (h : Blk w b e cs) : b < w.heap.size := (Array.getElem?_eq_some_iff.1 h).1
theorem Blk.same {w w' : World} {b : Nat} {e : TypeId} {cs : List Value} (h : Blk w b e cs) (hs : w'.heap[b]? = w.heap[b]?) : Blk w' b e cs := hs.trans h
theorem Blk.set {w : World} {b : Nat} {e : TypeId} {cs : List Value} (h : Blk w b e cs) (j : Nat) (v : Value) : Blk (w.setCell ⟨b, j, none⟩ v) b e (cs.set j v) := by
 have h' : w.heap[b]? = some (.cells cs.toArray e (0, 0)) := h
 simp only [Blk, World.setCell, Array.getElem?_modify, if_true, h']
 simp
theorem Blk.setOther {w : World} {b : Nat} {e : TypeId} {cs : List Value} (h : Blk w b e cs) {p : Addr} (hp : b ≠ p.block) (v : Value) : Blk (w.setCell p v) b e cs := h.same (Below.heap_setCell w p v b hp)
theorem Blk.alloc {w : World} {b : Nat} {e : TypeId} {cs : List Value} (h : Blk w b e cs) (o : Obj) : Blk (w.alloc o) b e cs := h.same (Below.heap_alloc w o b h.lt)
theorem Blk.below {B : Nat} {w w' : World} {b : Nat} {e : TypeId} {cs : List Value} (h : Blk w b e cs) (hb : Below B w w') (hB : b < B) : Blk w' b e cs := h.same (hb.block b hB)
theorem Blk.new (w : World) (e : TypeId) (cs : Array Value) : Blk (w.alloc (.cells cs e)) w.heap.size e cs.toList := by
 show (w.heap.push _)[w.heap.size]? = _
 simp
theorem madeCells_list (z : Value) (n : Nat) : (madeCells #[z] n).toList = List.replicate n z := by
 apply List.ext_getElem
 ·simp [madeCells]
 ·intro i h1 h2
  simp [madeCells, Nat.mod_one]

theorem take_set_snoc {α β : Type} (f : α → β) {cs : List β} {l : List α} {k : Nat} (x : α) (hx : l[k]? = some x) (hk : k < cs.length) (h : cs.take k = (l.take k).map f) : (cs.set k (f x)).take (k + 1) = (l.take (k + 1)).map f := by
 rw [List.take_succ_eq_append_getElem (by simpa using hk), List.take_set_of_le (Nat.le_refl _), h, List.take_add_one, hx]
 simp
theorem Blk.row {α : Type} [Rep α] {S : Nat → Prop} {w : World} {b : Nat} {e : TypeId} {cs : List Value} {l : List α} (h : Blk w b e cs)
  (hr : ∀ i x, l[i]? = some x → ∃ c, (∀ j u, c[j]? = some u → cs[i * Rep.n α + j]? = some u) ∧ Rep.rep S w c x) : RepRow S w b 0 l := by
 intro i x hx
 obtain ⟨c, h1, h2⟩ := hr i x hx
 exact ⟨c, fun j u hu => by rw [Nat.zero_add]; exact h.cell (h1 j u hu), h2⟩

def Rd {α : Type} [Rep α] (w : World) (v : Value) (l : List α) : Prop := RepSl (fun b => b < w.heap.size) w v l
theorem Rd.on {α : Type} [Rep α] {w w' : World} {v : Value} {l : List α} (h : Rd w v l) (hb : Below w.heap.size w w') : Rd w' v l :=
 RepSl.carry h (fun _ hb' => Nat.lt_of_lt_of_le hb' hb.size) (fun b hb' => hb.block b hb')
theorem Rd.form {α : Type} [Rep α] {w : World} {v : Value} {l : List α} (h : Rd w v l) : ∃ a cap, v = .slice a l.length cap := RepSl.form h
theorem Rd.cap {α : Type} [Rep α] {w : World} {a : Option Addr} {n c : Nat} {l : List α} (h : Rd w (.slice a n c) l) : l.length ≤ c ∧ c ≤ 9223372036854775807 := RepSl.cap h
theorem Rd.nil {α : Type} [Rep α] (w : World) : Rd w (.slice none 0 0) ([] : List α) := ⟨none, 0, rfl, Nat.le_refl _, Nat.zero_le _, .inl rfl⟩
theorem RepSl.rd {α : Type} [Rep α] {S : Nat → Prop} {w : World} {v : Value} {l : List α} (h : RepSl S w v l) (hS : ∀ b, S b → b < w.heap.size) : Rd w v l := h.carry hS (Same.refl _ _)

theorem belT {B : Nat} {a b c : World} (h : Below B a b) (k : Below b.heap.size b c) (hB : B ≤ a.heap.size) : Below B a c := h.trans (k.mono (Nat.le_trans hB h.size))

end Go.Proofs.YtjnljjbmmmpdiaaDoor.Ml
