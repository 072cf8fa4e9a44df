/-
 THE GROUND: what a Go value reads as, told by plain Lean data. 'Rep': the cells of a value of one Go type read as one Lean value, through blocks in S alone. Conditions: none; a library of definitions and small lemmas.
-/
import Derived.WalkKit
import Derived.WalkSpells
import Derived.WalkLawsBesides
import Derived.ProofKit
import Derived.Lib.Hide
import Derived.Deep.QuietTactic
import Derived.BigQuiet
import Derived.Deep.LoopGhost
import Derived.Deep.OwnRows
import Derived.Deep.DeepFit
import Derived.Test.YtjbcnilllfaipaaGreatRows
import Derived.OpenShut
import Derived.JoinedCond
import Derived.Deep.Slices
namespace Go.Proofs.YtjbcnilllfaipaaGreat.Ml
open Go.RowKit

def Cc (S : Nat → Prop) (w w' : World) : Prop := ∀ b, S b → w'.heap[b]? = w.heap[b]?

theorem Cc.refl (S : Nat → Prop) (w : World) : Cc S w w := fun _ _ => rfl
theorem Cc.trans {S : Nat → Prop} {a b c : World} (h : Cc S a b) (k : Cc S b c) : Cc S a c := fun x hx => (k x hx).trans (h x hx)
theorem Cc.mono {S S' : Nat → Prop} {w w' : World} (h : Cc S' w w') (hS : ∀ b, S b → S' b) : Cc S w w' := fun b hb => h b (hS b hb)
theorem Cc.cell {S : Nat → Prop} {w w' : World} (h : Cc S w w') {b o : Nat} (hb : S b) : w'.cell? ⟨b, o, none⟩ = w.cell? ⟨b, o, none⟩ := World.cell?_of_block (w := w) (h b hb)
class Rep (α : Type) where
 n : Nat
 rep : (Nat → Prop) → World → List Value → α → Prop
 len : ∀ {S w cs x}, rep S w cs x → cs.length = n
 carry : ∀ {S S' : Nat → Prop} {w w' cs x}, rep S w cs x → (∀ b, S b → S' b) → Cc S w w' → rep S' w' cs x

instance : Rep Int where
 n := 1
 rep _ _ cs x := cs = [.int .i64 x] ∧ -9223372036854775808 ≤ x ∧ x ≤ 9223372036854775807
 len := by rintro _ _ _ _ ⟨rfl, _⟩; rfl
 carry h _ _ := h

instance : Rep Bool where
 n := 1
 rep _ _ cs x := cs = [.bool x]
 len := by rintro _ _ _ _ rfl; rfl
 carry h _ _ := h

instance : Rep UInt8 where
 n := 1
 rep _ _ cs x := cs = [.int .u8 x.toNat]
 len := by rintro _ _ _ _ rfl; rfl
 carry h _ _ := h

instance : Rep ByteArray where
 n := 1
 rep _ _ cs x := cs = [.string x] ∧ x.size ≤ maxLen
 len := by rintro _ _ _ _ ⟨rfl, _⟩; rfl
 carry h _ _ := h

instance {α β : Type} [Rep α] [Rep β] : Rep (α × β) where
 n := Rep.n α + Rep.n β
 rep S w cs x := ∃ c1 c2, cs = c1 ++ c2 ∧ Rep.rep S w c1 x.1 ∧ Rep.rep S w c2 x.2
 len := by rintro _ _ _ _ ⟨_, _, rfl, h1, h2⟩; simp [Rep.len h1, Rep.len h2]
 carry := by rintro _ _ _ _ _ _ ⟨_, _, rfl, h1, h2⟩ hS hw; exact ⟨_, _, rfl, Rep.carry h1 hS hw, Rep.carry h2 hS hw⟩

def At (w : World) (b o : Nat) (cs : List Value) : Prop := ∀ j u, cs[j]? = some u → w.cell? ⟨b, o + j, none⟩ = some u

theorem At.same {S : Nat → Prop} {w w' : World} {b o : Nat} {cs : List Value} (h : At w b o cs) (hw : Cc S w w') (hb : S b) : At w' b o cs :=
 fun j u hu => (hw.cell hb).trans (h j u hu)

def Ll {α : Type} [Rep α] (S : Nat → Prop) (w : World) (b o : Nat) (l : List α) : Prop :=
 ∀ i x, l[i]? = some x → ∃ cs, At w b (o + i * Rep.n α) cs ∧ Rep.rep S w cs x

def Dj {α : Type} [Rep α] (S : Nat → Prop) (w : World) (v : Value) (l : List α) : Prop :=
 ∃ a cap, v = .slice a l.length cap ∧ l.length ≤ cap ∧ cap ≤ maxLen ∧ (l = [] ∨ ∃ b o, a = some ⟨b, o, none⟩ ∧ S b ∧ Ll S w b o l)

theorem Ll.carry {α : Type} [Rep α] {S S' : Nat → Prop} {w w' : World} {b o : Nat} {l : List α} (h : Ll S w b o l) (hb : S b) (hS : ∀ b, S b → S' b) (hw : Cc S w w') : Ll S' w' b o l :=
 fun i x hx => let ⟨cs, h1, h2⟩ := h i x hx; ⟨cs, h1.same hw hb, Rep.carry h2 hS hw⟩

theorem Dj.carry {α : Type} [Rep α] {S S' : Nat → Prop} {w w' : World} {v : Value} {l : List α} (h : Dj S w v l) (hS : ∀ b, S b → S' b) (hw : Cc S w w') : Dj S' w' v l := by
 obtain ⟨a, cap, rfl, h1, h2, h3⟩ := h
 refine ⟨a, cap, rfl, h1, h2, ?_⟩
 rcases h3 with h3 | ⟨b, o, rfl, hb, hr⟩
 ·exact .inl h3
 ·exact .inr ⟨b, o, rfl, hS b hb, hr.carry hb hS hw⟩

instance {α : Type} [Rep α] : Rep (List α) where
 n := 1
 rep S w cs x := ∃ v, cs = [v] ∧ Dj S w v x
 len := by rintro _ _ _ _ ⟨_, rfl, _⟩; rfl
 carry := by rintro _ _ _ _ _ _ ⟨v, rfl, h⟩ hS hw; exact ⟨v, rfl, h.carry hS hw⟩

theorem Dj.form {α : Type} [Rep α] {S : Nat → Prop} {w : World} {v : Value} {l : List α} (h : Dj S w v l) : ∃ a cap, v = .slice a l.length cap := by
 obtain ⟨a, cap, rfl, _⟩ := h; exact ⟨a, cap, rfl⟩

theorem Dj.cap {α : Type} [Rep α] {S : Nat → Prop} {w : World} {a : Option Addr} {n c : Nat} {l : List α} (h : Dj S w (.slice a n c) l) : l.length ≤ c ∧ c ≤ 9223372036854775807 := by
 obtain ⟨a', cap, he, h1, h2, h3⟩ := h
 simp at he
 unfold maxLen at h2
 omega

theorem Ll.get {α : Type} [Rep α] {S : Nat → Prop} {w : World} {b o : Nat} {l : List α} (h : Ll S w b o l) {i : Nat} (hi : i < l.length) : ∃ cs, At w b (o + i * Rep.n α) cs ∧ Rep.rep S w cs l[i] := h i _ (List.getElem?_eq_getElem hi)

theorem Aez {a b : ByteArray} (h : a = b) : (a.toList == b.toList) = true := by subst h; simp
theorem bytes_inj {a b : ByteArray} (h : a.toList = b.toList) : a = b := by
 rw [ByteArray.toList_eq, ByteArray.toList_eq] at h
 exact ByteArray.ext (Array.toList_inj.1 h)
theorem AeA {a b : ByteArray} (h : ¬ a = b) : (a.toList == b.toList) = false :=
 beq_eq_false_iff_ne.2 fun e => h (bytes_inj e)
theorem Aca (a b : ByteArray) : (a.toList == b.toList) = decide (a = b) := by
 by_cases h : a = b
 ·rw [Aez h]; simp [h]
 ·rw [AeA h]; simp [h]

def Blk (w : World) (b : Nat) (e : TypeId) (cs : List Value) : Prop := w.heap[b]? = some (.cells cs.toArray e (0, 0))

theorem Blk.cell {w : World} {b : Nat} {e : TypeId} {cs : List Value} (h : Blk w b e cs) {j : Nat} {u : Value} (hu : cs[j]? = some u) : w.cell? ⟨b, j, none⟩ = some u := by
 simp only [World.cell?, show w.heap[b]? = _ from h]
 simpa using hu
theorem Blk.cells {w : World} {b : Nat} {e : TypeId} {cs : List Value} (h : Blk w b e cs) : ∀ j, w.cell? ⟨b, j, none⟩ = cs[j]? := fun j => by
 simp only [World.cell?, show w.heap[b]? = _ from h]
 simp
theorem Blk.lt {w : World} {b : Nat} {e : TypeId} {cs : List Value} (h : Blk w b e cs) : b < w.heap.size := (Array.getElem?_eq_some_iff.1 h).1
theorem Blk.same {w w' : World} {b : Nat} {e : TypeId} {cs : List Value} (h : Blk w b e cs) (hs : w'.heap[b]? = w.heap[b]?) : Blk w' b e cs := hs.trans h
theorem Blk.set {w : World} {b : Nat} {e : TypeId} {cs : List Value} (h : Blk w b e cs) (j : Nat) (v : Value) : Blk (w.setCell ⟨b, j, none⟩ v) b e (cs.set j v) := by
 have h' : w.heap[b]? = some (.cells cs.toArray e (0, 0)) := h
 simp only [Blk, World.setCell, Array.getElem?_modify, if_true, h']
 simp
theorem Blk.alloc {w : World} {b : Nat} {e : TypeId} {cs : List Value} (h : Blk w b e cs) (o : Obj) : Blk (w.alloc o) b e cs := h.same (Below.heap_alloc w o b h.lt)
theorem Blk.new (w : World) (e : TypeId) (cs : Array Value) : Blk (w.alloc (.cells cs e)) w.heap.size e cs.toList := by
 show (w.heap.push _)[w.heap.size]? = _
 simp
theorem Blk.row {α : Type} [Rep α] {S : Nat → Prop} {w : World} {b : Nat} {e : TypeId} {cs : List Value} {l : List α} (h : Blk w b e cs)
  (hr : ∀ i x, l[i]? = some x → ∃ c, (∀ j u, c[j]? = some u → cs[i * Rep.n α + j]? = some u) ∧ Rep.rep S w c x) : Ll S w b 0 l := by
 intro i x hx
 obtain ⟨c, h1, h2⟩ := hr i x hx
 exact ⟨c, fun j u hu => by rw [Nat.zero_add]; exact h.cell (h1 j u hu), h2⟩

def Rd {α : Type} [Rep α] (w : World) (v : Value) (l : List α) : Prop := Dj (fun b => b < w.heap.size) w v l
theorem Rd.on {α : Type} [Rep α] {w w' : World} {v : Value} {l : List α} (h : Rd w v l) (hb : Below w.heap.size w w') : Rd w' v l :=
 Dj.carry h (fun _ hb' => Nat.lt_of_lt_of_le hb' hb.size) (fun b hb' => hb.block b hb')
theorem Rd.form {α : Type} [Rep α] {w : World} {v : Value} {l : List α} (h : Rd w v l) : ∃ a cap, v = .slice a l.length cap := Dj.form h
theorem Rd.cap {α : Type} [Rep α] {w : World} {a : Option Addr} {n c : Nat} {l : List α} (h : Rd w (.slice a n c) l) : l.length ≤ c ∧ c ≤ 9223372036854775807 := Dj.cap h
theorem Rd.nil {α : Type} [Rep α] (w : World) : Rd w (.slice none 0 0) ([] : List α) := ⟨none, 0, rfl, Nat.le_refl _, Nat.zero_le _, .inl rfl⟩
end Go.Proofs.YtjbcnilllfaipaaGreat.Ml
set_option maxRecDepth 100000
namespace Go.Proofs.YtjbcnilllfaipaaGreat
open Go.ChangeShapes Go.WideShapes Go.ChangeAt Go.RowKit Go.Proofs.YtjbcnilllfaipaaGreat.Ml

class Ad (α : Type) where
 bulk : α → Nat
 pos : ∀ x, 1 ≤ bulk x
instance : Ad Int := ⟨fun _ => 1, fun _ => Nat.le_refl _⟩
instance : Ad Bool := ⟨fun _ => 1, fun _ => Nat.le_refl _⟩
instance : Ad UInt8 := ⟨fun _ => 1, fun _ => Nat.le_refl _⟩
instance : Ad ByteArray := ⟨fun s => s.size + 1, fun _ => by omega⟩
instance {α : Type} [Ad α] : Ad (List α) := ⟨fun l => (l.map Ad.bulk).sum + 1, fun _ => by omega⟩

theorem Ao {α : Type} [Ad α] (l : List α) : l.length + 1 ≤ Ad.bulk l := by
 induction l with
 | nil => simp [Ad.bulk]
 | cons x r ih =>
  have := Ad.pos x
  simp only [Ad.bulk, List.map_cons, List.sum_cons, List.length_cons] at ih ⊢
  omega

theorem AW {α : Type} [Ad α] {l : List α} {x : α} (h : x ∈ l) : Ad.bulk x + 1 ≤ Ad.bulk l := by
 induction l with
 | nil => cases h
 | cons y r ih =>
  simp only [Ad.bulk, List.map_cons, List.sum_cons]
  rcases List.mem_cons.1 h with e | e
  ·subst e; omega
  ·have := ih e
   simp only [Ad.bulk] at this
   omega

structure CD (t : TypeId) (α : Type) [Rep α] [Ad α] : Prop where
 n : Tryz.prog.cellsOf t = Rep.n α
 get : ∀ {H : Type} {enc : TypeId × Value → H} {w : World} {fuel : Nat} {cs : List Value} {x : DataW H × List MemPlace}, DataW.trod enc Tryz.prog w 0 (fun _ => true) true fuel t cs = some x → ∃ y : α, Rep.rep (fun b => b < w.heap.size) w cs y ∧ Ad.bulk y ≤ Rows.uptoBulk x.1

theorem CF : CD 3 Int := ⟨by kernel_rfl, fun h => by
 obtain ⟨n, rfl, rfl, hw⟩ := DataW.trod_int Tryz.underlying3 h
 have hb : -9223372036854775808 ≤ n ∧ n ≤ 9223372036854775807 := by simpa [Lit.wf, IntKind.min, IntKind.max, IntKind.signed, IntKind.bits] using hw
 exact ⟨n, ⟨rfl, hb.1, hb.2⟩, by simp [Ad.bulk, Rows.uptoBulk]⟩⟩

theorem QF : CD 4 Bool := ⟨by kernel_rfl, fun h => by
 obtain ⟨b, rfl, rfl⟩ := DataW.trod_bool Tryz.underlying4 h
 exact ⟨b, rfl, by simp [Ad.bulk, Rows.uptoBulk]⟩⟩

theorem E9 : CD 9 ByteArray := ⟨by kernel_rfl, fun h => by
 obtain ⟨s, rfl, rfl, hs⟩ := DataW.trod_string Tryz.underlying9 h
 exact ⟨s, ⟨rfl, hs⟩, by simp [Ad.bulk, Rows.uptoBulk]⟩⟩

theorem Vd {H α : Type} [Ad α] {l : List α} {D : Nat → DataW H} (h : ∀ i (hi : i < l.length), Ad.bulk l[i] ≤ Rows.uptoBulk (D i)) : (l.map Ad.bulk).sum ≤ Rows.uptoBulkAll ((List.range l.length).map D) := by
 induction l generalizing D with
 | nil => simp
 | cons x r ih =>
  rw [List.length_cons, List.range_succ_eq_map]
  simp only [List.map_cons, List.sum_cons, Rows.uptoBulkAll, List.map_map]
  have h0 := h 0 (by simp)
  have h1 := ih (D := D ∘ Nat.succ) (fun i hi => h (i + 1) (by simpa using hi))
  simp only [List.getElem_cons_zero] at h0
  omega

theorem WU {H : Type} (l r : List (DataW H)) : Rows.uptoBulkAll l + 1 ≤ Rows.uptoBulk (.slice l r) := by
 simp only [Rows.uptoBulk]; omega

theorem EH (b o k : Nat) : (⟨b, o, none⟩ : Addr).add k = ⟨b, o + k, none⟩ := by
 unfold Addr.add; split <;> simp_all

theorem Fq {t e : TypeId} {α : Type} [Rep α] [Ad α] (he : CD e α) (ht : Tryz.prog.underlying t = some (.slice e)) (h1 : Tryz.prog.cellsOf t = 1) (hn : 0 < Rep.n α) : CD t (List α) := ⟨h1, fun {H enc w fuel cs x} h => by
 rcases Deep.open_slice ht h with ⟨rfl, rfl⟩ | ⟨a, len, cap, m, n, D, Pl, rfl, _, hl, hm, hmm, rfl, hx⟩
 ·exact ⟨[], ⟨_, rfl, none, 0, rfl, Nat.le_refl _, Nat.zero_le _, .inl rfl⟩, by simp [Ad.bulk, Rows.uptoBulk]⟩
 ·have hlm : len ≤ m := by rw [hmm]; simpa using hl
  obtain ⟨Y, hY⟩ := Deep.choose_lt (α := Option α) (n := len) (p := fun i y => ∃ y' cs', y = some y' ∧ w.cells? 0 (a.add (i * Tryz.prog.cellsOf e)) (Tryz.prog.cellsOf e) = some cs' ∧ Rep.rep (fun b => b < w.heap.size) w cs' y' ∧ Ad.bulk y' ≤ Rows.uptoBulk (D i)) (fun i hi => by
   obtain ⟨cs', h2, h3⟩ := hx i (by omega)
   obtain ⟨y, h4, h5⟩ := he.get h3
   exact ⟨some y, y, cs', rfl, h2, h4, h5⟩)
  obtain ⟨l, hl1, hl2⟩ : ∃ l : List α, l.length = len ∧ ∀ i, i < len → Y i = l[i]? := by
   refine ⟨(List.range len).filterMap Y, ?_, ?_⟩
   ·have : ∀ k, k ≤ len → ((List.range k).filterMap Y).length = k := by
     intro k hk
     induction k with
     | zero => rfl
     | succ k ih =>
      obtain ⟨y', cs', e1, _⟩ := hY k (by omega)
      rw [List.range_succ, List.filterMap_append, List.length_append, ih (by omega)]
      simp [e1]
    exact this len (Nat.le_refl _)
   ·have : ∀ k, k ≤ len → ((List.range k).filterMap Y).length = k ∧ ∀ i, i < k → Y i = ((List.range k).filterMap Y)[i]? := by
     intro k hk
     induction k with
     | zero => exact ⟨rfl, fun i hi => by omega⟩
     | succ k ih =>
      obtain ⟨h6, h7⟩ := ih (by omega)
      obtain ⟨y', cs', e1, _⟩ := hY k (by omega)
      rw [List.range_succ, List.filterMap_append]
      refine ⟨by rw [List.length_append, h6]; simp [e1], fun i hi => ?_⟩
      by_cases hik : i < k
      ·rw [List.getElem?_append_left (by omega)]; exact h7 i hik
      ·obtain rfl : i = k := by omega
       rw [List.getElem?_append_right (by omega), h6]
       simp [e1]
    exact (this len (Nat.le_refl _)).2
  refine ⟨l, ⟨_, rfl, some a, cap, by rw [hl1], by omega, hm, ?_⟩, ?_⟩
  ·by_cases h0 : len = 0
   ·exact .inl (List.eq_nil_of_length_eq_zero (by omega))
   ·right
    obtain ⟨y', cs', e1, e2, e3, _⟩ := hY 0 (by omega)
    rw [he.n] at e2
    obtain ⟨_, hlen, hcell⟩ := World.cells?_some e2
    have hspot : a.spot = none ∧ a.block < w.heap.size := by
     obtain ⟨u, hu⟩ : ∃ u, w.cell? a = some u := by
      have := hcell 0 (by omega)
      simp [Addr.add] at this
      exact ⟨_, this.trans (List.getElem?_eq_getElem (by omega))⟩
     refine ⟨?_, World.block_lt_of_cell? w a hu⟩
     simp only [World.cell?] at hu
     cases hs : a.spot with
     | none => rfl
     | some s =>
      rw [hs] at hu
      simp at hu
      split at hu <;> simp at hu
    obtain ⟨b, o, sp⟩ := a
    simp only at hspot
    obtain ⟨rfl, hbl⟩ := hspot
    refine ⟨b, o, rfl, hbl, fun i z hz => ?_⟩
    have hi : i < len := by
     rw [← hl1]
     exact (List.getElem?_eq_some_iff.1 hz).1
    obtain ⟨y', cs', e1, e2, e3, _⟩ := hY i hi
    rw [hl2 i hi] at e1
    obtain rfl : y' = z := by rw [hz] at e1; simpa using e1.symm
    rw [he.n] at e2
    obtain ⟨_, hlen, hcell⟩ := World.cells?_some e2
    refine ⟨cs', fun j u hu => ?_, e3⟩
    have hj : j < Rep.n α := by rw [← hlen]; exact (List.getElem?_eq_some_iff.1 hu).1
    have := hcell j hj
    rw [EH, EH] at this
    rw [this]; exact hu
  ·have := Vd (l := l) (D := D) (fun i hi => by
    obtain ⟨y', cs', e1, _, _, e4⟩ := hY i (by omega)
    rw [hl2 i (by omega), List.getElem?_eq_getElem hi] at e1
    simp at e1
    rw [e1]; exact e4)
   rw [hl1] at this
   have h2 := WU ((List.range len).map D) ((List.range (m - len)).map fun j => D (len + j))
   simp only [Ad.bulk] at this ⊢
   omega⟩

theorem Ua {α : Type} [Rep α] [Ad α] {H : Type} {enc : TypeId × Value → H} {w : World} {t base : Nat} {fs : Array Field} {v : Value} {d : DataW H} {p : List MemPlace} (hr : CD t α) (hs : Tryz.prog.underlying t = some (.struct fs))
  (hv : Value.okWide Tryz.prog w .any base t v) (h : DataW.Trod enc Tryz.prog w 0 (fun _ => true) true t v d p) : ∃ cs : List Value, v = .agg cs.toArray ∧ ∃ y : α, Rep.rep (fun b => b < w.heap.size) w cs y ∧ Ad.bulk y ≤ Rows.uptoBulk d := by
 obtain ⟨cs, rfl, hsz⟩ := okWide_struct hs hv
 obtain ⟨fuel, hf⟩ := h
 obtain ⟨y, h1, h2⟩ := hr.get hf
 exact ⟨cs.toList, by simp, y, by simpa [Value.cells] using h1, h2⟩
theorem Acp {α : Type} [Rep α] [Ad α] {H : Type} {enc : TypeId × Value → H} {w : World} {t e base : Nat} {v : Value} {d : DataW H} {p : List MemPlace} (hr : CD t (List α)) (hs : Tryz.prog.underlying t = some (.slice e))
  (hv : Value.okWide Tryz.prog w .any base t v) (h : DataW.Trod enc Tryz.prog w 0 (fun _ => true) true t v d p) : ∃ l : List α, Rd w v l ∧ Ad.bulk l ≤ Rows.uptoBulk d := by
 obtain ⟨a, n, c, rfl⟩ := okWide_slice hs hv
 obtain ⟨fuel, hf⟩ := h
 obtain ⟨y, h1, h2⟩ := hr.get hf
 obtain ⟨v, e, h3⟩ := h1
 simp only [Value.cells, List.cons.injEq, and_true] at e
 subst e
 exact ⟨y, h3, h2⟩
theorem AaQ {H : Type} {enc : TypeId × Value → H} {w : World} {base : Nat} {v : Value} {d : DataW H} {p : List MemPlace}
  (hv : Value.okWide Tryz.prog w .any base 3 v) (h : DataW.Trod enc Tryz.prog w 0 (fun _ => true) true 3 v d p) : ∃ n : Int, v = .int .i64 n ∧ -9223372036854775808 ≤ n ∧ n ≤ 9223372036854775807 := by
 obtain ⟨n, rfl, _⟩ := open_int Tryz.underlying3 hv h
 obtain ⟨fuel, hf⟩ := h
 obtain ⟨y, h1, _⟩ := CF.get hf
 have e : n = y := by
  have := h1.1
  simp only [Value.cells, List.cons.injEq, and_true, Value.int.injEq, true_and] at this
  exact this
 have h2 := h1.2.1
 have h3 := h1.2.2
 rw [← e] at h2 h3
 exact ⟨n, rfl, h2, h3⟩

theorem Abf : laidOutB Tryz.prog = true := by kernel_rfl
theorem AeE : ownKnob Tryz.prog.godebug = none := by kernel_rfl

theorem PW {H : Type} {enc : TypeId × Value → H} {W W' : World} (hb : Below W.heap.size W W') {ts : List TypeId} (ht : (ts.all fun t => Tryz.prog.readableRec t && decide (t < Tryz.prog.types.size)) = true) : ∀ {vs : List Value} {ds : List (DataW H)} {ps : List MemPlace},
  DataW.TrodAll enc Tryz.prog W 0 (fun _ => true) true ts vs ds ps → (∀ x ∈ ps, x.block < W.heap.size) → DataW.TrodAll enc Tryz.prog W' 0 (fun b => decide (b < W.heap.size)) true ts vs ds ps := by
 induction ts with
 | nil =>
  intro vs ds ps h _
  obtain ⟨rfl, rfl, rfl⟩ := trodAll_nil h
  exact trodAll_mk0
 | cons t ts ih =>
  intro vs ds ps h hlt
  obtain ⟨v, vs', d, ds', p, q, rfl, rfl, rfl, h1, h2⟩ := trodAll_cons h
  rw [List.all_cons, Bool.and_eq_true, Bool.and_eq_true, decide_eq_true_eq] at ht
  exact trodAll_cons_mk (Below.trod Abf ht.1.1 ht.1.2 h1 hb (fun x hx => hlt x (List.mem_append_left _ hx))) (ih ht.2 h2 (fun x hx => hlt x (List.mem_append_right _ hx)))

theorem Abe {H : Type} {enc : TypeId × Value → H} {f : Func} {s : ChangeSpec} (hs0 : s.vars = []) (hres : f.resultTypes = #[4]) (hts : (f.params.toList.all fun t => Tryz.prog.readableRec t && decide (t < Tryz.prog.types.size)) = true)
  {W W' : World} {args : Array Value} {ds gs : List (DataW H)} {before : List MemPlace} (hW : DataW.Whole enc Tryz.prog f.params.toList s.vars false W args.toList ds gs before)
  (hfn : s.fn H (ds ++ gs) = { results := [.lit (.bool true)], args := ds }) (hb : Below W.heap.size W W') : s.post enc Tryz.prog f false true false false W args (.bool true) W' := by
 have hW' := hW
 have hlt : ∀ x ∈ before, x.block < W.heap.size := fun x hx => hW.lt x hx
 obtain ⟨p, q, hA, hV, rfl, hfz, hnd⟩ := hW
 have hV2 := hV
 rw [hs0] at hV
 obtain ⟨rfl, rfl⟩ := trodVars_none hV
 refine ⟨ds, [], p ++ [], [], p, [], hW', ?_, ?_, ?_, hb.frame _, fun h => by cases h⟩
 ·rw [hfn, hres]
  exact trodAll_cons_mk (shut_bool Tryz.underlying4 _) trodAll_mk0
 ·rw [hfn]
  exact PW hb hts hA (fun x hx => hlt x (List.mem_append_left _ hx))
 ·rw [hfn, hs0]
  rfl

theorem AK {α : Type} {l : List α} {n : Nat} (h : l.length = n + 1) : ∃ a t, l = a :: t ∧ t.length = n := by
 cases l with
 | nil => simp at h
 | cons a t => exact ⟨a, t, rfl, by simpa using h⟩
theorem Cu {α : Type} {l : List α} (h : l.length = 0) : l = [] := List.eq_nil_of_length_eq_zero h

end Go.Proofs.YtjbcnilllfaipaaGreat
