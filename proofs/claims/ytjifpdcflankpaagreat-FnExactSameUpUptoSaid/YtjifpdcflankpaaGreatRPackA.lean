/-
 THE GROUND OF DATA, in one text. Conditions: none.
-/
import Derived.Test.YtjifpdcflankpaaGreatRAvSimp
import Derived.WalkKit
import Derived.WalkSpells
import Derived.WalkLawsBesides
import Derived.ProofKit
import Derived.Lib.Hide
import Derived.Deep.QuietTactic
import Derived.BigQuiet
import Derived.Deep.LoopGhost
import Derived.Deep.OwnRows
import Derived.Deep.DeepFit
import Derived.Test.YtjifpdcflankpaaGreatRows
import Derived.OpenShut
import Derived.JoinedCond
import Derived.Deep.Slices

set_option linter.unusedVariables false
namespace Go.Proofs.YtjifpdcflankpaaGreat.Av
open Go.RowKit

class AVal (α : Type) where
 av : α → AV
 n : Nat
 ok : ∀ x, (av x).ok = true
 len : ∀ x, (av x).cells.length = n
 pure : ∀ x, ∀ y ∈ (av x).cells, AvPure y
 nop : ∀ x hp, (av x).pur hp = av x
 cone : ∀ x, ∀ y ∈ (av x).cells, y.one = true
open AVal (av)
theorem AVal.clean {α : Type} [AVal α] (x : α) : AvPure (av x) := by
 have h := AVal.pure x
 have hk := AVal.ok x
 cases hx : (av x) with
 | agg cs => rw [hx] at h; exact AvPure.agg h
 | _ => rw [hx] at h hk; first | exact h _ (by simp [AV.cells]) | (simp [AV.ok, AV.one, AV.isAgg] at hk)
instance : AVal Int := ⟨fun x => .int .i64 x, 1, fun _ => rfl, fun _ => rfl, fun x y hy => by simp [AV.cells] at hy; subst hy; exact AvPure.int _ _, fun _ _ => rfl, fun x y hy => by simp [AV.cells] at hy; subst hy; rfl⟩
instance : AVal Bool := ⟨fun x => .bool x, 1, fun _ => rfl, fun _ => rfl, fun x y hy => by simp [AV.cells] at hy; subst hy; exact AvPure.bool _, fun _ _ => rfl, fun x y hy => by simp [AV.cells] at hy; subst hy; rfl⟩
instance : AVal ByteArray := ⟨fun x => .str x, 1, fun _ => rfl, fun _ => rfl, fun x y hy => by simp [AV.cells] at hy; subst hy; exact AvPure.str _, fun _ _ => rfl, fun x y hy => by simp [AV.cells] at hy; subst hy; rfl⟩
instance : AVal UInt8 := ⟨fun x => .int .u8 x.toNat, 1, fun _ => rfl, fun _ => rfl, fun x y hy => by simp [AV.cells] at hy; subst hy; exact AvPure.int _ _, fun _ _ => rfl, fun x y hy => by simp [AV.cells] at hy; subst hy; rfl⟩
def lav {α : Type} [AVal α] (l : List α) : AV := .sl (l.map av)
theorem lav_clean {α : Type} [AVal α] (l : List α) : AvPure (lav l) := AvPure.sl fun e he y hy => by
 obtain ⟨x, _, rfl⟩ := List.mem_map.1 he
 exact AVal.pure x y hy
instance {α : Type} [AVal α] : AVal (List α) := ⟨lav, 1, fun _ => rfl, fun _ => rfl, fun x y hy => by simp [AV.cells, lav] at hy; subst hy; exact lav_clean x, fun _ _ => rfl, fun x y hy => by simp [AV.cells, lav] at hy; subst hy; rfl⟩
theorem av_int (x : Int) : av x = .int .i64 x := eqq rfl
theorem av_str (x : ByteArray) : av x = .str x := eqq rfl
theorem map_nop {α : Type} [AVal α] (l : List α) (hp : Hp) : (l.map av).map (AV.pur hp) = l.map av := by
 rw [List.map_map]; apply List.map_congr_left; intro x _; exact AVal.nop x hp
def fillL {α : Type} [AVal α] (l : List α) (z : AV) (k : Nat) : List AV := (l.take k).map av ++ List.replicate (l.length - k) z
theorem fillL_zero {α : Type} [AVal α] (l : List α) (z : AV) : fillL l z 0 = List.replicate l.length z := by simp [fillL]
theorem fillL_full {α : Type} [AVal α] (l : List α) (z : AV) : fillL l z l.length = l.map av := by simp [fillL]
theorem fillL_len {α : Type} [AVal α] {l : List α} (z : AV) {k : Nat} (h : k ≤ l.length) : (fillL l z k).length = l.length := by simp [fillL]; omega
theorem fillL_get {α : Type} [AVal α] {l : List α} (z : AV) {k : Nat} (h : k < l.length) (d : AV) : (fillL l z k).getD k d = z := by
 have hk : ((l.take k).map av).length = k := by simp; omega
 simp only [fillL, List.getD_eq_getElem?_getD]
 rw [List.getElem?_append_right (by omega), hk, Nat.sub_self, List.getElem?_replicate, if_pos (by omega)]
 rfl
theorem fillL_set {α : Type} [AVal α] {l : List α} {z : AV} {k : Nat} (h : k < l.length) {y : AV} (hy : y = av l[k]) : (fillL l z k).set k y = fillL l z (k + 1) := by
 have hk : ((l.take k).map av).length = k := by simp; omega
 subst hy
 simp only [fillL]
 rw [List.set_append_right _ _ (by omega), hk, Nat.sub_self, show l.length - k = (l.length - (k + 1)) + 1 by omega, List.replicate_succ, List.set_cons_zero, List.take_succ_eq_append_getElem h, List.map_append]
 simp
theorem getD_map {α β : Type} (f : α → β) (l : List α) (i : Nat) (d : β) (h : i < l.length) : (l.map f).getD i d = f l[i] := by
 simp [List.getD_eq_getElem?_getD, h]
theorem map_len {α β : Type} (f : α → β) (l : List α) : (l.map f).length = l.length := List.length_map _
theorem all_take' {α : Type} {l : List α} (p : α → Bool) {k : Nat} (hlt : k < l.length) (h : (l.take k).all p = true) : (l.take (k + 1)).all p = p l[k] := by
 rw [List.take_succ_eq_append_getElem hlt, List.all_append, h]; simp
theorem all_false' {α : Type} {l : List α} (p : α → Bool) {k : Nat} (hlt : k < l.length) (h : p l[k] = false) : l.all p = false := by
 rw [List.all_eq_false]; exact ⟨l[k], List.getElem_mem hlt, by simp [h]⟩
end Go.Proofs.YtjifpdcflankpaaGreat.Av

namespace Go.Proofs.YtjifpdcflankpaaGreat.Ml
open Go.RowKit

def Same (S : Nat → Prop) (w w' : World) : Prop := ∀ b, S b → w'.heap[b]? = w.heap[b]?

theorem Same.refl (S : Nat → Prop) (w : World) : Same S w w := fun _ _ => rfl
theorem Same.trans {S : Nat → Prop} {a b c : World} (h : Same S a b) (k : Same S b c) : Same S a c := fun x hx => (k x hx).trans (h x hx)
theorem Same.mono {S S' : Nat → Prop} {w w' : World} (h : Same S' w w') (hS : ∀ b, S b → S' b) : Same S w w' := fun b hb => h b (hS b hb)
theorem Same.cell {S : Nat → Prop} {w w' : World} (h : Same S w w') {b o : Nat} (hb : S b) : w'.cell? ⟨b, o, none⟩ = w.cell? ⟨b, o, none⟩ := World.cell?_of_block (w := w) (h b hb)
class Rep (α : Type) where
 n : Nat
 rep : (Nat → Prop) → World → List Value → α → Prop
 len : ∀ {S w cs x}, rep S w cs x → cs.length = n
 carry : ∀ {S S' : Nat → Prop} {w w' cs x}, rep S w cs x → (∀ b, S b → S' b) → Same S w w' → rep S' w' cs x

instance : Rep Int where
 n := 1
 rep _ _ cs x := cs = [.int .i64 x] ∧ -9223372036854775808 ≤ x ∧ x ≤ 9223372036854775807
 len := by rintro _ _ _ _ ⟨rfl, _⟩; rfl
 carry h _ _ := h

instance : Rep Bool where
 n := 1
 rep _ _ cs x := cs = [.bool x]
 len := by rintro _ _ _ _ rfl; rfl
 carry h _ _ := h

instance : Rep UInt8 where
 n := 1
 rep _ _ cs x := cs = [.int .u8 x.toNat]
 len := by rintro _ _ _ _ rfl; rfl
 carry h _ _ := h

instance : Rep ByteArray where
 n := 1
 rep _ _ cs x := cs = [.string x] ∧ x.size ≤ maxLen
 len := by rintro _ _ _ _ ⟨rfl, _⟩; rfl
 carry h _ _ := h

instance {α β : Type} [Rep α] [Rep β] : Rep (α × β) where
 n := Rep.n α + Rep.n β
 rep S w cs x := ∃ c1 c2, cs = c1 ++ c2 ∧ Rep.rep S w c1 x.1 ∧ Rep.rep S w c2 x.2
 len := by rintro _ _ _ _ ⟨_, _, rfl, h1, h2⟩; simp [Rep.len h1, Rep.len h2]
 carry := by rintro _ _ _ _ _ _ ⟨_, _, rfl, h1, h2⟩ hS hw; exact ⟨_, _, rfl, Rep.carry h1 hS hw, Rep.carry h2 hS hw⟩

def At (w : World) (b o : Nat) (cs : List Value) : Prop := ∀ j u, cs[j]? = some u → w.cell? ⟨b, o + j, none⟩ = some u

theorem At.same {S : Nat → Prop} {w w' : World} {b o : Nat} {cs : List Value} (h : At w b o cs) (hw : Same S w w') (hb : S b) : At w' b o cs :=
 fun j u hu => (hw.cell hb).trans (h j u hu)

def RepRow {α : Type} [Rep α] (S : Nat → Prop) (w : World) (b o : Nat) (l : List α) : Prop :=
 ∀ i x, l[i]? = some x → ∃ cs, At w b (o + i * Rep.n α) cs ∧ Rep.rep S w cs x

def RepSl {α : Type} [Rep α] (S : Nat → Prop) (w : World) (v : Value) (l : List α) : Prop :=
 ∃ a cap, v = .slice a l.length cap ∧ l.length ≤ cap ∧ cap ≤ maxLen ∧ (l = [] ∨ ∃ b o, a = some ⟨b, o, none⟩ ∧ S b ∧ RepRow S w b o l)

theorem RepRow.carry {α : Type} [Rep α] {S S' : Nat → Prop} {w w' : World} {b o : Nat} {l : List α} (h : RepRow S w b o l) (hb : S b) (hS : ∀ b, S b → S' b) (hw : Same S w w') : RepRow S' w' b o l :=
 fun i x hx => let ⟨cs, h1, h2⟩ := h i x hx; ⟨cs, h1.same hw hb, Rep.carry h2 hS hw⟩

theorem RepSl.carry {α : Type} [Rep α] {S S' : Nat → Prop} {w w' : World} {v : Value} {l : List α} (h : RepSl S w v l) (hS : ∀ b, S b → S' b) (hw : Same S w w') : RepSl S' w' v l := by
 obtain ⟨a, cap, rfl, h1, h2, h3⟩ := h
 refine ⟨a, cap, rfl, h1, h2, ?_⟩
 rcases h3 with h3 | ⟨b, o, rfl, hb, hr⟩
 ·exact .inl h3
 ·exact .inr ⟨b, o, rfl, hS b hb, hr.carry hb hS hw⟩

instance {α : Type} [Rep α] : Rep (List α) where
 n := 1
 rep S w cs x := ∃ v, cs = [v] ∧ RepSl S w v x
 len := by rintro _ _ _ _ ⟨_, rfl, _⟩; rfl
 carry := by rintro _ _ _ _ _ _ ⟨v, rfl, h⟩ hS hw; exact ⟨v, rfl, h.carry hS hw⟩

theorem RepSl.cap {α : Type} [Rep α] {S : Nat → Prop} {w : World} {a : Option Addr} {n c : Nat} {l : List α} (h : RepSl S w (.slice a n c) l) : l.length ≤ c ∧ c ≤ 9223372036854775807 := by
 obtain ⟨a', cap, he, h1, h2, h3⟩ := h
 simp at he
 unfold maxLen at h2
 omega

theorem RepRow.get {α : Type} [Rep α] {S : Nat → Prop} {w : World} {b o : Nat} {l : List α} (h : RepRow S w b o l) {i : Nat} (hi : i < l.length) : ∃ cs, At w b (o + i * Rep.n α) cs ∧ Rep.rep S w cs l[i] := h i _ (List.getElem?_eq_getElem hi)

theorem strT {a b : ByteArray} (h : a = b) : (a.toList == b.toList) = true := by subst h; simp
theorem bytes_inj {a b : ByteArray} (h : a.toList = b.toList) : a = b := by
 rw [ByteArray.toList_eq, ByteArray.toList_eq] at h
 exact ByteArray.ext (Array.toList_inj.1 h)
theorem strF {a b : ByteArray} (h : ¬ a = b) : (a.toList == b.toList) = false :=
 beq_eq_false_iff_ne.2 fun e => h (bytes_inj e)
theorem strB (a b : ByteArray) : (a.toList == b.toList) = decide (a = b) := by
 by_cases h : a = b
 ·rw [strT h]; simp [h]
 ·rw [strF h]; simp [h]

def Blk (w : World) (b : Nat) (e : TypeId) (cs : List Value) : Prop := w.heap[b]? = some (.cells cs.toArray e (0, 0))

theorem Blk.cell {w : World} {b : Nat} {e : TypeId} {cs : List Value} (h : Blk w b e cs) {j : Nat} {u : Value} (hu : cs[j]? = some u) : w.cell? ⟨b, j, none⟩ = some u := by
 simp only [World.cell?, show w.heap[b]? = _ from h]
 simpa using hu
theorem Blk.cells {w : World} {b : Nat} {e : TypeId} {cs : List Value} (h : Blk w b e cs) : ∀ j, w.cell? ⟨b, j, none⟩ = cs[j]? := fun j => by
 simp only [World.cell?, show w.heap[b]? = _ from h]
 simp
theorem Blk.lt {w : World} {b : Nat} {e : TypeId} {cs : List Value} (h : Blk w b e cs) : b < w.heap.size := (Array.getElem?_eq_some_iff.1 h).1
theorem Blk.same {w w' : World} {b : Nat} {e : TypeId} {cs : List Value} (h : Blk w b e cs) (hs : w'.heap[b]? = w.heap[b]?) : Blk w' b e cs := hs.trans h
theorem Blk.set {w : World} {b : Nat} {e : TypeId} {cs : List Value} (h : Blk w b e cs) (j : Nat) (v : Value) : Blk (w.setCell ⟨b, j, none⟩ v) b e (cs.set j v) := by
 have h' : w.heap[b]? = some (.cells cs.toArray e (0, 0)) := h
 simp only [Blk, World.setCell, Array.getElem?_modify, if_true, h']
 simp
theorem Blk.alloc {w : World} {b : Nat} {e : TypeId} {cs : List Value} (h : Blk w b e cs) (o : Obj) : Blk (w.alloc o) b e cs := h.same (Below.heap_alloc w o b h.lt)
theorem Blk.new (w : World) (e : TypeId) (cs : Array Value) : Blk (w.alloc (.cells cs e)) w.heap.size e cs.toList := by
 show (w.heap.push _)[w.heap.size]? = _
 simp
theorem Blk.row {α : Type} [Rep α] {S : Nat → Prop} {w : World} {b : Nat} {e : TypeId} {cs : List Value} {l : List α} (h : Blk w b e cs)
  (hr : ∀ i x, l[i]? = some x → ∃ c, (∀ j u, c[j]? = some u → cs[i * Rep.n α + j]? = some u) ∧ Rep.rep S w c x) : RepRow S w b 0 l := by
 intro i x hx
 obtain ⟨c, h1, h2⟩ := hr i x hx
 exact ⟨c, fun j u hu => by rw [Nat.zero_add]; exact h.cell (h1 j u hu), h2⟩

def Rd {α : Type} [Rep α] (w : World) (v : Value) (l : List α) : Prop := RepSl (fun b => b < w.heap.size) w v l
theorem Rd.on {α : Type} [Rep α] {w w' : World} {v : Value} {l : List α} (h : Rd w v l) (hb : Below w.heap.size w w') : Rd w' v l :=
 RepSl.carry h (fun _ hb' => Nat.lt_of_lt_of_le hb' hb.size) (fun b hb' => hb.block b hb')
theorem Rd.cap {α : Type} [Rep α] {w : World} {a : Option Addr} {n c : Nat} {l : List α} (h : Rd w (.slice a n c) l) : l.length ≤ c ∧ c ≤ 9223372036854775807 := RepSl.cap h
theorem Rd.nil {α : Type} [Rep α] (w : World) : Rd w (.slice none 0 0) ([] : List α) := ⟨none, 0, rfl, Nat.le_refl _, Nat.zero_le _, .inl rfl⟩
end Go.Proofs.YtjifpdcflankpaaGreat.Ml

set_option maxRecDepth 100000
namespace Go.Proofs.YtjifpdcflankpaaGreat
open Go.ChangeShapes Go.WideShapes Go.ChangeAt Go.RowKit Go.Proofs.YtjifpdcflankpaaGreat.Ml

class Bulk (α : Type) where
 bulk : α → Nat
 pos : ∀ x, 1 ≤ bulk x
instance : Bulk Int := ⟨fun _ => 1, fun _ => Nat.le_refl _⟩
instance : Bulk Bool := ⟨fun _ => 1, fun _ => Nat.le_refl _⟩
instance : Bulk UInt8 := ⟨fun _ => 1, fun _ => Nat.le_refl _⟩
instance : Bulk ByteArray := ⟨fun s => s.size + 1, fun _ => by omega⟩
instance {α : Type} [Bulk α] : Bulk (List α) := ⟨fun l => (l.map Bulk.bulk).sum + 1, fun _ => by omega⟩

theorem bulk_length {α : Type} [Bulk α] (l : List α) : l.length + 1 ≤ Bulk.bulk l := by
 induction l with
 | nil => simp [Bulk.bulk]
 | cons x r ih =>
  have := Bulk.pos x
  simp only [Bulk.bulk, List.map_cons, List.sum_cons, List.length_cons] at ih ⊢
  omega

theorem bulk_mem {α : Type} [Bulk α] {l : List α} {x : α} (h : x ∈ l) : Bulk.bulk x + 1 ≤ Bulk.bulk l := by
 induction l with
 | nil => cases h
 | cons y r ih =>
  simp only [Bulk.bulk, List.map_cons, List.sum_cons]
  rcases List.mem_cons.1 h with e | e
  ·subst e; omega
  ·have := ih e
   simp only [Bulk.bulk] at this
   omega

theorem bulk_len_int (l : List Int) : Bulk.bulk l = l.length + 1 := by
 induction l with
 | nil => simp [Bulk.bulk]
 | cons x r ih => simp only [Bulk.bulk, List.map_cons, List.sum_cons, List.length_cons] at ih ⊢; omega

structure ReadsAs (t : TypeId) (α : Type) [Rep α] [Bulk α] : Prop where
 n : Tryz.prog.cellsOf t = Rep.n α
 get : ∀ {H : Type} {enc : TypeId × Value → H} {w : World} {fuel : Nat} {cs : List Value} {x : DataW H × List MemPlace}, DataW.trod enc Tryz.prog w 0 (fun _ => true) true fuel t cs = some x → ∃ y : α, Rep.rep (fun b => b < w.heap.size) w cs y ∧ Bulk.bulk y ≤ Rows.uptoBulk x.1

theorem readsInt : ReadsAs 3 Int := ⟨by kernel_rfl, fun h => by
 obtain ⟨n, rfl, rfl, hw⟩ := DataW.trod_int Tryz.underlying3 h
 have hb : -9223372036854775808 ≤ n ∧ n ≤ 9223372036854775807 := by simpa [Lit.wf, IntKind.min, IntKind.max, IntKind.signed, IntKind.bits] using hw
 exact ⟨n, ⟨rfl, hb.1, hb.2⟩, by simp [Bulk.bulk, Rows.uptoBulk]⟩⟩

theorem readsBool : ReadsAs 4 Bool := ⟨by kernel_rfl, fun h => by
 obtain ⟨b, rfl, rfl⟩ := DataW.trod_bool Tryz.underlying4 h
 exact ⟨b, rfl, by simp [Bulk.bulk, Rows.uptoBulk]⟩⟩

theorem readsStr : ReadsAs 9 ByteArray := ⟨by kernel_rfl, fun h => by
 obtain ⟨s, rfl, rfl, hs⟩ := DataW.trod_string Tryz.underlying9 h
 exact ⟨s, ⟨rfl, hs⟩, by simp [Bulk.bulk, Rows.uptoBulk]⟩⟩

theorem bulkAll_map {H α : Type} [Bulk α] {l : List α} {D : Nat → DataW H} (h : ∀ i (hi : i < l.length), Bulk.bulk l[i] ≤ Rows.uptoBulk (D i)) : (l.map Bulk.bulk).sum ≤ Rows.uptoBulkAll ((List.range l.length).map D) := by
 induction l generalizing D with
 | nil => simp
 | cons x r ih =>
  rw [List.length_cons, List.range_succ_eq_map]
  simp only [List.map_cons, List.sum_cons, Rows.uptoBulkAll, List.map_map]
  have h0 := h 0 (by simp)
  have h1 := ih (D := D ∘ Nat.succ) (fun i hi => h (i + 1) (by simpa using hi))
  simp only [List.getElem_cons_zero] at h0
  omega

theorem bulk_slice {H : Type} (l r : List (DataW H)) : Rows.uptoBulkAll l + 1 ≤ Rows.uptoBulk (.slice l r) := by
 simp only [Rows.uptoBulk]; omega

theorem addr_add (b o k : Nat) : (⟨b, o, none⟩ : Addr).add k = ⟨b, o + k, none⟩ := by
 unfold Addr.add; split <;> simp_all

theorem readsSlice {t e : TypeId} {α : Type} [Rep α] [Bulk α] (he : ReadsAs e α) (ht : Tryz.prog.underlying t = some (.slice e)) (h1 : Tryz.prog.cellsOf t = 1) (hn : 0 < Rep.n α) : ReadsAs t (List α) := ⟨h1, fun {H enc w fuel cs x} h => by
 rcases Deep.open_slice ht h with ⟨rfl, rfl⟩ | ⟨a, len, cap, m, n, D, Pl, rfl, _, hl, hm, hmm, rfl, hx⟩
 ·exact ⟨[], ⟨_, rfl, none, 0, rfl, Nat.le_refl _, Nat.zero_le _, .inl rfl⟩, by simp [Bulk.bulk, Rows.uptoBulk]⟩
 ·have hlm : len ≤ m := by rw [hmm]; simpa using hl
  obtain ⟨Y, hY⟩ := Deep.choose_lt (α := Option α) (n := len) (p := fun i y => ∃ y' cs', y = some y' ∧ w.cells? 0 (a.add (i * Tryz.prog.cellsOf e)) (Tryz.prog.cellsOf e) = some cs' ∧ Rep.rep (fun b => b < w.heap.size) w cs' y' ∧ Bulk.bulk y' ≤ Rows.uptoBulk (D i)) (fun i hi => by
   obtain ⟨cs', h2, h3⟩ := hx i (by omega)
   obtain ⟨y, h4, h5⟩ := he.get h3
   exact ⟨some y, y, cs', rfl, h2, h4, h5⟩)
  obtain ⟨l, hl1, hl2⟩ : ∃ l : List α, l.length = len ∧ ∀ i, i < len → Y i = l[i]? := by
   refine ⟨(List.range len).filterMap Y, ?_, ?_⟩
   ·have : ∀ k, k ≤ len → ((List.range k).filterMap Y).length = k := by
     intro k hk
     induction k with
     | zero => rfl
     | succ k ih =>
      obtain ⟨y', cs', e1, _⟩ := hY k (by omega)
      rw [List.range_succ, List.filterMap_append, List.length_append, ih (by omega)]
      simp [e1]
    exact this len (Nat.le_refl _)
   ·have : ∀ k, k ≤ len → ((List.range k).filterMap Y).length = k ∧ ∀ i, i < k → Y i = ((List.range k).filterMap Y)[i]? := by
     intro k hk
     induction k with
     | zero => exact ⟨rfl, fun i hi => by omega⟩
     | succ k ih =>
      obtain ⟨h6, h7⟩ := ih (by omega)
      obtain ⟨y', cs', e1, _⟩ := hY k (by omega)
      rw [List.range_succ, List.filterMap_append]
      refine ⟨by rw [List.length_append, h6]; simp [e1], fun i hi => ?_⟩
      by_cases hik : i < k
      ·rw [List.getElem?_append_left (by omega)]; exact h7 i hik
      ·obtain rfl : i = k := by omega
       rw [List.getElem?_append_right (by omega), h6]
       simp [e1]
    exact (this len (Nat.le_refl _)).2
  refine ⟨l, ⟨_, rfl, some a, cap, by rw [hl1], by omega, hm, ?_⟩, ?_⟩
  ·by_cases h0 : len = 0
   ·exact .inl (List.eq_nil_of_length_eq_zero (by omega))
   ·right
    obtain ⟨y', cs', e1, e2, e3, _⟩ := hY 0 (by omega)
    rw [he.n] at e2
    obtain ⟨_, hlen, hcell⟩ := World.cells?_some e2
    have hspot : a.spot = none ∧ a.block < w.heap.size := by
     obtain ⟨u, hu⟩ : ∃ u, w.cell? a = some u := by
      have := hcell 0 (by omega)
      simp [Addr.add] at this
      exact ⟨_, this.trans (List.getElem?_eq_getElem (by omega))⟩
     refine ⟨?_, World.block_lt_of_cell? w a hu⟩
     simp only [World.cell?] at hu
     cases hs : a.spot with
     | none => rfl
     | some s =>
      rw [hs] at hu
      simp at hu
      split at hu <;> simp at hu
    obtain ⟨b, o, sp⟩ := a
    simp only at hspot
    obtain ⟨rfl, hbl⟩ := hspot
    refine ⟨b, o, rfl, hbl, fun i z hz => ?_⟩
    have hi : i < len := by
     rw [← hl1]
     exact (List.getElem?_eq_some_iff.1 hz).1
    obtain ⟨y', cs', e1, e2, e3, _⟩ := hY i hi
    rw [hl2 i hi] at e1
    obtain rfl : y' = z := by rw [hz] at e1; simpa using e1.symm
    rw [he.n] at e2
    obtain ⟨_, hlen, hcell⟩ := World.cells?_some e2
    refine ⟨cs', fun j u hu => ?_, e3⟩
    have hj : j < Rep.n α := by rw [← hlen]; exact (List.getElem?_eq_some_iff.1 hu).1
    have := hcell j hj
    rw [addr_add, addr_add] at this
    rw [this]; exact hu
  ·have := bulkAll_map (l := l) (D := D) (fun i hi => by
    obtain ⟨y', cs', e1, _, _, e4⟩ := hY i (by omega)
    rw [hl2 i (by omega), List.getElem?_eq_getElem hi] at e1
    simp at e1
    rw [e1]; exact e4)
   rw [hl1] at this
   have h2 := bulk_slice ((List.range len).map D) ((List.range (m - len)).map fun j => D (len + j))
   simp only [Bulk.bulk] at this ⊢
   omega⟩

theorem open_struct {α : Type} [Rep α] [Bulk α] {H : Type} {enc : TypeId × Value → H} {w : World} {t base : Nat} {fs : Array Field} {v : Value} {d : DataW H} {p : List MemPlace} (hr : ReadsAs t α) (hs : Tryz.prog.underlying t = some (.struct fs))
  (hv : Value.okWide Tryz.prog w .any base t v) (h : DataW.Trod enc Tryz.prog w 0 (fun _ => true) true t v d p) : ∃ cs : List Value, v = .agg cs.toArray ∧ ∃ y : α, Rep.rep (fun b => b < w.heap.size) w cs y ∧ Bulk.bulk y ≤ Rows.uptoBulk d := by
 obtain ⟨cs, rfl, hsz⟩ := okWide_struct hs hv
 obtain ⟨fuel, hf⟩ := h
 obtain ⟨y, h1, h2⟩ := hr.get hf
 exact ⟨cs.toList, by simp, y, by simpa [Value.cells] using h1, h2⟩
theorem laidOut' : laidOutB Tryz.prog = true := by kernel_rfl
theorem own' : ownKnob Tryz.prog.godebug = none := by kernel_rfl

theorem trodAll_below {H : Type} {enc : TypeId × Value → H} {W W' : World} (hb : Below W.heap.size W W') {ts : List TypeId} (ht : (ts.all fun t => Tryz.prog.readableRec t && decide (t < Tryz.prog.types.size)) = true) : ∀ {vs : List Value} {ds : List (DataW H)} {ps : List MemPlace},
  DataW.TrodAll enc Tryz.prog W 0 (fun _ => true) true ts vs ds ps → (∀ x ∈ ps, x.block < W.heap.size) → DataW.TrodAll enc Tryz.prog W' 0 (fun b => decide (b < W.heap.size)) true ts vs ds ps := by
 induction ts with
 | nil =>
  intro vs ds ps h _
  obtain ⟨rfl, rfl, rfl⟩ := trodAll_nil h
  exact trodAll_mk0
 | cons t ts ih =>
  intro vs ds ps h hlt
  obtain ⟨v, vs', d, ds', p, q, rfl, rfl, rfl, h1, h2⟩ := trodAll_cons h
  rw [List.all_cons, Bool.and_eq_true, Bool.and_eq_true, decide_eq_true_eq] at ht
  exact trodAll_cons_mk (Below.trod laidOut' ht.1.1 ht.1.2 h1 hb (fun x hx => hlt x (List.mem_append_left _ hx))) (ih ht.2 h2 (fun x hx => hlt x (List.mem_append_right _ hx)))

theorem law_post {H : Type} {enc : TypeId × Value → H} {f : Func} {s : ChangeSpec} (hs0 : s.vars = []) (hres : f.resultTypes = #[4]) (hts : (f.params.toList.all fun t => Tryz.prog.readableRec t && decide (t < Tryz.prog.types.size)) = true)
  {W W' : World} {args : Array Value} {ds gs : List (DataW H)} {before : List MemPlace} (hW : DataW.Whole enc Tryz.prog f.params.toList s.vars false W args.toList ds gs before)
  (hfn : s.fn H (ds ++ gs) = { results := [.lit (.bool true)], args := ds }) (hb : Below W.heap.size W W') : s.post enc Tryz.prog f false true false false W args (.bool true) W' := by
 have hW' := hW
 have hlt : ∀ x ∈ before, x.block < W.heap.size := fun x hx => hW.lt x hx
 obtain ⟨p, q, hA, hV, rfl, hfz, hnd⟩ := hW
 have hV2 := hV
 rw [hs0] at hV
 obtain ⟨rfl, rfl⟩ := trodVars_none hV
 refine ⟨ds, [], p ++ [], [], p, [], hW', ?_, ?_, ?_, hb.frame _, fun h => by cases h⟩
 ·rw [hfn, hres]
  exact trodAll_cons_mk (shut_bool Tryz.underlying4 _) trodAll_mk0
 ·rw [hfn]
  exact trodAll_below hb hts hA (fun x hx => hlt x (List.mem_append_left _ hx))
 ·rw [hfn, hs0]
  rfl

theorem list_succ {α : Type} {l : List α} {n : Nat} (h : l.length = n + 1) : ∃ a t, l = a :: t ∧ t.length = n := by
 cases l with
 | nil => simp at h
 | cons a t => exact ⟨a, t, rfl, by simpa using h⟩
theorem list_zero {α : Type} {l : List α} (h : l.length = 0) : l = [] := List.eq_nil_of_length_eq_zero h

end Go.Proofs.YtjifpdcflankpaaGreat

namespace Go.Proofs.YtjifpdcflankpaaGreat
open Go.RowKit Go.Proofs.YtjifpdcflankpaaGreat.Av Go.Proofs.YtjifpdcflankpaaGreat.Ml
open Go.Proofs.YtjifpdcflankpaaGreat.Av.AVal (av)

theorem pint (n : Int) : AvPure (.int .i64 n) := AvPure.int _ _
class AvRep (α : Type) [Rep α] [AVal α] : Prop where
 vr : ∀ {S : Nat → Prop} {w : World} {cs : List Value} {y : α}, Rep.rep S w cs y → VRs S w mu0 cs (av y).cells
theorem avRep_n {α : Type} [Rep α] [AVal α] [AvRep α] {S : Nat → Prop} {w : World} {cs : List Value} {y : α} (h : Rep.rep S w cs y) : (av y).cells.length = Rep.n α := by
 rw [← (AvRep.vr h).1]; exact Rep.len h
instance : AvRep Int := ⟨fun {S w cs y} h => by obtain ⟨rfl, h1, h2⟩ := h; exact VRs.cons (.int _ _ h1 h2) VRs.nil⟩
instance : AvRep Bool := ⟨fun {S w cs y} h => by have h : cs = [.bool y] := h; subst h; exact VRs.cons (.bool _) VRs.nil⟩
instance : AvRep ByteArray := ⟨fun {S w cs y} h => by obtain ⟨rfl, h1⟩ := h; exact VRs.cons (.str _ h1) VRs.nil⟩
theorem repSl_vr {α : Type} [Rep α] [AVal α] [AvRep α] {S : Nat → Prop} {w : World} {v : Value} {l : List α} (h : RepSl S w v l) : VR S w mu0 v (.sl (l.map av)) := by
 obtain ⟨a, cap, rfl, h1, h2, h3⟩ := h
 by_cases hl : l = []
 ·subst hl; exact .sl0 a cap h2
 ·obtain ⟨b, o, rfl, hb, hr⟩ := h3.resolve_left hl
  -- the cells of the elements
  have hc : ∀ i j, ∃ v, ∀ e x, (l.map av)[i]? = some e → e.cells[j]? = some x → w.cell? ⟨b, o + i * Rep.n α + j, none⟩ = some v ∧ VR S w mu0 v x := by
   intro i j
   by_cases hi : i < l.length
   ·obtain ⟨cs, h4, h5⟩ := hr i l[i] (by simp [hi])
    have h6 := AvRep.vr h5
    by_cases hj : j < cs.length
    ·refine ⟨cs[j], fun e x p q => ?_⟩
     simp only [List.getElem?_map, List.getElem?_eq_getElem hi, Option.map_some, Option.some.injEq] at p
     subst p
     exact ⟨h4 j _ (by simp [hj]), h6.2 j _ x (by simp [hj]) q⟩
    ·refine ⟨.nilFunc, fun e x p q => ?_⟩
     simp only [List.getElem?_map, List.getElem?_eq_getElem hi, Option.map_some, Option.some.injEq] at p
     subst p
     have := (List.getElem?_eq_some_iff.1 q).1
     rw [← h6.1] at this
     exact absurd this hj
   ·refine ⟨.nilFunc, fun e x p q => ?_⟩
    have := (List.getElem?_eq_some_iff.1 p).1
    simp at this; exact absurd this hi
  have := VR.sl (S := S) (w := w) (μ := mu0) b o cap (Rep.n α) (fun i j => (hc i j).choose) (l.map av) hb (by simpa using h1) h2 (fun e he => by
   obtain ⟨x, hx, rfl⟩ := List.mem_map.1 he
   obtain ⟨i, hi, rfl⟩ := List.mem_iff_getElem.1 hx
   obtain ⟨cs, h4, h5⟩ := hr i l[i] (by simp [hi])
   exact ⟨avRep_n h5, AVal.cone _⟩) (fun i j hi hj => by
   have hi' : i < l.length := by simpa using hi
   obtain ⟨cs, h4, h5⟩ := hr i l[i] (by simp [hi'])
   have hlen := avRep_n h5
   exact ((hc i j).choose_spec (av l[i]) ((av l[i]).cells[j]'(by omega)) (by simp [hi']) (by simp)).1) (fun i j e x p q => ((hc i j).choose_spec e x p q).2)
  simpa using this
instance {α : Type} [Rep α] [AVal α] [AvRep α] : AvRep (List α) := ⟨fun {S w cs y} h => by obtain ⟨v, rfl, h⟩ := h; exact VRs.cons (repSl_vr h) VRs.nil⟩

def SzPost (r : AV) (hp' : Hp) : Prop := ∃ m : Int, r = .int .i64 m ∧ hp' = [] ∧ -1 ≤ m ∧ m ≤ 4294967296
def SzOk (f : FuncId) (args : List AV) : Prop := CallsH Tryz.prog f args [] SzPost

theorem repAgg_vr {α : Type} [Rep α] [AVal α] [AvRep α] {S : Nat → Prop} {w : World} {cs : List Value} {y : α} (h : Rep.rep S w cs y) {xs : List AV} (hx : av y = .agg xs) : VR S w mu0 (.agg cs.toArray) (av y) := by
 have h1 := AvRep.vr h
 have h2 := AVal.cone y
 rw [hx] at h1 h2 ⊢
 exact .agg _ _ (by simpa [AV.cells] using h1.1) h2 (fun i v x p q => h1.2 i v x (by simpa using p) q)

theorem law_calls {f : FuncId} {args : List AV} (h : CallsF Tryz.prog f args (.bool true)) {w : World} {vs : List Value} (hv : VRs (fun b => b < w.heap.size) w mu0 vs args) :
  Calls Tryz.prog f vs.toArray w fun e w' => e = .returned (.bool true) ∧ Below w.heap.size w w' := by
 obtain ⟨_, _, h⟩ := h
 refine (h _ w vs (fun b hb => hb) hv).mono fun e w' ⟨v, he, hr, hb⟩ => ⟨?_, hb⟩
 cases hr; exact he
end Go.Proofs.YtjifpdcflankpaaGreat

namespace Go.Proofs.YtjifpdcflankpaaGreat
open Go.RowKit Go.Proofs.YtjifpdcflankpaaGreat.Ml

theorem readsIntS : ReadsAs 41 (List Int) := readsSlice readsInt Tryz.underlying41 (by kernel_rfl) (by simp [Rep.n])

end Go.Proofs.YtjifpdcflankpaaGreat

namespace Go.Proofs.YtjifpdcflankpaaGreat
open Go.RowKit Go.Proofs.YtjifpdcflankpaaGreat.Ml

structure TyItem where
 var : Int
 name : ByteArray
 arity : Int
 deriving DecidableEq, Inhabited

def TyItem.rep (S : Nat → Prop) (w : World) (cs : List Value) (x : TyItem) : Prop := cs = [Value.int .i64 x.var, Value.string x.name, Value.int .i64 x.arity] ∧ (-9223372036854775808 ≤ x.var ∧ x.var ≤ 9223372036854775807) ∧ x.name.size ≤ maxLen ∧ (-9223372036854775808 ≤ x.arity ∧ x.arity ≤ 9223372036854775807)
instance : Rep TyItem where
 n := 3
 rep := TyItem.rep
 len := by rintro _ _ _ _ ⟨rfl, _⟩; rfl
 carry := by rintro _ _ _ _ _ _ ⟨rfl, h0, h1, h2⟩ hS hw; exact ⟨rfl, h0, h1, h2⟩
instance : Bulk TyItem := ⟨fun x => Bulk.bulk x.var + Bulk.bulk x.name + Bulk.bulk x.arity + 1, fun _ => by omega⟩

structure Ty where
 items : List TyItem
 deriving DecidableEq, Inhabited

def Ty.rep (S : Nat → Prop) (w : World) (cs : List Value) (x : Ty) : Prop := ∃ v0, cs = [v0] ∧ RepSl S w v0 x.items
instance : Rep Ty where
 n := 1
 rep := Ty.rep
 len := by rintro _ _ _ _ ⟨v0, rfl, _⟩; rfl
 carry := by rintro _ _ _ _ _ _ ⟨v0, rfl, h0⟩ hS hw; exact ⟨v0, rfl, h0.carry hS hw⟩
instance : Bulk Ty := ⟨fun x => Bulk.bulk x.items + 1, fun _ => by omega⟩

theorem readsTyItem : ReadsAs 203 TyItem := ⟨by kernel_rfl, fun {H enc w fuel cs x} h => by
 obtain ⟨xs, m, _, rfl, hlen, hxs, hf⟩ := DataW.trod_struct Tryz.underlying203 h
 have hn : Tryz.prog.cellsOf 203 = 3 := by kernel_rfl
 rw [hn] at hlen
 obtain ⟨c0, t0, rfl, l0⟩ := list_succ hlen
 obtain ⟨c1, t1, rfl, l1⟩ := list_succ l0
 obtain ⟨c2, t2, rfl, l2⟩ := list_succ l1
 obtain rfl := list_zero l2
 obtain ⟨y0, s0, rfl, n0⟩ := list_succ (n := 2) hxs
 obtain ⟨y1, s1, rfl, n1⟩ := list_succ (n := 1) n0
 obtain ⟨y2, s2, rfl, n2⟩ := list_succ (n := 0) n1
 obtain rfl := list_zero n2
 obtain ⟨z0, e0, b0⟩ := readsInt.get (cs := [c0]) (x := y0) (by have := hf 0 _ rfl; simpa [readsInt.n, Rep.n] using this)
 obtain ⟨z1, e1, b1⟩ := readsStr.get (cs := [c1]) (x := y1) (by have := hf 1 _ rfl; simpa [readsStr.n, Rep.n] using this)
 obtain ⟨z2, e2, b2⟩ := readsInt.get (cs := [c2]) (x := y2) (by have := hf 2 _ rfl; simpa [readsInt.n, Rep.n] using this)
 obtain ⟨q0, g0⟩ := e0; simp only [List.cons.injEq, and_true] at q0; subst q0
 obtain ⟨q1, g1⟩ := e1; simp only [List.cons.injEq, and_true] at q1; subst q1
 obtain ⟨q2, g2⟩ := e2; simp only [List.cons.injEq, and_true] at q2; subst q2
 exact ⟨⟨z0, z1, z2⟩, ⟨rfl, g0, g1, g2⟩, by simp only [Bulk.bulk, Rows.uptoBulk, Rows.uptoBulkAll, List.map_cons, List.map_nil] at b0 b1 b2 ⊢; omega⟩⟩

theorem readsTyItemS : ReadsAs 168 (List TyItem) := readsSlice readsTyItem Tryz.underlying168 (by kernel_rfl) (by simp [Rep.n])

theorem readsTy : ReadsAs 170 Ty := ⟨by kernel_rfl, fun {H enc w fuel cs x} h => by
 obtain ⟨xs, m, _, rfl, hlen, hxs, hf⟩ := DataW.trod_struct Tryz.underlying170 h
 have hn : Tryz.prog.cellsOf 170 = 1 := by kernel_rfl
 rw [hn] at hlen
 obtain ⟨c0, t0, rfl, l0⟩ := list_succ hlen
 obtain rfl := list_zero l0
 obtain ⟨y0, s0, rfl, n0⟩ := list_succ (n := 0) hxs
 obtain rfl := list_zero n0
 obtain ⟨z0, e0, b0⟩ := readsTyItemS.get (cs := [c0]) (x := y0) (by have := hf 0 _ rfl; simpa [readsTyItemS.n, Rep.n] using this)
 obtain ⟨v0, q0, g0⟩ := e0; simp only [List.cons.injEq, and_true] at q0; subst q0
 exact ⟨⟨z0⟩, ⟨c0, rfl, g0⟩, by simp only [Bulk.bulk, Rows.uptoBulk, Rows.uptoBulkAll, List.map_cons, List.map_nil] at b0 ⊢; omega⟩⟩

end Go.Proofs.YtjifpdcflankpaaGreat

namespace Go.Proofs.YtjifpdcflankpaaGreat
open Go.RowKit Go.Proofs.YtjifpdcflankpaaGreat.Ml

structure PNode where
 kind : Int
 n : Int
 s : ByteArray
 kids : List Int
 deriving DecidableEq, Inhabited

def PNode.rep (S : Nat → Prop) (w : World) (cs : List Value) (x : PNode) : Prop := ∃ v3, cs = [Value.int .i64 x.kind, Value.int .i64 x.n, Value.string x.s, v3] ∧ (-9223372036854775808 ≤ x.kind ∧ x.kind ≤ 9223372036854775807) ∧ (-9223372036854775808 ≤ x.n ∧ x.n ≤ 9223372036854775807) ∧ x.s.size ≤ maxLen ∧ RepSl S w v3 x.kids
instance : Rep PNode where
 n := 4
 rep := PNode.rep
 len := by rintro _ _ _ _ ⟨v3, rfl, _⟩; rfl
 carry := by rintro _ _ _ _ _ _ ⟨v3, rfl, h0, h1, h2, h3⟩ hS hw; exact ⟨v3, rfl, h0, h1, h2, h3.carry hS hw⟩
instance : Bulk PNode := ⟨fun x => Bulk.bulk x.kind + Bulk.bulk x.n + Bulk.bulk x.s + Bulk.bulk x.kids + 1, fun _ => by omega⟩

structure Pat where
 nodes : List PNode
 deriving DecidableEq, Inhabited

def Pat.rep (S : Nat → Prop) (w : World) (cs : List Value) (x : Pat) : Prop := ∃ v0, cs = [v0] ∧ RepSl S w v0 x.nodes
instance : Rep Pat where
 n := 1
 rep := Pat.rep
 len := by rintro _ _ _ _ ⟨v0, rfl, _⟩; rfl
 carry := by rintro _ _ _ _ _ _ ⟨v0, rfl, h0⟩ hS hw; exact ⟨v0, rfl, h0.carry hS hw⟩
instance : Bulk Pat := ⟨fun x => Bulk.bulk x.nodes + 1, fun _ => by omega⟩

theorem readsPNode : ReadsAs 198 PNode := ⟨by kernel_rfl, fun {H enc w fuel cs x} h => by
 obtain ⟨xs, m, _, rfl, hlen, hxs, hf⟩ := DataW.trod_struct Tryz.underlying198 h
 have hn : Tryz.prog.cellsOf 198 = 4 := by kernel_rfl
 rw [hn] at hlen
 obtain ⟨c0, t0, rfl, l0⟩ := list_succ hlen
 obtain ⟨c1, t1, rfl, l1⟩ := list_succ l0
 obtain ⟨c2, t2, rfl, l2⟩ := list_succ l1
 obtain ⟨c3, t3, rfl, l3⟩ := list_succ l2
 obtain rfl := list_zero l3
 obtain ⟨y0, s0, rfl, n0⟩ := list_succ (n := 3) hxs
 obtain ⟨y1, s1, rfl, n1⟩ := list_succ (n := 2) n0
 obtain ⟨y2, s2, rfl, n2⟩ := list_succ (n := 1) n1
 obtain ⟨y3, s3, rfl, n3⟩ := list_succ (n := 0) n2
 obtain rfl := list_zero n3
 obtain ⟨z0, e0, b0⟩ := readsInt.get (cs := [c0]) (x := y0) (by have := hf 0 _ rfl; simpa [readsInt.n, Rep.n] using this)
 obtain ⟨z1, e1, b1⟩ := readsInt.get (cs := [c1]) (x := y1) (by have := hf 1 _ rfl; simpa [readsInt.n, Rep.n] using this)
 obtain ⟨z2, e2, b2⟩ := readsStr.get (cs := [c2]) (x := y2) (by have := hf 2 _ rfl; simpa [readsStr.n, Rep.n] using this)
 obtain ⟨z3, e3, b3⟩ := readsIntS.get (cs := [c3]) (x := y3) (by have := hf 3 _ rfl; simpa [readsIntS.n, Rep.n] using this)
 obtain ⟨q0, g0⟩ := e0; simp only [List.cons.injEq, and_true] at q0; subst q0
 obtain ⟨q1, g1⟩ := e1; simp only [List.cons.injEq, and_true] at q1; subst q1
 obtain ⟨q2, g2⟩ := e2; simp only [List.cons.injEq, and_true] at q2; subst q2
 obtain ⟨v3, q3, g3⟩ := e3; simp only [List.cons.injEq, and_true] at q3; subst q3
 exact ⟨⟨z0, z1, z2, z3⟩, ⟨c3, rfl, g0, g1, g2, g3⟩, by simp only [Bulk.bulk, Rows.uptoBulk, Rows.uptoBulkAll, List.map_cons, List.map_nil] at b0 b1 b2 b3 ⊢; omega⟩⟩

theorem readsPNodeS : ReadsAs 174 (List PNode) := readsSlice readsPNode Tryz.underlying174 (by kernel_rfl) (by simp [Rep.n])

theorem readsPat : ReadsAs 176 Pat := ⟨by kernel_rfl, fun {H enc w fuel cs x} h => by
 obtain ⟨xs, m, _, rfl, hlen, hxs, hf⟩ := DataW.trod_struct Tryz.underlying176 h
 have hn : Tryz.prog.cellsOf 176 = 1 := by kernel_rfl
 rw [hn] at hlen
 obtain ⟨c0, t0, rfl, l0⟩ := list_succ hlen
 obtain rfl := list_zero l0
 obtain ⟨y0, s0, rfl, n0⟩ := list_succ (n := 0) hxs
 obtain rfl := list_zero n0
 obtain ⟨z0, e0, b0⟩ := readsPNodeS.get (cs := [c0]) (x := y0) (by have := hf 0 _ rfl; simpa [readsPNodeS.n, Rep.n] using this)
 obtain ⟨v0, q0, g0⟩ := e0; simp only [List.cons.injEq, and_true] at q0; subst q0
 exact ⟨⟨z0⟩, ⟨c0, rfl, g0⟩, by simp only [Bulk.bulk, Rows.uptoBulk, Rows.uptoBulkAll, List.map_cons, List.map_nil] at b0 ⊢; omega⟩⟩

end Go.Proofs.YtjifpdcflankpaaGreat

namespace Go.Proofs.YtjifpdcflankpaaGreat
open Go.RowKit Go.Proofs.YtjifpdcflankpaaGreat.Ml

theorem readsPatS : ReadsAs 69 (List Pat) := readsSlice readsPat Tryz.underlying69 (by kernel_rfl) (by simp [Rep.n])

end Go.Proofs.YtjifpdcflankpaaGreat

namespace Go.Proofs.YtjifpdcflankpaaGreat
open Go.RowKit Go.Proofs.YtjifpdcflankpaaGreat.Ml

structure Con where
 name : ByteArray
 has : Bool
 arg : Ty
 deriving DecidableEq, Inhabited

def Con.rep (S : Nat → Prop) (w : World) (cs : List Value) (x : Con) : Prop := ∃ v2, cs = [Value.string x.name, Value.bool x.has, v2] ∧ x.name.size ≤ maxLen ∧ RepSl S w v2 x.arg.items
instance : Rep Con where
 n := 3
 rep := Con.rep
 len := by rintro _ _ _ _ ⟨v2, rfl, _⟩; rfl
 carry := by rintro _ _ _ _ _ _ ⟨v2, rfl, h0, h1⟩ hS hw; exact ⟨v2, rfl, h0, h1.carry hS hw⟩
instance : Bulk Con := ⟨fun x => Bulk.bulk x.name + Bulk.bulk x.has + Bulk.bulk x.arg + 1, fun _ => by omega⟩

structure TypeD where
 name : ByteArray
 params : Int
 cons : List Con
 deriving DecidableEq, Inhabited

def TypeD.rep (S : Nat → Prop) (w : World) (cs : List Value) (x : TypeD) : Prop := ∃ v2, cs = [Value.string x.name, Value.int .i64 x.params, v2] ∧ x.name.size ≤ maxLen ∧ (-9223372036854775808 ≤ x.params ∧ x.params ≤ 9223372036854775807) ∧ RepSl S w v2 x.cons
instance : Rep TypeD where
 n := 3
 rep := TypeD.rep
 len := by rintro _ _ _ _ ⟨v2, rfl, _⟩; rfl
 carry := by rintro _ _ _ _ _ _ ⟨v2, rfl, h0, h1, h2⟩ hS hw; exact ⟨v2, rfl, h0, h1, h2.carry hS hw⟩
instance : Bulk TypeD := ⟨fun x => Bulk.bulk x.name + Bulk.bulk x.params + Bulk.bulk x.cons + 1, fun _ => by omega⟩

structure Node where
 kind : Int
 pos : Int
 n : Int
 s : ByteArray
 kids : List Int
 pats : List Pat
 deriving DecidableEq, Inhabited

def Node.rep (S : Nat → Prop) (w : World) (cs : List Value) (x : Node) : Prop := ∃ v4 v5, cs = [Value.int .i64 x.kind, Value.int .i64 x.pos, Value.int .i64 x.n, Value.string x.s, v4, v5] ∧ (-9223372036854775808 ≤ x.kind ∧ x.kind ≤ 9223372036854775807) ∧ (-9223372036854775808 ≤ x.pos ∧ x.pos ≤ 9223372036854775807) ∧ (-9223372036854775808 ≤ x.n ∧ x.n ≤ 9223372036854775807) ∧ x.s.size ≤ maxLen ∧ RepSl S w v4 x.kids ∧ RepSl S w v5 x.pats
instance : Rep Node where
 n := 6
 rep := Node.rep
 len := by rintro _ _ _ _ ⟨v4, v5, rfl, _⟩; rfl
 carry := by rintro _ _ _ _ _ _ ⟨v4, v5, rfl, h0, h1, h2, h3, h4, h5⟩ hS hw; exact ⟨v4, v5, rfl, h0, h1, h2, h3, h4.carry hS hw, h5.carry hS hw⟩
instance : Bulk Node := ⟨fun x => Bulk.bulk x.kind + Bulk.bulk x.pos + Bulk.bulk x.n + Bulk.bulk x.s + Bulk.bulk x.kids + Bulk.bulk x.pats + 1, fun _ => by omega⟩

structure Program where
 types : List TypeD
 nodes : List Node
 deriving DecidableEq, Inhabited

def Program.rep (S : Nat → Prop) (w : World) (cs : List Value) (x : Program) : Prop := ∃ v0 v1, cs = [v0, v1] ∧ RepSl S w v0 x.types ∧ RepSl S w v1 x.nodes
instance : Rep Program where
 n := 2
 rep := Program.rep
 len := by rintro _ _ _ _ ⟨v0, v1, rfl, _⟩; rfl
 carry := by rintro _ _ _ _ _ _ ⟨v0, v1, rfl, h0, h1⟩ hS hw; exact ⟨v0, v1, rfl, h0.carry hS hw, h1.carry hS hw⟩
instance : Bulk Program := ⟨fun x => Bulk.bulk x.types + Bulk.bulk x.nodes + 1, fun _ => by omega⟩

theorem readsCon : ReadsAs 172 Con := ⟨by kernel_rfl, fun {H enc w fuel cs x} h => by
 obtain ⟨xs, m, _, rfl, hlen, hxs, hf⟩ := DataW.trod_struct Tryz.underlying172 h
 have hn : Tryz.prog.cellsOf 172 = 3 := by kernel_rfl
 rw [hn] at hlen
 obtain ⟨c0, t0, rfl, l0⟩ := list_succ hlen
 obtain ⟨c1, t1, rfl, l1⟩ := list_succ l0
 obtain ⟨c2, t2, rfl, l2⟩ := list_succ l1
 obtain rfl := list_zero l2
 obtain ⟨y0, s0, rfl, n0⟩ := list_succ (n := 2) hxs
 obtain ⟨y1, s1, rfl, n1⟩ := list_succ (n := 1) n0
 obtain ⟨y2, s2, rfl, n2⟩ := list_succ (n := 0) n1
 obtain rfl := list_zero n2
 obtain ⟨z0, e0, b0⟩ := readsStr.get (cs := [c0]) (x := y0) (by have := hf 0 _ rfl; simpa [readsStr.n, Rep.n] using this)
 obtain ⟨z1, e1, b1⟩ := readsBool.get (cs := [c1]) (x := y1) (by have := hf 1 _ rfl; simpa [readsBool.n, Rep.n] using this)
 obtain ⟨z2, e2, b2⟩ := readsTy.get (cs := [c2]) (x := y2) (by have := hf 2 _ rfl; simpa [readsTy.n, Rep.n] using this)
 obtain ⟨q0, g0⟩ := e0; simp only [List.cons.injEq, and_true] at q0; subst q0
 have q1 := e1; simp only [Rep.rep, List.cons.injEq, and_true] at q1; subst q1
 obtain ⟨v2_0, q2, r2_0⟩ := e2
 simp only [List.cons.injEq, and_true] at q2; subst q2
 exact ⟨⟨z0, z1, z2⟩, ⟨c2, rfl, g0, r2_0⟩, by simp only [Bulk.bulk, Rows.uptoBulk, Rows.uptoBulkAll, List.map_cons, List.map_nil] at b0 b1 b2 ⊢; omega⟩⟩

theorem readsConS : ReadsAs 65 (List Con) := readsSlice readsCon Tryz.underlying65 (by kernel_rfl) (by simp [Rep.n])

theorem readsType : ReadsAs 67 TypeD := ⟨by kernel_rfl, fun {H enc w fuel cs x} h => by
 obtain ⟨xs, m, _, rfl, hlen, hxs, hf⟩ := DataW.trod_struct Tryz.underlying67 h
 have hn : Tryz.prog.cellsOf 67 = 3 := by kernel_rfl
 rw [hn] at hlen
 obtain ⟨c0, t0, rfl, l0⟩ := list_succ hlen
 obtain ⟨c1, t1, rfl, l1⟩ := list_succ l0
 obtain ⟨c2, t2, rfl, l2⟩ := list_succ l1
 obtain rfl := list_zero l2
 obtain ⟨y0, s0, rfl, n0⟩ := list_succ (n := 2) hxs
 obtain ⟨y1, s1, rfl, n1⟩ := list_succ (n := 1) n0
 obtain ⟨y2, s2, rfl, n2⟩ := list_succ (n := 0) n1
 obtain rfl := list_zero n2
 obtain ⟨z0, e0, b0⟩ := readsStr.get (cs := [c0]) (x := y0) (by have := hf 0 _ rfl; simpa [readsStr.n, Rep.n] using this)
 obtain ⟨z1, e1, b1⟩ := readsInt.get (cs := [c1]) (x := y1) (by have := hf 1 _ rfl; simpa [readsInt.n, Rep.n] using this)
 obtain ⟨z2, e2, b2⟩ := readsConS.get (cs := [c2]) (x := y2) (by have := hf 2 _ rfl; simpa [readsConS.n, Rep.n] using this)
 obtain ⟨q0, g0⟩ := e0; simp only [List.cons.injEq, and_true] at q0; subst q0
 obtain ⟨q1, g1⟩ := e1; simp only [List.cons.injEq, and_true] at q1; subst q1
 obtain ⟨v2, q2, g2⟩ := e2; simp only [List.cons.injEq, and_true] at q2; subst q2
 exact ⟨⟨z0, z1, z2⟩, ⟨c2, rfl, g0, g1, g2⟩, by simp only [Bulk.bulk, Rows.uptoBulk, Rows.uptoBulkAll, List.map_cons, List.map_nil] at b0 b1 b2 ⊢; omega⟩⟩

theorem readsNode : ReadsAs 71 Node := ⟨by kernel_rfl, fun {H enc w fuel cs x} h => by
 obtain ⟨xs, m, _, rfl, hlen, hxs, hf⟩ := DataW.trod_struct Tryz.underlying71 h
 have hn : Tryz.prog.cellsOf 71 = 6 := by kernel_rfl
 rw [hn] at hlen
 obtain ⟨c0, t0, rfl, l0⟩ := list_succ hlen
 obtain ⟨c1, t1, rfl, l1⟩ := list_succ l0
 obtain ⟨c2, t2, rfl, l2⟩ := list_succ l1
 obtain ⟨c3, t3, rfl, l3⟩ := list_succ l2
 obtain ⟨c4, t4, rfl, l4⟩ := list_succ l3
 obtain ⟨c5, t5, rfl, l5⟩ := list_succ l4
 obtain rfl := list_zero l5
 obtain ⟨y0, s0, rfl, n0⟩ := list_succ (n := 5) hxs
 obtain ⟨y1, s1, rfl, n1⟩ := list_succ (n := 4) n0
 obtain ⟨y2, s2, rfl, n2⟩ := list_succ (n := 3) n1
 obtain ⟨y3, s3, rfl, n3⟩ := list_succ (n := 2) n2
 obtain ⟨y4, s4, rfl, n4⟩ := list_succ (n := 1) n3
 obtain ⟨y5, s5, rfl, n5⟩ := list_succ (n := 0) n4
 obtain rfl := list_zero n5
 obtain ⟨z0, e0, b0⟩ := readsInt.get (cs := [c0]) (x := y0) (by have := hf 0 _ rfl; simpa [readsInt.n, Rep.n] using this)
 obtain ⟨z1, e1, b1⟩ := readsInt.get (cs := [c1]) (x := y1) (by have := hf 1 _ rfl; simpa [readsInt.n, Rep.n] using this)
 obtain ⟨z2, e2, b2⟩ := readsInt.get (cs := [c2]) (x := y2) (by have := hf 2 _ rfl; simpa [readsInt.n, Rep.n] using this)
 obtain ⟨z3, e3, b3⟩ := readsStr.get (cs := [c3]) (x := y3) (by have := hf 3 _ rfl; simpa [readsStr.n, Rep.n] using this)
 obtain ⟨z4, e4, b4⟩ := readsIntS.get (cs := [c4]) (x := y4) (by have := hf 4 _ rfl; simpa [readsIntS.n, Rep.n] using this)
 obtain ⟨z5, e5, b5⟩ := readsPatS.get (cs := [c5]) (x := y5) (by have := hf 5 _ rfl; simpa [readsPatS.n, Rep.n] using this)
 obtain ⟨q0, g0⟩ := e0; simp only [List.cons.injEq, and_true] at q0; subst q0
 obtain ⟨q1, g1⟩ := e1; simp only [List.cons.injEq, and_true] at q1; subst q1
 obtain ⟨q2, g2⟩ := e2; simp only [List.cons.injEq, and_true] at q2; subst q2
 obtain ⟨q3, g3⟩ := e3; simp only [List.cons.injEq, and_true] at q3; subst q3
 obtain ⟨v4, q4, g4⟩ := e4; simp only [List.cons.injEq, and_true] at q4; subst q4
 obtain ⟨v5, q5, g5⟩ := e5; simp only [List.cons.injEq, and_true] at q5; subst q5
 exact ⟨⟨z0, z1, z2, z3, z4, z5⟩, ⟨c4, c5, rfl, g0, g1, g2, g3, g4, g5⟩, by simp only [Bulk.bulk, Rows.uptoBulk, Rows.uptoBulkAll, List.map_cons, List.map_nil] at b0 b1 b2 b3 b4 b5 ⊢; omega⟩⟩

theorem readsTypeS : ReadsAs 22 (List TypeD) := readsSlice readsType Tryz.underlying22 (by kernel_rfl) (by simp [Rep.n])

theorem readsNodeS : ReadsAs 23 (List Node) := readsSlice readsNode Tryz.underlying23 (by kernel_rfl) (by simp [Rep.n])

theorem readsProgram : ReadsAs 25 Program := ⟨by kernel_rfl, fun {H enc w fuel cs x} h => by
 obtain ⟨xs, m, _, rfl, hlen, hxs, hf⟩ := DataW.trod_struct Tryz.underlying25 h
 have hn : Tryz.prog.cellsOf 25 = 2 := by kernel_rfl
 rw [hn] at hlen
 obtain ⟨c0, t0, rfl, l0⟩ := list_succ hlen
 obtain ⟨c1, t1, rfl, l1⟩ := list_succ l0
 obtain rfl := list_zero l1
 obtain ⟨y0, s0, rfl, n0⟩ := list_succ (n := 1) hxs
 obtain ⟨y1, s1, rfl, n1⟩ := list_succ (n := 0) n0
 obtain rfl := list_zero n1
 obtain ⟨z0, e0, b0⟩ := readsTypeS.get (cs := [c0]) (x := y0) (by have := hf 0 _ rfl; simpa [readsTypeS.n, Rep.n] using this)
 obtain ⟨z1, e1, b1⟩ := readsNodeS.get (cs := [c1]) (x := y1) (by have := hf 1 _ rfl; simpa [readsNodeS.n, Rep.n] using this)
 obtain ⟨v0, q0, g0⟩ := e0; simp only [List.cons.injEq, and_true] at q0; subst q0
 obtain ⟨v1, q1, g1⟩ := e1; simp only [List.cons.injEq, and_true] at q1; subst q1
 exact ⟨⟨z0, z1⟩, ⟨c0, c1, rfl, g0, g1⟩, by simp only [Bulk.bulk, Rows.uptoBulk, Rows.uptoBulkAll, List.map_cons, List.map_nil] at b0 b1 ⊢; omega⟩⟩

end Go.Proofs.YtjifpdcflankpaaGreat
