/-
 PLAIN DATA AS ABSTRACT VALUES. Conditions: none.
-/
import Derived.Test.YteeiaaogmjbcjaaGreatUAvSimp
import Derived.WalkKit
import Derived.WalkSpells
import Derived.WalkLawsBesides
import Derived.ProofKit
import Derived.Lib.Hide
import Derived.Deep.QuietTactic
import Derived.BigQuiet
import Derived.Deep.LoopGhost
import Derived.Deep.OwnRows
import Derived.Deep.DeepFit
set_option linter.unusedVariables false
namespace Go.Proofs.YteeiaaogmjbcjaaGreat.Av
open Go.RowKit

class AVal (α : Type) where
 av : α → AV
 n : Nat
 ok : ∀ x, (av x).ok = true
 len : ∀ x, (av x).cells.length = n
 pure : ∀ x, ∀ y ∈ (av x).cells, Ap y
 nop : ∀ x hp, (av x).pur hp = av x
 AcE : ∀ x, ∀ y ∈ (av x).cells, y.one = true
open AVal (av)
theorem AVal.clean {α : Type} [AVal α] (x : α) : Ap (av x) := by
 have h := AVal.pure x
 have hk := AVal.ok x
 cases hx : (av x) with
 | agg cs => rw [hx] at h; exact Ap.agg h
 | _ => rw [hx] at h hk; first | exact h _ (by simp [AV.cells]) | (simp [AV.ok, AV.one, AV.isAgg] at hk)
instance : AVal Int := ⟨fun x => .int .i64 x, 1, fun _ => rfl, fun _ => rfl, fun x y hy => by simp [AV.cells] at hy; subst hy; exact Ap.int _ _, fun _ _ => rfl, fun x y hy => by simp [AV.cells] at hy; subst hy; rfl⟩
instance : AVal Bool := ⟨fun x => .bool x, 1, fun _ => rfl, fun _ => rfl, fun x y hy => by simp [AV.cells] at hy; subst hy; exact Ap.bool _, fun _ _ => rfl, fun x y hy => by simp [AV.cells] at hy; subst hy; rfl⟩
instance : AVal ByteArray := ⟨fun x => .str x, 1, fun _ => rfl, fun _ => rfl, fun x y hy => by simp [AV.cells] at hy; subst hy; exact Ap.str _, fun _ _ => rfl, fun x y hy => by simp [AV.cells] at hy; subst hy; rfl⟩
instance : AVal UInt8 := ⟨fun x => .int .u8 x.toNat, 1, fun _ => rfl, fun _ => rfl, fun x y hy => by simp [AV.cells] at hy; subst hy; exact Ap.int _ _, fun _ _ => rfl, fun x y hy => by simp [AV.cells] at hy; subst hy; rfl⟩
def lav {α : Type} [AVal α] (l : List α) : AV := .sl (l.map av)
theorem AD {α : Type} [AVal α] (l : List α) : Ap (lav l) := Ap.sl fun e he y hy => by
 obtain ⟨x, _, rfl⟩ := List.mem_map.1 he
 exact AVal.pure x y hy
instance {α : Type} [AVal α] : AVal (List α) := ⟨lav, 1, fun _ => rfl, fun _ => rfl, fun x y hy => by simp [AV.cells, lav] at hy; subst hy; exact AD x, fun _ _ => rfl, fun x y hy => by simp [AV.cells, lav] at hy; subst hy; rfl⟩
theorem Ae (x : Int) : av x = .int .i64 x := eqq rfl
theorem EU (x : ByteArray) : av x = .str x := eqq rfl
theorem Xg (x : UInt8) : av x = .int .u8 x.toNat := eqq rfl
theorem Ab {α : Type} [AVal α] (l : List α) (hp : Hp) : (l.map av).map (AV.pur hp) = l.map av := by
 rw [List.map_map]; apply List.map_congr_left; intro x _; exact AVal.nop x hp
theorem getD_map {α β : Type} (f : α → β) (l : List α) (i : Nat) (d : β) (h : i < l.length) : (l.map f).getD i d = f l[i] := by
 simp [List.getD_eq_getElem?_getD, h]
theorem Aa {α β : Type} (f : α → β) (l : List α) : (l.map f).length = l.length := List.length_map _
theorem Jb {α : Type} {l : List α} (p : α → Bool) {k : Nat} (hlt : k < l.length) (h : (l.take k).all p = true) : (l.take (k + 1)).all p = p l[k] := by
 rw [List.take_succ_eq_append_getElem hlt, List.all_append, h]; simp
end Go.Proofs.YteeiaaogmjbcjaaGreat.Av
namespace Go.Proofs.YteeiaaogmjbcjaaGreat.Ml
open Go.RowKit

def BD (S : Nat → Prop) (w w' : World) : Prop := ∀ b, S b → w'.heap[b]? = w.heap[b]?

theorem BD.refl (S : Nat → Prop) (w : World) : BD S w w := fun _ _ => rfl
theorem BD.trans {S : Nat → Prop} {a b c : World} (h : BD S a b) (k : BD S b c) : BD S a c := fun x hx => (k x hx).trans (h x hx)
theorem BD.mono {S S' : Nat → Prop} {w w' : World} (h : BD S' w w') (hS : ∀ b, S b → S' b) : BD S w w' := fun b hb => h b (hS b hb)
theorem BD.cell {S : Nat → Prop} {w w' : World} (h : BD S w w') {b o : Nat} (hb : S b) : w'.cell? ⟨b, o, none⟩ = w.cell? ⟨b, o, none⟩ := World.cell?_of_block (w := w) (h b hb)
class Rep (α : Type) where
 n : Nat
 rep : (Nat → Prop) → World → List Value → α → Prop
 len : ∀ {S w cs x}, rep S w cs x → cs.length = n
 carry : ∀ {S S' : Nat → Prop} {w w' cs x}, rep S w cs x → (∀ b, S b → S' b) → BD S w w' → rep S' w' cs x

instance : Rep Int where
 n := 1
 rep _ _ cs x := cs = [.int .i64 x] ∧ -9223372036854775808 ≤ x ∧ x ≤ 9223372036854775807
 len := by rintro _ _ _ _ ⟨rfl, _⟩; rfl
 carry h _ _ := h

instance : Rep Bool where
 n := 1
 rep _ _ cs x := cs = [.bool x]
 len := by rintro _ _ _ _ rfl; rfl
 carry h _ _ := h

instance : Rep UInt8 where
 n := 1
 rep _ _ cs x := cs = [.int .u8 x.toNat]
 len := by rintro _ _ _ _ rfl; rfl
 carry h _ _ := h

instance : Rep ByteArray where
 n := 1
 rep _ _ cs x := cs = [.string x] ∧ x.size ≤ maxLen
 len := by rintro _ _ _ _ ⟨rfl, _⟩; rfl
 carry h _ _ := h

instance {α β : Type} [Rep α] [Rep β] : Rep (α × β) where
 n := Rep.n α + Rep.n β
 rep S w cs x := ∃ c1 c2, cs = c1 ++ c2 ∧ Rep.rep S w c1 x.1 ∧ Rep.rep S w c2 x.2
 len := by rintro _ _ _ _ ⟨_, _, rfl, h1, h2⟩; simp [Rep.len h1, Rep.len h2]
 carry := by rintro _ _ _ _ _ _ ⟨_, _, rfl, h1, h2⟩ hS hw; exact ⟨_, _, rfl, Rep.carry h1 hS hw, Rep.carry h2 hS hw⟩

def At (w : World) (b o : Nat) (cs : List Value) : Prop := ∀ j u, cs[j]? = some u → w.cell? ⟨b, o + j, none⟩ = some u

theorem At.same {S : Nat → Prop} {w w' : World} {b o : Nat} {cs : List Value} (h : At w b o cs) (hw : BD S w w') (hb : S b) : At w' b o cs :=
 fun j u hu => (hw.cell hb).trans (h j u hu)

def JT {α : Type} [Rep α] (S : Nat → Prop) (w : World) (b o : Nat) (l : List α) : Prop :=
 ∀ i x, l[i]? = some x → ∃ cs, At w b (o + i * Rep.n α) cs ∧ Rep.rep S w cs x

def DI {α : Type} [Rep α] (S : Nat → Prop) (w : World) (v : Value) (l : List α) : Prop :=
 ∃ a cap, v = .slice a l.length cap ∧ l.length ≤ cap ∧ cap ≤ maxLen ∧ (l = [] ∨ ∃ b o, a = some ⟨b, o, none⟩ ∧ S b ∧ JT S w b o l)

theorem JT.carry {α : Type} [Rep α] {S S' : Nat → Prop} {w w' : World} {b o : Nat} {l : List α} (h : JT S w b o l) (hb : S b) (hS : ∀ b, S b → S' b) (hw : BD S w w') : JT S' w' b o l :=
 fun i x hx => let ⟨cs, h1, h2⟩ := h i x hx; ⟨cs, h1.same hw hb, Rep.carry h2 hS hw⟩

theorem DI.carry {α : Type} [Rep α] {S S' : Nat → Prop} {w w' : World} {v : Value} {l : List α} (h : DI S w v l) (hS : ∀ b, S b → S' b) (hw : BD S w w') : DI S' w' v l := by
 obtain ⟨a, cap, rfl, h1, h2, h3⟩ := h
 refine ⟨a, cap, rfl, h1, h2, ?_⟩
 rcases h3 with h3 | ⟨b, o, rfl, hb, hr⟩
 ·exact .inl h3
 ·exact .inr ⟨b, o, rfl, hS b hb, hr.carry hb hS hw⟩

instance {α : Type} [Rep α] : Rep (List α) where
 n := 1
 rep S w cs x := ∃ v, cs = [v] ∧ DI S w v x
 len := by rintro _ _ _ _ ⟨_, rfl, _⟩; rfl
 carry := by rintro _ _ _ _ _ _ ⟨v, rfl, h⟩ hS hw; exact ⟨v, rfl, h.carry hS hw⟩

theorem DI.cap {α : Type} [Rep α] {S : Nat → Prop} {w : World} {a : Option Addr} {n c : Nat} {l : List α} (h : DI S w (.slice a n c) l) : l.length ≤ c ∧ c ≤ 9223372036854775807 := by
 obtain ⟨a', cap, he, h1, h2, h3⟩ := h
 simp at he
 unfold maxLen at h2
 omega

theorem JT.get {α : Type} [Rep α] {S : Nat → Prop} {w : World} {b o : Nat} {l : List α} (h : JT S w b o l) {i : Nat} (hi : i < l.length) : ∃ cs, At w b (o + i * Rep.n α) cs ∧ Rep.rep S w cs l[i] := h i _ (List.getElem?_eq_getElem hi)

theorem AcZ {a b : ByteArray} (h : a = b) : (a.toList == b.toList) = true := by subst h; simp
theorem bytes_inj {a b : ByteArray} (h : a.toList = b.toList) : a = b := by
 rw [ByteArray.toList_eq, ByteArray.toList_eq] at h
 exact ByteArray.ext (Array.toList_inj.1 h)
theorem Ac0 {a b : ByteArray} (h : ¬ a = b) : (a.toList == b.toList) = false :=
 beq_eq_false_iff_ne.2 fun e => h (bytes_inj e)
theorem AaK (a b : ByteArray) : (a.toList == b.toList) = decide (a = b) := by
 by_cases h : a = b
 ·rw [AcZ h]; simp [h]
 ·rw [Ac0 h]; simp [h]

def Blk (w : World) (b : Nat) (e : TypeId) (cs : List Value) : Prop := w.heap[b]? = some (.cells cs.toArray e (0, 0))

theorem Blk.cell {w : World} {b : Nat} {e : TypeId} {cs : List Value} (h : Blk w b e cs) {j : Nat} {u : Value} (hu : cs[j]? = some u) : w.cell? ⟨b, j, none⟩ = some u := by
 simp only [World.cell?, show w.heap[b]? = _ from h]
 simpa using hu
theorem Blk.cells {w : World} {b : Nat} {e : TypeId} {cs : List Value} (h : Blk w b e cs) : ∀ j, w.cell? ⟨b, j, none⟩ = cs[j]? := fun j => by
 simp only [World.cell?, show w.heap[b]? = _ from h]
 simp
theorem Blk.lt {w : World} {b : Nat} {e : TypeId} {cs : List Value} (h : Blk w b e cs) : b < w.heap.size := (Array.getElem?_eq_some_iff.1 h).1
theorem Blk.same {w w' : World} {b : Nat} {e : TypeId} {cs : List Value} (h : Blk w b e cs) (hs : w'.heap[b]? = w.heap[b]?) : Blk w' b e cs := hs.trans h
theorem Blk.set {w : World} {b : Nat} {e : TypeId} {cs : List Value} (h : Blk w b e cs) (j : Nat) (v : Value) : Blk (w.setCell ⟨b, j, none⟩ v) b e (cs.set j v) := by
 have h' : w.heap[b]? = some (.cells cs.toArray e (0, 0)) := h
 simp only [Blk, World.setCell, Array.getElem?_modify, if_true, h']
 simp
theorem Blk.alloc {w : World} {b : Nat} {e : TypeId} {cs : List Value} (h : Blk w b e cs) (o : Obj) : Blk (w.alloc o) b e cs := h.same (Below.heap_alloc w o b h.lt)
theorem Blk.new (w : World) (e : TypeId) (cs : Array Value) : Blk (w.alloc (.cells cs e)) w.heap.size e cs.toList := by
 show (w.heap.push _)[w.heap.size]? = _
 simp
theorem Blk.row {α : Type} [Rep α] {S : Nat → Prop} {w : World} {b : Nat} {e : TypeId} {cs : List Value} {l : List α} (h : Blk w b e cs)
  (hr : ∀ i x, l[i]? = some x → ∃ c, (∀ j u, c[j]? = some u → cs[i * Rep.n α + j]? = some u) ∧ Rep.rep S w c x) : JT S w b 0 l := by
 intro i x hx
 obtain ⟨c, h1, h2⟩ := hr i x hx
 exact ⟨c, fun j u hu => by rw [Nat.zero_add]; exact h.cell (h1 j u hu), h2⟩

def Rd {α : Type} [Rep α] (w : World) (v : Value) (l : List α) : Prop := DI (fun b => b < w.heap.size) w v l
theorem Rd.on {α : Type} [Rep α] {w w' : World} {v : Value} {l : List α} (h : Rd w v l) (hb : Below w.heap.size w w') : Rd w' v l :=
 DI.carry h (fun _ hb' => Nat.lt_of_lt_of_le hb' hb.size) (fun b hb' => hb.block b hb')
theorem Rd.cap {α : Type} [Rep α] {w : World} {a : Option Addr} {n c : Nat} {l : List α} (h : Rd w (.slice a n c) l) : l.length ≤ c ∧ c ≤ 9223372036854775807 := DI.cap h
theorem Rd.nil {α : Type} [Rep α] (w : World) : Rd w (.slice none 0 0) ([] : List α) := ⟨none, 0, rfl, Nat.le_refl _, Nat.zero_le _, .inl rfl⟩
end Go.Proofs.YteeiaaogmjbcjaaGreat.Ml
