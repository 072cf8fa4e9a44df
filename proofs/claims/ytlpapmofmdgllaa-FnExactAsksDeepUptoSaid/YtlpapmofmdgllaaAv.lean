/-
  ABSTRACT VALUES: what a Go value reads as, told without memory; and how a value of the model stands for one. Conditions: none; a library of definitions and small lemmas.
-/
import Derived.WalkKit
import Derived.ProofKit
import Derived.Below
import Derived.Laws.AppendOwn
namespace Go.Proofs.Ytlpapmofmdgllaa.Av
open Go.RowKit

/-- an abstract value -/
inductive AV where
  | bool (b : Bool)
  | int (k : IntKind) (n : Int)
  | str (s : ByteArray)
  | agg (cs : List AV)
  | tup (cs : List AV)
  | nilp
  | obj (cs : List AV)
  | sl (es : List AV)
  | nils
  | fn (f : FuncId) (caps : List AV)
  | nilf
  | ptr (k v i off : Nat)
  | row (k v n : Nat)
  | top
  deriving Inhabited

def AV.cells : AV → List AV
  | .agg cs => cs
  | x => [x]
/-- the value of one cell -/
def AV.one : AV → Bool
  | .agg _ | .tup _ | .top => false
  | _ => true
def AV.isAgg : AV → Bool
  | .agg _ => true
  | _ => false

/-- where an own row lies: its block (none: it is nil), its capacity, the cells of an element -/
structure Bk where
  blk : Option Nat
  cap : Nat
  esz : Nat
abbrev Mu := Nat → Nat → Option Bk

/-- the value v of the model stands for the abstract value x: through blocks in S; own rows lie where μ says -/
inductive VR (S : Nat → Prop) (w : World) (μ : Mu) : Value → AV → Prop where
  | bool (b : Bool) : VR S w μ (.bool b) (.bool b)
  | int (k : IntKind) (n : Int) (h1 : k.min ≤ n) (h2 : n ≤ k.max) : VR S w μ (.int k n) (.int k n)
  | str (s : ByteArray) (h : s.size ≤ maxLen) : VR S w μ (.string s) (.str s)
  | agg (cs : Array Value) (xs : List AV) (hl : cs.size = xs.length) (h1 : ∀ x ∈ xs, x.one = true)
      (h : ∀ (i : Nat) (v : Value) (x : AV), cs[i]? = some v → xs[i]? = some x → VR S w μ v x) : VR S w μ (.agg cs) (.agg xs)
  | tup (cs : Array Value) (xs : List AV) (hl : cs.size = xs.length)
      (h : ∀ (i : Nat) (v : Value) (x : AV), cs[i]? = some v → xs[i]? = some x → VR S w μ v x) : VR S w μ (.tuple cs) (.tup xs)
  | nilp : VR S w μ (.pointer none) .nilp
  | obj (b o : Nat) (vs : Nat → Value) (xs : List AV) (hS : S b) (h1 : ∀ x ∈ xs, x.one = true)
      (hc : ∀ i, i < xs.length → w.cell? ⟨b, o + i, none⟩ = some (vs i))
      (h : ∀ (i : Nat) (x : AV), xs[i]? = some x → VR S w μ (vs i) x) : VR S w μ (.pointer (some ⟨b, o, none⟩)) (.obj xs)
  | sl0 (a : Option Addr) (cap : Nat) (hc : cap ≤ maxLen) : VR S w μ (.slice a 0 cap) (.sl [])
  | sl (b o cap esz : Nat) (vs : Nat → Nat → Value) (es : List AV) (hS : S b) (hl : es.length ≤ cap) (hm : cap ≤ maxLen)
      (hz : ∀ e ∈ es, e.cells.length = esz ∧ ∀ x ∈ e.cells, x.one = true)
      (hc : ∀ i j, i < es.length → j < esz → w.cell? ⟨b, o + i * esz + j, none⟩ = some (vs i j))
      (h : ∀ (i j : Nat) (e x : AV), es[i]? = some e → e.cells[j]? = some x → VR S w μ (vs i j) x) : VR S w μ (.slice (some ⟨b, o, none⟩) es.length cap) (.sl es)
  | nils : VR S w μ (.slice none 0 0) .nils
  | fn (f : FuncId) (cs : Array Value) (xs : List AV) (hl : cs.size = xs.length)
      (h : ∀ (i : Nat) (v : Value) (x : AV), cs[i]? = some v → xs[i]? = some x → VR S w μ v x) : VR S w μ (.func (.func f) #[] cs) (.fn f xs)
  | nilf : VR S w μ .nilFunc .nilf
  | ptr (k v i off b cap esz : Nat) (h : μ k v = some ⟨some b, cap, esz⟩) : VR S w μ (.pointer (some ⟨b, i * esz + off, none⟩)) (.ptr k v i off)
  | row (k v n b cap esz : Nat) (h : μ k v = some ⟨some b, cap, esz⟩) (hn : n ≤ cap) (hm : cap ≤ maxLen) : VR S w μ (.slice (some ⟨b, 0, none⟩) n cap) (.row k v n)
  | row0 (k v cap esz : Nat) (h : μ k v = some ⟨none, cap, esz⟩) : VR S w μ (.slice none 0 0) (.row k v 0)
  | top (v : Value) : VR S w μ v .top

/-- the blocks of S hold in w' what they held in w -/
def Same (S : Nat → Prop) (w w' : World) : Prop := ∀ b, S b → w'.heap[b]? = w.heap[b]?
theorem Same.refl (S : Nat → Prop) (w : World) : Same S w w := fun _ _ => rfl
theorem Same.trans {S : Nat → Prop} {a b c : World} (h : Same S a b) (k : Same S b c) : Same S a c := fun x hx => (k x hx).trans (h x hx)
theorem Same.mono {S S' : Nat → Prop} {w w' : World} (h : Same S' w w') (hS : ∀ b, S b → S' b) : Same S w w' := fun b hb => h b (hS b hb)
theorem Same.cell {S : Nat → Prop} {w w' : World} (h : Same S w w') {b o : Nat} (hb : S b) : w'.cell? ⟨b, o, none⟩ = w.cell? ⟨b, o, none⟩ := World.cell?_of_block (w := w) (h b hb)

def Mu.le (μ μ' : Mu) : Prop := ∀ k v b, μ k v = some b → μ' k v = some b
theorem Mu.le.refl (μ : Mu) : Mu.le μ μ := fun _ _ _ h => h
theorem Mu.le.trans {a b c : Mu} (h : Mu.le a b) (k : Mu.le b c) : Mu.le a c := fun x y z hx => k x y z (h x y z hx)
def mu0 : Mu := fun _ _ => none
theorem Mu.le.zero (μ : Mu) : Mu.le mu0 μ := fun _ _ _ h => by cases h

theorem VR.mono {S S' : Nat → Prop} {w w' : World} {μ μ' : Mu} {v : Value} {x : AV} (h : VR S w μ v x) (hS : ∀ b, S b → S' b) (hw : Same S w w') (hμ : Mu.le μ μ') : VR S' w' μ' v x := by
  induction h with
  | bool b => exact .bool b
  | int k n h1 h2 => exact .int k n h1 h2
  | str s h => exact .str s h
  | agg cs xs hl h1 _ ih => exact .agg cs xs hl h1 ih
  | tup cs xs hl _ ih => exact .tup cs xs hl ih
  | nilp => exact .nilp
  | obj b o vs xs hb h1 hc _ ih => exact .obj b o vs xs (hS b hb) h1 (fun i hi => (hw.cell hb).trans (hc i hi)) ih
  | sl0 a cap hc => exact .sl0 a cap hc
  | sl b o cap esz vs es hb hl hm hz hc _ ih => exact .sl b o cap esz vs es (hS b hb) hl hm hz (fun i j hi hj => (hw.cell hb).trans (hc i j hi hj)) ih
  | nils => exact .nils
  | fn f cs xs hl _ ih => exact .fn f cs xs hl ih
  | nilf => exact .nilf
  | ptr k v i off b cap esz h => exact .ptr k v i off b cap esz (hμ _ _ _ h)
  | row k v n b cap esz h hn hm => exact .row k v n b cap esz (hμ _ _ _ h) hn hm
  | row0 k v cap esz h => exact .row0 k v cap esz (hμ _ _ _ h)
  | top v => exact .top v

/-- no part of x speaks of an own row -/
def AvPure (x : AV) : Prop := ∀ S w μ v, VR S w μ v x → VR S w mu0 v x
theorem AvPure.bool (b : Bool) : AvPure (.bool b) := fun _ _ _ _ h => by cases h; exact .bool b
theorem AvPure.int (k : IntKind) (n : Int) : AvPure (.int k n) := fun _ _ _ _ h => by cases h with | int _ _ a b => exact .int k n a b
theorem AvPure.str (s : ByteArray) : AvPure (.str s) := fun _ _ _ _ h => by cases h with | str _ a => exact .str s a
theorem AvPure.nilp : AvPure .nilp := fun _ _ _ _ h => by cases h; exact .nilp
theorem AvPure.nils : AvPure .nils := fun _ _ _ _ h => by cases h; exact .nils
theorem AvPure.nilf : AvPure .nilf := fun _ _ _ _ h => by cases h; exact .nilf
theorem AvPure.top : AvPure .top := fun _ _ _ _ _ => .top _
theorem mem_of_get {α : Type} {l : List α} {i : Nat} {x : α} (h : l[i]? = some x) : x ∈ l := List.mem_of_getElem? h
theorem AvPure.agg {xs : List AV} (h : ∀ x ∈ xs, AvPure x) : AvPure (.agg xs) := fun _ _ _ _ hv => by
  cases hv with | agg cs _ hl h1 hh => exact .agg cs xs hl h1 fun i v x a b => h x (mem_of_get b) _ _ _ _ (hh i v x a b)
theorem AvPure.tup {xs : List AV} (h : ∀ x ∈ xs, AvPure x) : AvPure (.tup xs) := fun _ _ _ _ hv => by
  cases hv with | tup cs _ hl hh => exact .tup cs xs hl fun i v x a b => h x (mem_of_get b) _ _ _ _ (hh i v x a b)
theorem AvPure.obj {xs : List AV} (h : ∀ x ∈ xs, AvPure x) : AvPure (.obj xs) := fun _ _ _ _ hv => by
  cases hv with | obj b o vs _ hS h1 hc hh => exact .obj b o vs xs hS h1 hc fun i x a => h x (mem_of_get a) _ _ _ _ (hh i x a)
theorem AvPure.sl {es : List AV} (h : ∀ e ∈ es, ∀ x ∈ e.cells, AvPure x) : AvPure (.sl es) := fun _ _ _ _ hv => by
  cases hv with
  | sl0 a cap hc => exact .sl0 a cap hc
  | sl b o cap esz vs _ hS hl hm hz hc hh => exact .sl b o cap esz vs es hS hl hm hz hc fun i j e x a b => h e (mem_of_get a) x (mem_of_get b) _ _ _ _ (hh i j e x a b)
theorem AvPure.fn {f : FuncId} {xs : List AV} (h : ∀ x ∈ xs, AvPure x) : AvPure (.fn f xs) := fun _ _ _ _ hv => by
  cases hv with | fn _ cs _ hl hh => exact .fn f cs xs hl fun i v x a b => h x (mem_of_get b) _ _ _ _ (hh i v x a b)
theorem AvPure.cells {e : AV} (h : AvPure e) : e.isAgg = false → ∀ x ∈ e.cells, AvPure x := by
  intro h1 x hx
  cases e <;> simp [AV.cells, AV.isAgg] at h1 hx <;> (subst hx; exact h)

/-- a list of values stands for a list of abstract values -/
def VRs (S : Nat → Prop) (w : World) (μ : Mu) (vs : List Value) (xs : List AV) : Prop := vs.length = xs.length ∧ ∀ (i : Nat) (v : Value) (x : AV), vs[i]? = some v → xs[i]? = some x → VR S w μ v x
theorem VRs.mono {S S' : Nat → Prop} {w w' : World} {μ μ' : Mu} {vs : List Value} {xs : List AV} (h : VRs S w μ vs xs) (hS : ∀ b, S b → S' b) (hw : Same S w w') (hμ : Mu.le μ μ') : VRs S' w' μ' vs xs :=
  ⟨h.1, fun i v x a b => (h.2 i v x a b).mono hS hw hμ⟩
theorem VRs.nil {S : Nat → Prop} {w : World} {μ : Mu} : VRs S w μ [] [] := ⟨rfl, fun i v x a => by simp at a⟩
theorem VRs.cons {S : Nat → Prop} {w : World} {μ : Mu} {v : Value} {x : AV} {vs : List Value} {xs : List AV} (h : VR S w μ v x) (hs : VRs S w μ vs xs) : VRs S w μ (v :: vs) (x :: xs) := by
  refine ⟨by simp [hs.1], fun i v' x' a b => ?_⟩
  cases i with
  | zero => simp at a b; subst a b; exact h
  | succ i => exact hs.2 i v' x' (by simpa using a) (by simpa using b)
theorem VRs.append {S : Nat → Prop} {w : World} {μ : Mu} {vs vs' : List Value} {xs xs' : List AV} (h : VRs S w μ vs xs) (h' : VRs S w μ vs' xs') : VRs S w μ (vs ++ vs') (xs ++ xs') := by
  refine ⟨by simp [h.1, h'.1], fun i v x a b => ?_⟩
  rw [List.getElem?_append] at a b
  rw [h.1] at a
  split at a
  · rename_i hlt; rw [if_pos hlt] at b; exact h.2 i v x a b
  · rename_i hlt; rw [if_neg hlt] at b; exact h'.2 _ v x a b
theorem VRs.take {S : Nat → Prop} {w : World} {μ : Mu} {vs : List Value} {xs : List AV} (h : VRs S w μ vs xs) (n : Nat) : VRs S w μ (vs.take n) (xs.take n) := by
  refine ⟨by simp [h.1], fun i v x a b => ?_⟩
  rw [List.getElem?_take] at a b
  split at a
  · rename_i hlt; rw [if_pos hlt] at b; exact h.2 i v x a b
  · cases a
theorem VRs.drop {S : Nat → Prop} {w : World} {μ : Mu} {vs : List Value} {xs : List AV} (h : VRs S w μ vs xs) (n : Nat) : VRs S w μ (vs.drop n) (xs.drop n) :=
  ⟨by simp [h.1], fun i v x a b => h.2 (n + i) v x (by simpa using a) (by simpa using b)⟩
/-- the cells of a value stand for the abstract value's cells -/
theorem VR.cells {S : Nat → Prop} {w : World} {μ : Mu} {v : Value} {x : AV} (h : VR S w μ v x) (ho : x.one = true ∨ x.isAgg = true) : VRs S w μ v.cells.toList x.cells ∧ (∀ y ∈ x.cells, y.one = true) := by
  cases h with
  | agg cs xs hl h1 hh => exact ⟨⟨by simpa [Value.cells, AV.cells] using hl, fun i v x a b => hh i v x (by simpa [Value.cells] using a) b⟩, h1⟩
  | top v => simp [AV.one, AV.isAgg] at ho
  | tup cs xs hl hh => simp [AV.one, AV.isAgg] at ho
  | _ => refine ⟨VRs.cons ?_ VRs.nil, by simpa [AV.cells, AV.isAgg] using ho⟩; constructor <;> assumption
/-- what stands for the value of one cell is the value of one cell -/
theorem VR.oneCell {S : Nat → Prop} {w : World} {μ : Mu} {v : Value} {x : AV} (h : VR S w μ v x) (h1 : x.one = true) : v.oneCell' = true := by
  cases h <;> first | rfl | (simp [AV.one] at h1)

end Go.Proofs.Ytlpapmofmdgllaa.Av
