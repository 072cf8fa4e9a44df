/-
 ABSTRACT VALUES, their operations, and the quiet operations on numbers and strings. Conditions: none.
-/
import Derived.WalkKit
import Derived.ProofKit
import Derived.Below
import Derived.Laws.AppendOwn
import Derived.Laws.Cells
import Derived.Laws.Tables
import Derived.Laws.CopyRow
import Derived.IntWalk
import Derived.WalkSpells
import Derived.Laws.StructEq
import Derived.Laws.IdiomStrings
import Derived.Lib.AppendZerosOnto
set_option linter.unusedVariables false
set_option linter.unusedSimpArgs false

namespace Go.Proofs.YtppjinmlfcokaaaGreat.Av
open Go.RowKit

inductive AV where
 | bool (b : Bool)
 | int (k : IntKind) (n : Int)
 | str (s : ByteArray)
 | agg (cs : List AV)
 | tup (cs : List AV)
 | DE
 | obj (cs : List AV)
 | sl (es : List AV)
 | An
 | fn (f : FuncId) (caps : List AV)
 | Iy
 | ptr (k v i off : Nat)
 | row (k v n : Nat)
 | top
 deriving Inhabited

def AV.cells : AV → List AV
 | .agg cs => cs
 | x => [x]
def AV.one : AV → Bool
 | .agg _ | .tup _ | .top => false
 | _ => true
def AV.isAgg : AV → Bool
 | .agg _ => true
 | _ => false

structure Bk where
 blk : Option Nat
 cap : Nat
 esz : Nat
abbrev Mu := Nat → Nat → Option Bk

inductive VR (S : Nat → Prop) (w : World) (μ : Mu) : Value → AV → Prop where
 | bool (b : Bool) : VR S w μ (.bool b) (.bool b)
 | int (k : IntKind) (n : Int) (h1 : k.min ≤ n) (h2 : n ≤ k.max) : VR S w μ (.int k n) (.int k n)
 | str (s : ByteArray) (h : s.size ≤ maxLen) : VR S w μ (.string s) (.str s)
 | agg (cs : Array Value) (xs : List AV) (hl : cs.size = xs.length) (h1 : ∀ x ∈ xs, x.one = true)
   (h : ∀ (i : Nat) (v : Value) (x : AV), cs[i]? = some v → xs[i]? = some x → VR S w μ v x) : VR S w μ (.agg cs) (.agg xs)
 | tup (cs : Array Value) (xs : List AV) (hl : cs.size = xs.length)
   (h : ∀ (i : Nat) (v : Value) (x : AV), cs[i]? = some v → xs[i]? = some x → VR S w μ v x) : VR S w μ (.tuple cs) (.tup xs)
 | DE : VR S w μ (.pointer none) .DE
 | obj (b o : Nat) (vs : Nat → Value) (xs : List AV) (hS : S b) (h1 : ∀ x ∈ xs, x.one = true)
   (hc : ∀ i, i < xs.length → w.cell? ⟨b, o + i, none⟩ = some (vs i))
   (h : ∀ (i : Nat) (x : AV), xs[i]? = some x → VR S w μ (vs i) x) : VR S w μ (.pointer (some ⟨b, o, none⟩)) (.obj xs)
 | sl0 (a : Option Addr) (cap : Nat) (hc : cap ≤ maxLen) : VR S w μ (.slice a 0 cap) (.sl [])
 | sl (b o cap esz : Nat) (vs : Nat → Nat → Value) (es : List AV) (hS : S b) (hl : es.length ≤ cap) (hm : cap ≤ maxLen)
   (hz : ∀ e ∈ es, e.cells.length = esz ∧ ∀ x ∈ e.cells, x.one = true)
   (hc : ∀ i j, i < es.length → j < esz → w.cell? ⟨b, o + i * esz + j, none⟩ = some (vs i j))
   (h : ∀ (i j : Nat) (e x : AV), es[i]? = some e → e.cells[j]? = some x → VR S w μ (vs i j) x) : VR S w μ (.slice (some ⟨b, o, none⟩) es.length cap) (.sl es)
 | An : VR S w μ (.slice none 0 0) .An
 | fn (f : FuncId) (cs : Array Value) (xs : List AV) (hl : cs.size = xs.length)
   (h : ∀ (i : Nat) (v : Value) (x : AV), cs[i]? = some v → xs[i]? = some x → VR S w μ v x) : VR S w μ (.func (.func f) #[] cs) (.fn f xs)
 | Iy : VR S w μ .nilFunc .Iy
 | ptr (k v i off b cap esz : Nat) (h : μ k v = some ⟨some b, cap, esz⟩) : VR S w μ (.pointer (some ⟨b, i * esz + off, none⟩)) (.ptr k v i off)
 | row (k v n b cap esz : Nat) (h : μ k v = some ⟨some b, cap, esz⟩) (hn : n ≤ cap) (hm : cap ≤ maxLen) : VR S w μ (.slice (some ⟨b, 0, none⟩) n cap) (.row k v n)
 | Iw (k v cap esz : Nat) (h : μ k v = some ⟨none, cap, esz⟩) : VR S w μ (.slice none 0 0) (.row k v 0)
 | top (v : Value) : VR S w μ v .top

def BU (S : Nat → Prop) (w w' : World) : Prop := ∀ b, S b → w'.heap[b]? = w.heap[b]?
theorem BU.refl (S : Nat → Prop) (w : World) : BU S w w := fun _ _ => rfl
theorem BU.trans {S : Nat → Prop} {a b c : World} (h : BU S a b) (k : BU S b c) : BU S a c := fun x hx => (k x hx).trans (h x hx)
theorem BU.mono {S S' : Nat → Prop} {w w' : World} (h : BU S' w w') (hS : ∀ b, S b → S' b) : BU S w w' := fun b hb => h b (hS b hb)
theorem BU.cell {S : Nat → Prop} {w w' : World} (h : BU S w w') {b o : Nat} (hb : S b) : w'.cell? ⟨b, o, none⟩ = w.cell? ⟨b, o, none⟩ := World.cell?_of_block (w := w) (h b hb)

def Mu.le (μ μ' : Mu) : Prop := ∀ k v b, μ k v = some b → μ' k v = some b
theorem Mu.le.refl (μ : Mu) : Mu.le μ μ := fun _ _ _ h => h
theorem Mu.le.trans {a b c : Mu} (h : Mu.le a b) (k : Mu.le b c) : Mu.le a c := fun x y z hx => k x y z (h x y z hx)
def mu0 : Mu := fun _ _ => none
theorem Mu.le.zero (μ : Mu) : Mu.le mu0 μ := fun _ _ _ h => by cases h

theorem VR.mono {S S' : Nat → Prop} {w w' : World} {μ μ' : Mu} {v : Value} {x : AV} (h : VR S w μ v x) (hS : ∀ b, S b → S' b) (hw : BU S w w') (hμ : Mu.le μ μ') : VR S' w' μ' v x := by
 induction h with
 | bool b => exact .bool b
 | int k n h1 h2 => exact .int k n h1 h2
 | str s h => exact .str s h
 | agg cs xs hl h1 _ ih => exact .agg cs xs hl h1 ih
 | tup cs xs hl _ ih => exact .tup cs xs hl ih
 | DE => exact .DE
 | obj b o vs xs hb h1 hc _ ih => exact .obj b o vs xs (hS b hb) h1 (fun i hi => (hw.cell hb).trans (hc i hi)) ih
 | sl0 a cap hc => exact .sl0 a cap hc
 | sl b o cap esz vs es hb hl hm hz hc _ ih => exact .sl b o cap esz vs es (hS b hb) hl hm hz (fun i j hi hj => (hw.cell hb).trans (hc i j hi hj)) ih
 | An => exact .An
 | fn f cs xs hl _ ih => exact .fn f cs xs hl ih
 | Iy => exact .Iy
 | ptr k v i off b cap esz h => exact .ptr k v i off b cap esz (hμ _ _ _ h)
 | row k v n b cap esz h hn hm => exact .row k v n b cap esz (hμ _ _ _ h) hn hm
 | Iw k v cap esz h => exact .Iw k v cap esz (hμ _ _ _ h)
 | top v => exact .top v

def Ad (x : AV) : Prop := ∀ S w μ v, VR S w μ v x → VR S w mu0 v x
theorem Ad.bool (b : Bool) : Ad (.bool b) := fun _ _ _ _ h => by cases h; exact .bool b
theorem Ad.int (k : IntKind) (n : Int) : Ad (.int k n) := fun _ _ _ _ h => by cases h with | int _ _ a b => exact .int k n a b
theorem Ad.str (s : ByteArray) : Ad (.str s) := fun _ _ _ _ h => by cases h with | str _ a => exact .str s a
theorem Ad.DE : Ad .DE := fun _ _ _ _ h => by cases h; exact .DE
theorem Ad.An : Ad .An := fun _ _ _ _ h => by cases h; exact .An
theorem Ad.Iy : Ad .Iy := fun _ _ _ _ h => by cases h; exact .Iy
theorem Ad.top : Ad .top := fun _ _ _ _ _ => .top _
theorem CJ {α : Type} {l : List α} {i : Nat} {x : α} (h : l[i]? = some x) : x ∈ l := List.mem_of_getElem? h
theorem Ad.agg {xs : List AV} (h : ∀ x ∈ xs, Ad x) : Ad (.agg xs) := fun _ _ _ _ hv => by
 cases hv with | agg cs _ hl h1 hh => exact .agg cs xs hl h1 fun i v x a b => h x (CJ b) _ _ _ _ (hh i v x a b)
theorem Ad.tup {xs : List AV} (h : ∀ x ∈ xs, Ad x) : Ad (.tup xs) := fun _ _ _ _ hv => by
 cases hv with | tup cs _ hl hh => exact .tup cs xs hl fun i v x a b => h x (CJ b) _ _ _ _ (hh i v x a b)
theorem Ad.obj {xs : List AV} (h : ∀ x ∈ xs, Ad x) : Ad (.obj xs) := fun _ _ _ _ hv => by
 cases hv with | obj b o vs _ hS h1 hc hh => exact .obj b o vs xs hS h1 hc fun i x a => h x (CJ a) _ _ _ _ (hh i x a)
theorem Ad.sl {es : List AV} (h : ∀ e ∈ es, ∀ x ∈ e.cells, Ad x) : Ad (.sl es) := fun _ _ _ _ hv => by
 cases hv with
 | sl0 a cap hc => exact .sl0 a cap hc
 | sl b o cap esz vs _ hS hl hm hz hc hh => exact .sl b o cap esz vs es hS hl hm hz hc fun i j e x a b => h e (CJ a) x (CJ b) _ _ _ _ (hh i j e x a b)
theorem Ad.fn {f : FuncId} {xs : List AV} (h : ∀ x ∈ xs, Ad x) : Ad (.fn f xs) := fun _ _ _ _ hv => by
 cases hv with | fn _ cs _ hl hh => exact .fn f cs xs hl fun i v x a b => h x (CJ b) _ _ _ _ (hh i v x a b)
theorem Ad.cells {e : AV} (h : Ad e) : e.isAgg = false → ∀ x ∈ e.cells, Ad x := by
 intro h1 x hx
 cases e <;> simp [AV.cells, AV.isAgg] at h1 hx <;> (subst hx; exact h)

def VRs (S : Nat → Prop) (w : World) (μ : Mu) (vs : List Value) (xs : List AV) : Prop := vs.length = xs.length ∧ ∀ (i : Nat) (v : Value) (x : AV), vs[i]? = some v → xs[i]? = some x → VR S w μ v x
theorem VRs.mono {S S' : Nat → Prop} {w w' : World} {μ μ' : Mu} {vs : List Value} {xs : List AV} (h : VRs S w μ vs xs) (hS : ∀ b, S b → S' b) (hw : BU S w w') (hμ : Mu.le μ μ') : VRs S' w' μ' vs xs :=
 ⟨h.1, fun i v x a b => (h.2 i v x a b).mono hS hw hμ⟩
theorem VRs.nil {S : Nat → Prop} {w : World} {μ : Mu} : VRs S w μ [] [] := ⟨rfl, fun i v x a => by simp at a⟩
theorem VRs.cons {S : Nat → Prop} {w : World} {μ : Mu} {v : Value} {x : AV} {vs : List Value} {xs : List AV} (h : VR S w μ v x) (hs : VRs S w μ vs xs) : VRs S w μ (v :: vs) (x :: xs) := by
 refine ⟨by simp [hs.1], fun i v' x' a b => ?_⟩
 cases i with
 | zero => simp at a b; subst a b; exact h
 | succ i => exact hs.2 i v' x' (by simpa using a) (by simpa using b)
theorem VRs.append {S : Nat → Prop} {w : World} {μ : Mu} {vs vs' : List Value} {xs xs' : List AV} (h : VRs S w μ vs xs) (h' : VRs S w μ vs' xs') : VRs S w μ (vs ++ vs') (xs ++ xs') := by
 refine ⟨by simp [h.1, h'.1], fun i v x a b => ?_⟩
 rw [List.getElem?_append] at a b
 rw [h.1] at a
 split at a
 ·rename_i hlt; rw [if_pos hlt] at b; exact h.2 i v x a b
 ·rename_i hlt; rw [if_neg hlt] at b; exact h'.2 _ v x a b
theorem VRs.take {S : Nat → Prop} {w : World} {μ : Mu} {vs : List Value} {xs : List AV} (h : VRs S w μ vs xs) (n : Nat) : VRs S w μ (vs.take n) (xs.take n) := by
 refine ⟨by simp [h.1], fun i v x a b => ?_⟩
 rw [List.getElem?_take] at a b
 split at a
 ·rename_i hlt; rw [if_pos hlt] at b; exact h.2 i v x a b
 ·cases a
theorem VRs.drop {S : Nat → Prop} {w : World} {μ : Mu} {vs : List Value} {xs : List AV} (h : VRs S w μ vs xs) (n : Nat) : VRs S w μ (vs.drop n) (xs.drop n) :=
 ⟨by simp [h.1], fun i v x a b => h.2 (n + i) v x (by simpa using a) (by simpa using b)⟩
theorem VR.cells {S : Nat → Prop} {w : World} {μ : Mu} {v : Value} {x : AV} (h : VR S w μ v x) (ho : x.one = true ∨ x.isAgg = true) : VRs S w μ v.cells.toList x.cells ∧ (∀ y ∈ x.cells, y.one = true) := by
 cases h with
 | agg cs xs hl h1 hh => exact ⟨⟨by simpa [Value.cells, AV.cells] using hl, fun i v x a b => hh i v x (by simpa [Value.cells] using a) b⟩, h1⟩
 | top v => simp [AV.one, AV.isAgg] at ho
 | tup cs xs hl hh => simp [AV.one, AV.isAgg] at ho
 | _ => refine ⟨VRs.cons ?_ VRs.nil, by simpa [AV.cells, AV.isAgg] using ho⟩; constructor <;> assumption
theorem VR.ZS {S : Nat → Prop} {w : World} {μ : Mu} {v : Value} {x : AV} (h : VR S w μ v x) (h1 : x.one = true) : v.oneCell' = true := by
 cases h <;> first | rfl | (simp [AV.one] at h1)

end Go.Proofs.YtppjinmlfcokaaaGreat.Av

namespace Go.Proofs.YtppjinmlfcokaaaGreat.Av
open Go.RowKit

def bs (l : List Nat) : ByteArray := ⟨(l.map UInt8.ofNat).toArray⟩

structure Box where
 ver : Nat
 frz : Bool
 ty : TypeId
 esz : Nat
 es : List AV
abbrev Hp := List (Nat × Box)
def Ao : Hp → Nat → Option Box
 | [], _ => none
 | (k, b) :: r, j => if k = j then some b else Ao r j
def Bp : List (Nat × AV) → Nat → AV
 | [], _ => .top
 | (i, x) :: r, j => if i = j then x else Bp r j

inductive Ar where
 | t (i : Nat)
 | c (x : AV)
 | s (l : List Nat)
 deriving Inhabited
def Ar.ev (fr : Nat → AV) : Ar → AV
 | .t i => fr i
 | .c x => x
 | .s l => .str (bs l)

inductive EqK where
 | other | bool | ptr | slice
 | flat (ks : List Nat)
 deriving DecidableEq, Inhabited

inductive IOp where
 | mov (x : Ar)
 | pick (c a b : Ar)
 | bin (op : BinOp) (kd : EqK) (x y : Ar)
 | AfV (op : BinOp) (x y : Ar)
 | Ad2 (op : BinOp) (x y : Ar)
 | un (op : UnOp) (x : Ar)
 | AdW (x : Ar)
 | HT (k : Nat) (ty : TypeId) (n : Nat) (x : Ar)
 | build (zero : List AV) (parts : List (Nat × Nat × Ar))
 | slP (len : Nat) (zero : AV) (parts : List (Nat × Ar))
 | slF (len : Nat) (zero : AV) (parts : List (Nat × Ar))
 | slO (k : Nat) (ty : TypeId) (len : Nat) (zero : AV) (parts : List (Nat × Ar))
 | load (agg : Bool) (n : Nat) (a : Ar)
 | FG (agg : Bool) (n : Nat) (a : Ar)
 | store (n : Nat) (a x : Ar)
 | B3 (off : Nat) (x : Ar)
 | fld (agg : Bool) (off n : Nat) (x : Ar)
 | B6 (esz : Nat) (x i : Ar)
 | EI (esz : Nat) (x i : Ar)
 | Afs (x i : Ar)
 | slice (esz : Nat) (x : Ar) (lo hi : Option Ar)
 | len (str : Bool) (x : Ar)
 | append (k : Nat) (ty : TypeId) (esz bytes : Nat) (s x : Ar)
 | YN (k : Nat) (ty : TypeId) (esz bytes : Nat) (s x : Ar)
 | mkSlice (k : Nat) (ty : TypeId) (bytes : Nat) (zero : AV) (len : Ar)
 | Xc (k : Nat) (ty : TypeId) (bytes : Nat) (zero : AV) (s n : Ar)
 | conv (dst : IntKind) (x : Ar)
 | b2s (x : Ar)
 | s2b (k : Nat) (ty : TypeId) (x : Ar)
 | cap (x : Ar)
 | extract (i : Nat) (x : Ar)
 | call (f : FuncId) (args : List Ar)
 | WQ (f : FuncId) (args : List Ar)
 | AdT (f : Ar) (args : List Ar)
 | QB (f : FuncId) (args : List Ar)
 | LW (f : Ar) (args : List Ar)
 | AfO (f : FuncId) (caps : List Ar)
 | Fz (x : Ar)
 | mm (max : Bool) (xs : List Ar)
 | ME (neg : Bool) (x : Ar)
 | bad
 deriving Inhabited

structure B4 where
 dst : Option Nat
 guard : Option (Nat × Bool)
 op : IOp
 deriving Inhabited

def inR (k : IntKind) (n : Int) : Prop := k.min ≤ n ∧ n ≤ k.max

def Jc (op : BinOp) (k : IntKind) (a b : Int) (K : AV → Prop) : Prop :=
 match op with
 | .add => inR k (a + b) ∧ K (.int k (a + b))
 | .sub => inR k (a - b) ∧ K (.int k (a - b))
 | .mul => inR k (a * b) ∧ K (.int k (a * b))
 | .quo => (b ≠ 0 ∧ inR k (a.tdiv b)) ∧ K (.int k (a.tdiv b))
 | .rem => (b ≠ 0 ∧ inR k (a.tmod b)) ∧ K (.int k (a.tmod b))
 | .eql => K (.bool (decide (a = b)))
 | .neq => K (.bool (!decide (a = b)))
 | .lss => K (.bool (decide (a < b)))
 | .leq => K (.bool (decide (a ≤ b)))
 | .gtr => K (.bool (decide (b < a)))
 | .geq => K (.bool (decide (b ≤ a)))
 | _ => False

def Xf (op : BinOp) (a b : ByteArray) (K : AV → Prop) : Prop :=
 match op with
 | .add => a.size + b.size ≤ maxLen ∧ K (.str (a ++ b))
 | .eql => K (.bool (decide (a = b)))
 | .neq => K (.bool (!decide (a = b)))
 | .lss => K (.bool (Op.bytesLess a.toList b.toList))
 | _ => False

def Ea (op : BinOp) (a : Bool) (K : AV → Prop) : Prop :=
 match op with
 | .eql => K (.bool a)
 | .neq => K (.bool (!a))
 | _ => False

def EM : List Nat → List AV → List AV → Option Bool
 | [], [], [] => some true
 | 1 :: ks, .int k a :: xs, .int k' b :: ys => if k = k' then (EM ks xs ys).map (decide (a = b) && ·) else none
 | 0 :: ks, .bool a :: xs, .bool b :: ys => (EM ks xs ys).map (decide (a = b) && ·)
 | 2 :: ks, .str a :: xs, .str b :: ys => (EM ks xs ys).map (decide (a = b) && ·)
 | _, _, _ => none
def T6 (op : BinOp) (r : Option Bool) (K : AV → Prop) : Prop :=
 match r with
 | some b => Ea op b K
 | none => False
def Ad8 (op : BinOp) (kd : EqK) (xs ys : List AV) (K : AV → Prop) : Prop :=
 match kd with
 | .flat ks => T6 op (EM ks xs ys) K
 | _ => False

def Hs (op : BinOp) (kd : EqK) (x y : AV) (K : AV → Prop) : Prop :=
 match x, y with
 | .int k a, .int k' b => k = k' ∧ Jc op k a b K
 | .str a, .str b => Xf op a b K
 | .bool a, .bool b => kd = .bool ∧ Ea op (a == b) K
 | .DE, .DE => kd = .ptr ∧ Ea op true K
 | .DE, .obj _ => kd = .ptr ∧ Ea op false K
 | .obj _, .DE => kd = .ptr ∧ Ea op false K
 | .DE, .ptr _ _ _ _ => kd = .ptr ∧ Ea op false K
 | .ptr _ _ _ _, .DE => kd = .ptr ∧ Ea op false K
 | .An, .An => kd = .slice ∧ Ea op true K
 | .sl es, .An => (kd = .slice ∧ es ≠ []) ∧ Ea op false K
 | .An, .sl es => (kd = .slice ∧ es ≠ []) ∧ Ea op false K
 | .agg xs, .agg ys => Ad8 op kd xs ys K
 | _, _ => False

def Nf (op : BinOp) (x y : AV) (K : AV → Prop) : Prop :=
 match x, y with
 | .int k a, .int k' b => k = k' ∧ Jc op k a b K
 | _, _ => False
theorem Acd {op : BinOp} {kd : EqK} {x y : AV} {K : AV → Prop} (h : Nf op x y K) : Hs op kd x y K := by
 unfold Nf at h
 split at h
 ·exact h
 ·exact h.elim
theorem Ae4 {op : BinOp} {k : IntKind} {a b : Int} {K : AV → Prop} (h : Jc op k a b K) : ∃ v, K v ∧ ∀ K' : AV → Prop, K' v → Jc op k a b K' := by
 cases op <;> simp only [Jc] at h ⊢ <;> first | exact h.elim | exact ⟨_, h.2, fun _ h' => ⟨h.1, h'⟩⟩ | exact ⟨_, h, fun _ h' => h'⟩
theorem Aea {op : BinOp} {x y : AV} {K : AV → Prop} (h : Nf op x y K) : ∃ v, K v ∧ ∀ K' : AV → Prop, K' v → Nf op x y K' := by
 unfold Nf at h
 split at h
 ·obtain ⟨v, h1, h2⟩ := Ae4 h.2
  exact ⟨v, h1, fun K' h' => ⟨h.1, h2 K' h'⟩⟩
 ·exact h.elim
def He (op : BinOp) (x y : AV) (K : AV → Prop) : Prop :=
 match x, y with
 | .int k a, .int k' b => (k = k' ∨ op = .shl ∨ op = .shr) ∧ (match op with
   | .add => K (.int k (k.wrap (a + b)))
   | .sub => K (.int k (k.wrap (a - b)))
   | .mul => K (.int k (k.wrap (a * b)))
   | .and => K (.int k (k.wrap (BitVec.ofInt k.bits a &&& BitVec.ofInt k.bits b).toNat))
   | .or => K (.int k (k.wrap (BitVec.ofInt k.bits a ||| BitVec.ofInt k.bits b).toNat))
   | .xor => K (.int k (k.wrap (BitVec.ofInt k.bits a ^^^ BitVec.ofInt k.bits b).toNat))
   | .shl => 0 ≤ b ∧ K (.int k (k.wrap (a * 2 ^ (min b.toNat k.bits))))
   | .shr => (0 ≤ b ∧ inR k (a.fdiv (2 ^ (min b.toNat k.bits)))) ∧ K (.int k (a.fdiv (2 ^ (min b.toNat k.bits))))
   | _ => False)
 | _, _ => False

def aUn (op : UnOp) (x : AV) (K : AV → Prop) : Prop :=
 match x with
 | .bool b => match op with | .not => K (.bool (!b)) | _ => False
 | .int k n => match op with | .neg => inR k (-n) ∧ K (.int k (-n)) | _ => False
 | _ => False

def AV.ok (x : AV) : Bool := x.one || x.isAgg

def Xh (x a b : AV) (K : AV → Prop) : Prop :=
 match x with
 | .bool t => (t = true → K a) ∧ (t = false → K b)
 | _ => False

def lay (cs : List AV) (off : Nat) (xs : List AV) : List AV := cs.take off ++ xs ++ cs.drop (off + xs.length)
def HV (fr : Nat → AV) : List AV → List (Nat × Nat × Ar) → (List AV → Prop) → Prop
 | cs, [], K => K cs
 | cs, (off, n, x) :: r, K => ((x.ev fr).ok = true ∧ (x.ev fr).cells.length = n ∧ off + n ≤ cs.length) ∧ HV fr (lay cs off (x.ev fr).cells) r K
def D9 (fr : Nat → AV) (esz : Nat) : List AV → List (Nat × Ar) → (List AV → Prop) → Prop
 | es, [], K => K es
 | es, (i, x) :: r, K => ((x.ev fr).ok = true ∧ (x.ev fr).cells.length = esz ∧ i < es.length) ∧ D9 fr esz (es.set i (x.ev fr)) r K

def Gj (agg : Bool) (cs : List AV) (off n : Nat) (K : AV → Prop) : Prop :=
 match agg with
 | true => off + n ≤ cs.length ∧ K (.agg ((cs.drop off).take n))
 | false => off < cs.length ∧ K (cs.getD off .top)

def F9 (hp : Hp) (agg : Bool) (n : Nat) (x : AV) (K : AV → Prop) : Prop :=
 match x with
 | .obj cs => Gj agg cs 0 n K
 | .ptr k v i off => match Ao hp k with
   | some b => (b.ver = v ∧ i < b.es.length) ∧ Gj agg (b.es.getD i .top).cells off n K
   | none => False
 | _ => False

def AV.HA (e : AV) (off : Nat) (xs : List AV) : AV :=
 match e with
 | .agg cs => .agg (lay cs off xs)
 | _ => match xs with
  | [x] => x
  | _ => e
def LZ (hp : Hp) (n : Nat) (a x : AV) (K : Hp → Prop) : Prop :=
 match a, x with
 | .ptr k v i off, x => match Ao hp k with
   | some b => (b.ver = v ∧ b.frz = false ∧ i < b.es.length ∧ x.ok = true ∧ x.cells.length = n ∧ off + n ≤ (b.es.getD i .top).cells.length) ∧
     K ((k, { b with es := b.es.set i ((b.es.getD i .top).HA off x.cells) }) :: hp)
   | none => False
 | _, _ => False

def Jt (off : Nat) (x : AV) (K : AV → Prop) : Prop :=
 match x with
 | .obj cs => K (.obj (cs.drop off))
 | .ptr k v i o => K (.ptr k v i (o + off))
 | _ => False
def Ad7 (agg : Bool) (off n : Nat) (x : AV) (K : AV → Prop) : Prop :=
 match x with
 | .agg cs => Gj agg cs off n K
 | _ => False
def Ga (hp : Hp) (esz : Nat) (x i : AV) (K : AV → Prop) : Prop :=
 match x, i with
 | .sl es, .int _ i => (0 ≤ i ∧ i < es.length ∧ (es.getD i.toNat .top).cells.length = esz) ∧ K (.obj (es.getD i.toNat .top).cells)
 | .row k v n, .int _ i => match Ao hp k with
   | some b => (b.ver = v ∧ b.esz = esz ∧ 0 ≤ i ∧ i < n) ∧ K (.ptr k v i.toNat 0)
   | none => False
 | _, _ => False
def CU (s : ByteArray) (i : Nat) : UInt8 := s.data.getD i 0
def Xg (x i : AV) (K : AV → Prop) : Prop :=
 match x, i with
 | .str s, .int _ i => (0 ≤ i ∧ i < s.size) ∧ K (.int .u8 (CU s i.toNat).toNat)
 | _, _ => False
def AV.num (d : Int) : AV → Int
 | .int _ n => n
 | _ => d
def AV.isInt : AV → Bool
 | .int _ _ => true
 | _ => false
def DX (fr : Nat → AV) : Option Ar → Bool
 | none => true
 | some x => (x.ev fr).isInt
def AX (fr : Nat → AV) (d : Int) : Option Ar → Int
 | none => d
 | some x => (x.ev fr).num d
def F8 (fr : Nat → AV) (esz : Nat) (lo hi : Option Ar) (x : AV) (K : AV → Prop) : Prop :=
 match x with
 | .str s => (esz = 0 ∧ DX fr lo = true ∧ DX fr hi = true ∧ 0 ≤ AX fr 0 lo ∧ AX fr 0 lo ≤ AX fr s.size hi ∧ AX fr s.size hi ≤ s.size) ∧
   K (.str (s.extract (AX fr 0 lo).toNat (AX fr s.size hi).toNat))
 | .sl es => (esz ≠ 0 ∧ DX fr lo = true ∧ DX fr hi = true ∧ 0 ≤ AX fr 0 lo ∧ AX fr 0 lo ≤ AX fr es.length hi ∧ AX fr es.length hi ≤ es.length ∧ (lo = none ∨ ∀ e ∈ es, e.cells.length = esz)) ∧
   K (.sl ((es.drop (AX fr 0 lo).toNat).take ((AX fr es.length hi).toNat - (AX fr 0 lo).toNat)))
 | .row k v n => (esz ≠ 0 ∧ lo = none ∧ DX fr hi = true ∧ 0 ≤ AX fr n hi ∧ AX fr n hi ≤ n) ∧ K (.row k v (AX fr n hi).toNat)
 | .An => (esz ≠ 0 ∧ lo = none ∧ DX fr hi = true ∧ AX fr 0 hi = 0) ∧ K .An
 | _ => False
def Na (str : Bool) (x : AV) (K : AV → Prop) : Prop :=
 match x with
 | .str s => str = true ∧ K (.int .i64 s.size)
 | .sl es => str = false ∧ K (.int .i64 es.length)
 | .row _ _ n => str = false ∧ K (.int .i64 n)
 | .An => str = false ∧ K (.int .i64 0)
 | _ => False

def AV.B5 (hp : Hp) : AV → AV
 | .row k v n => match Ao hp k with
   | some b => if b.ver = v ∧ b.frz = true ∧ n ≤ b.es.length then .sl (b.es.take n) else .row k v n
   | none => .row k v n
 | .ptr k v i off => match Ao hp k with
   | some b => if b.ver = v ∧ b.frz = true ∧ i < b.es.length then .obj ((b.es.getD i .top).cells.drop off) else .ptr k v i off
   | none => .ptr k v i off
 | x => x
def AV.pur (hp : Hp) : AV → AV
 | .agg cs => .agg (cs.map (AV.B5 hp))
 | .tup cs => .tup (cs.map (AV.B5 hp))
 | x => x.B5 hp
def AV.Cb (hp : Hp) : AV → AV
 | .fn f cs => .fn f (cs.map (AV.B5 hp))
 | x => x.pur hp

def Hd (hp : Hp) : AV → Option (List AV)
 | .sl es => some es
 | .An => some []
 | .row k v n => match Ao hp k with
   | some b => if b.ver = v ∧ n ≤ b.es.length then some (b.es.take n) else none
   | none => none
 | _ => none
def Ra (hp : Hp) (k : Nat) (ty : TypeId) (esz bytes : Nat) (s : AV) (x : Option (List AV)) (K : AV → Hp → Prop) : Prop :=
 match s, x with
 | .An, some es => ((∀ e ∈ es, e.cells.length = esz) ∧ es.length * bytes ≤ 140737488355328 ∧ es.length ≤ maxLen) ∧
   ∀ v, K (.row k v es.length) ((k, ⟨v, false, ty, esz, es⟩) :: hp)
 | .row j v n, some es => match Ao hp j with
   | some b => (b.ver = v ∧ b.frz = false ∧ b.ty = ty ∧ b.esz = esz ∧ n ≤ b.es.length ∧ (∀ e ∈ es, e.cells.length = esz) ∧ (n + es.length) * bytes ≤ 140737488355328 ∧ n + es.length ≤ maxLen) ∧
     ∀ v', K (.row j v' (n + es.length)) ((j, ⟨v', false, ty, esz, b.es.take n ++ es⟩) :: hp)
   | none => False
 | _, _ => False

def AaZ (s n : AV) (bytes : Nat) (K : Nat → Prop) : Prop :=
 match s, n with
 | .An, .int _ n => (0 < n ∧ n * bytes ≤ 140737488355328 ∧ n ≤ 1099511627776) ∧ K n.toNat
 | _, _ => False
def Xl (dst : IntKind) (x : AV) (K : AV → Prop) : Prop :=
 match x with
 | .int _ n => inR dst n ∧ K (.int dst n)
 | _ => False
def HU (i : Nat) (x : AV) (K : AV → Prop) : Prop :=
 match x with
 | .tup xs => i < xs.length ∧ K (xs.getD i .top)
 | _ => False
def Hq (x : AV) (K : AV → Prop) : Prop :=
 match x with
 | .obj _ | .ptr _ _ _ _ | .fn _ _ => K x
 | _ => False
def aMm (mx : Bool) (xs : List AV) (K : AV → Prop) : Prop :=
 match xs with
 | [.int k a, .int k' b] => k = k' ∧ K (.int k (if mx then max a b else min a b))
 | _ => False
def La (s : ByteArray) : List AV := s.data.toList.map fun b : UInt8 => AV.int .u8 b.toNat
def Ae3 (x : AV) (K : ByteArray → Prop) : Prop :=
 match x with
 | .str s => K s
 | _ => False
def Ad9 (x : AV) (K : AV → Prop) : Prop :=
 match x with
 | .An => K (.int .i64 0)
 | _ => False
def Aec (x : Option (List AV)) (K : AV → Prop) : Prop :=
 match x with
 | some es => ∃ l : List UInt8, es = l.map (fun b : UInt8 => AV.int .u8 b.toNat) ∧ K (.str ⟨l.toArray⟩)
 | none => False

structure Env where
 w0 : World
 S : Nat → Prop
 own : Nat → Prop
 mu : Mu

structure Ext (E : Env) (w : World) : Prop where
 os : w.os = E.w0.os
 tape : w.tape = E.w0.tape
 output : w.output = E.w0.output
 size : E.w0.heap.size ≤ w.heap.size
 block : ∀ b, b < E.w0.heap.size → ¬ E.own b → w.heap[b]? = E.w0.heap[b]?

def Ez (S : Nat → Prop) (w : World) (μ : Mu) (cur : Array Value) (esz : Nat) (es : List AV) : Prop :=
 (∀ e ∈ es, e.cells.length = esz ∧ ∀ x ∈ e.cells, x.one = true) ∧
 ∀ i j e x, es[i]? = some e → e.cells[j]? = some x → ∃ v, cur[i * esz + j]? = some v ∧ VR S w μ v x

def CX (w : World) (b : Nat) (cur : Array Value) (ty : TypeId) : Prop := ∃ fz : Nat × Nat, w.heap[b]? = some (.cells cur ty fz) ∧ (fz = (0, 0) ∨ cur.size ≤ fz.1)
theorem CX.mk0 {w : World} {b : Nat} {cur : Array Value} {ty : TypeId} (h : w.heap[b]? = some (.cells cur ty (0, 0))) : CX w b cur ty := ⟨_, h, .inl rfl⟩
theorem CX.of {w w' : World} {b : Nat} {cur : Array Value} {ty : TypeId} (h : CX w b cur ty) (e : w'.heap[b]? = w.heap[b]?) : CX w' b cur ty := let ⟨fz, h1, h2⟩ := h; ⟨fz, e.trans h1, h2⟩
theorem CX.lt {w : World} {b : Nat} {cur : Array Value} {ty : TypeId} (h : CX w b cur ty) : b < w.heap.size := let ⟨_, h1, _⟩ := h; (Array.getElem?_eq_some_iff.1 h1).1
theorem CX.cell {w : World} {b : Nat} {cur : Array Value} {ty : TypeId} (h : CX w b cur ty) (j : Nat) : w.cell? ⟨b, j, none⟩ = cur[j]? := by
 obtain ⟨fz, h1, _⟩ := h
 simp [World.cell?, h1]
theorem CX.Agd {w : World} {b : Nat} {cur : Array Value} {ty : TypeId} (h : CX w b cur ty) {j : Nat} (hj : j < cur.size) : w.frozen? ⟨b, j, none⟩ = false := by
 obtain ⟨⟨lo, hi⟩, h1, h2⟩ := h
 simp only [World.frozen?, h1]
 rcases h2 with e | e
 ·cases e; simp
 ·have : ¬ lo ≤ j := by simp only at e; omega
  simp [this]
theorem CX.setRow {w : World} {b : Nat} {cur cur' : Array Value} {ty : TypeId} (h : CX w b cur ty) (hs : cur'.size = cur.size) : CX (w.setRow b cur') b cur' ty := let ⟨fz, h1, h2⟩ := h; ⟨fz, setRow_heap w b cur cur' ty fz h1, h2.imp id fun e => by rw [hs]; exact e⟩
theorem CX.store {P : Program} {b o : Nat} {ty : TypeId} : ∀ (vs : List Value) (i : Nat) (cur : Array Value) (w : World), CX w b cur ty → o + i + vs.length ≤ cur.size → (∀ v ∈ vs, v.oneCell' = true) →
  (storeCells ⟨b, o, none⟩ vs i).run P w = .ok () (w.setRow b (cur.toList.take (o + i) ++ vs ++ cur.toList.drop (o + i + vs.length)).toArray)
 | [], i, cur, w, hg, _, _ => by
  obtain ⟨fz, h1, _⟩ := hg
  simp only [storeCells, List.append_nil, List.length_nil, Nat.add_zero, List.take_append_drop, Array.toArray_toList]
  rw [setRow_self w b cur ty fz h1]
  rfl
 | v :: rest, i, cur, w, hg, hl, h1 => by
  have hi : o + i < cur.size := by simp at hl; omega
  have hadd : (⟨b, o, none⟩ : Addr).add i = ⟨b, o + i, none⟩ := by unfold Addr.add; split <;> simp_all
  have hcell : w.cell? ⟨b, o + i, none⟩ = some cur[o + i] := by rw [hg.cell]; simp [hi]
  have hfro := hg.Agd hi
  have hst : (Go.store ((⟨b, o, none⟩ : Addr).add i) v).run P w = .ok () (w.setRow b (cur.setIfInBounds (o + i) v)) := by
   obtain ⟨fz, h2, _⟩ := hg
   rw [hadd, run_store P w _ v _ (h1 v (by simp)), hcell]
   simp [hfro, setCell_eq_setRow w b (o + i) cur ty fz v h2]
  have ih := CX.store (P := P) (b := b) (o := o) (ty := ty) rest (i + 1) (cur.setIfInBounds (o + i) v) (w.setRow b (cur.setIfInBounds (o + i) v)) (hg.setRow (by simp)) (by simp at hl ⊢; omega) (fun x hx => h1 x (by simp [hx]))
  simp only [storeCells, Sem.run_bind, hst, Result.andThen_ok, ih, setRow_setRow]
  congr 3
  have e := list_seg_step cur.toList (o + i) v rest (by simp at hl ⊢; omega)
  simpa [Array.toList_setIfInBounds, Nat.add_assoc] using e
theorem CX.room {P : Program} {w : World} {t ty e : TypeId} {i : TypeInfo} (ht : P.underlying t = some (.slice e)) (hi : P.info? e = some i) {g sLen sCap : Nat} {cur : Array Value} (hg : CX w g cur e)
  (a : Addr) (m c : Nat) (news : List Value) (hl : news.length = m * i.size) (hnews : ∀ j u, news[j]? = some u → w.cell? (a.add j) = some u) (h1 : ∀ u ∈ news, u.oneCell' = true)
  (hroom : sLen + m ≤ sCap) (hfit : sLen * i.size + news.length ≤ cur.size) :
  (Builtin.append_ #[t, t] ty #[.slice (some ⟨g, 0, none⟩) sLen sCap, .slice (some a) m c]).run P w =
   .ok (.slice (some ⟨g, 0, none⟩) (sLen + m) sCap) (w.setRow g (cur.toList.take (sLen * i.size) ++ news ++ cur.toList.drop (sLen * i.size + news.length)).toArray) := by
 have hf := run_firstCells_some (P := P) w i.size m a m c news hl hnews
 have hst := CX.store (P := P) (b := g) (o := sLen * i.size) (ty := e) news 0 cur w hg (by simpa using hfit) h1
 simp only [Nat.add_zero] at hst
 simp [Builtin.append_, run_underlying ht, sizeOf, typeInfo, hi, Builtin.lenOf, hroom, hf, Addr.add_lit, hst]
def Agr (E : Env) (S : Nat → Prop) (w : World) (μ : Mu) (k : Nat) (bx : Box) : Prop :=
 ∃ B : Bk, μ k bx.ver = some B ∧ B.esz = bx.esz ∧
  match B.blk with
  | none => bx.es = []
  | some b => (bx.frz = false → E.w0.heap.size ≤ b ∨ E.own b) ∧ (bx.frz = true → S b) ∧ (bx.frz = false → ¬ S b) ∧
    ∃ cur, CX w b cur bx.ty ∧ cur.size = B.cap * B.esz ∧ B.cap ≤ maxLen ∧ bx.es.length ≤ B.cap ∧ Ez S w μ cur B.esz bx.es

def OX (μ : Mu) : Prop := ∃ N, 0 < N ∧ (∀ k v, N ≤ v → μ k v = none) ∧ ∀ k B, μ k 0 = some B → 5000 ≤ k ∧ B.blk = some (k - 5000)
structure WI (E : Env) (S : Nat → Prop) (w : World) (μ : Mu) (hp : Hp) : Prop where
 ext : Ext E w
 lt : ∀ b, S b → b < w.heap.size
 base : ∀ b, E.S b → S b
 new : ∀ b, S b → E.S b ∨ E.w0.heap.size ≤ b ∨ E.own b
 fresh : OX μ
 box : ∀ k bx, Ao hp k = some bx → Agr E S w μ k bx
 apart : ∀ k k' bx bx' B B' b, Ao hp k = some bx → Ao hp k' = some bx' → k ≠ k' → bx.frz = false → bx'.frz = false →
  μ k bx.ver = some B → μ k' bx'.ver = some B' → B.blk = some b → B'.blk ≠ some b
 le : Mu.le E.mu μ

def DQ (P : Program) (f : FuncId) : Bool :=
 match P.funcs[f]? with
 | some fn => fn.body.isSome && fn.name != "runtime.NumGoroutine"
 | none => false
def Ah (P : Program) (f : FuncId) (args : List AV) (res : AV) : Prop :=
 DQ P f = true ∧ (∀ x ∈ args, Ad x) ∧ ∀ (S : Nat → Prop) (w : World) (vs : List Value), (∀ b, S b → b < w.heap.size) → VRs S w mu0 vs args →
  Calls P f vs.toArray w fun e w' => ∃ v, e = .returned v ∧ VR (fun b => S b ∨ (w.heap.size ≤ b ∧ b < w'.heap.size)) w' mu0 v res ∧ Below w.heap.size w w'

def G4 (μ : Mu) (hp : Hp) : Nat → Prop := fun b => ∃ k bx B, Ao hp k = some bx ∧ bx.frz = false ∧ μ k bx.ver = some B ∧ B.blk = some b
def Bu (P : Program) (f : FuncId) (args : List AV) (hp : Hp) (Post : AV → Hp → Prop) : Prop :=
 DQ P f = true ∧ ∀ (S : Nat → Prop) (w : World) (μ : Mu) (vs : List Value), WI ⟨w, S, G4 μ hp, μ⟩ S w μ hp → VRs S w μ vs args →
  Calls P f vs.toArray w fun e w' => ∃ v r hp' S' μ', e = .returned v ∧ Post r hp' ∧ VR S' w' μ' v r ∧ WI ⟨w, S, G4 μ hp, μ⟩ S' w' μ' hp'
def Jo (hs : List Nat) (hp : Hp) : Hp := hs.filterMap fun k => (Ao hp k).map fun b => (k, b)
def Ci (hs : List Nat) (hp : Hp) : Hp := hp.filter fun p => !hs.contains p.1
def Gs (hp : Hp) (k : Nat) : Hp :=
 match Ao hp k with
 | some b => (k, { b with frz := true, es := b.es.map (AV.pur hp) }) :: hp
 | none => hp

def BZ : List Nat → Hp → Hp
 | [], hp => hp
 | k :: r, hp => BZ r (Gs hp k)
def AV.HB : AV → Bool
 | .bool _ | .int _ _ | .str _ | .DE | .An | .Iy => true
 | _ => false
def AV.Hf : AV → Bool
 | .tup xs => xs.all AV.HB
 | x => x.HB
def AV.plain : AV → Bool
 | .agg cs => cs.all AV.HB
 | x => x.HB
theorem Abw {hp : Hp} {x : AV} (h : x.HB = true) : x.B5 hp = x := by cases x <;> first | rfl | (simp [AV.HB] at h)
theorem Z0 {α : Type} {f : α → α} {l : List α} (h : ∀ x ∈ l, f x = x) : l.map f = l := (List.map_congr_left (g := id) fun x hx => h x hx).trans (List.map_id _)
theorem Abv {hp : Hp} : ∀ {x : AV}, x.plain = true → x.pur hp = x
 | .agg cs, h => by
  have h' : ∀ y ∈ cs, y.HB = true := List.all_eq_true.1 h
  show AV.agg (cs.map (AV.B5 hp)) = AV.agg cs
  rw [Z0 fun y hy => Abw (h' y hy)]
 | .bool _, _ | .int _ _, _ | .str _, _ | .DE, _ | .An, _ | .Iy, _ => rfl
theorem AbD {hp : Hp} {es : List AV} (h : es.all AV.plain = true) : es.map (AV.pur hp) = es := Z0 fun x hx => Abv (List.all_eq_true.1 h x hx)
theorem Om {fr : Nat → AV} {esz : Nat} : ∀ {ps : List (Nat × Ar)} {es : List AV} {L L' : List AV → Prop}, (∀ es, L es → L' es) → D9 fr esz es ps L → D9 fr esz es ps L'
 | [], es, L, L', hl, h => hl _ h
 | (i, x) :: r, es, L, L', hl, h => ⟨h.1, Om hl h.2⟩
theorem S3 {fr : Nat → AV} {esz : Nat} : ∀ {ps : List (Nat × Ar)} {es : List AV} {L : List AV → Prop}, D9 fr esz es ps L → ∃ fs, L fs ∧ ∀ L' : List AV → Prop, L' fs → D9 fr esz es ps L'
 | [], es, L, h => ⟨es, h, fun _ h' => h'⟩
 | (i, x) :: r, es, L, h => by
  obtain ⟨fs, h1, h2⟩ := S3 h.2
  exact ⟨fs, h1, fun L' h' => ⟨h.1, h2 L' h'⟩⟩
def AV.GS : AV → Bool
 | .bool _ | .int _ _ | .str _ | .DE | .An | .Iy | .ptr _ _ _ _ | .row _ _ _ => true
 | _ => false
def AV.MX : AV → Bool
 | .agg cs => cs.all AV.GS
 | x => x.GS
def AV.free : AV → Bool
 | .tup cs => cs.all AV.MX
 | x => x.MX
def GR (hp : Hp) : Prop := ∀ k bx, Ao hp k = some bx → bx.frz = false ∧ ∀ e ∈ bx.es, ∀ x ∈ e.cells, x.GS = true
def QP (P : Program) (f : FuncId) (args : List AV) (hp : Hp) (K : AV → Hp → Prop) : Prop := ∃ hs Post, (Bu P f args (Jo hs hp) Post ∧ ∀ r hp', Post r hp' → K r (hp' ++ Ci hs hp)) ∨
 (Bu P f (args.map (AV.Cb (BZ hs hp))) [] Post ∧ ∀ r hp', Post r hp' → (r.free = true ∧ GR hp') ∧ K r (hp' ++ hp))
def Nc (P : Program) (x : AV) (args : List AV) (hp : Hp) (K : AV → Hp → Prop) : Prop :=
 match x with
 | .fn f caps => QP P f (args ++ caps) hp K
 | _ => False
def Oo (P : Program) (f : FuncId) (args : List AV) (hp : Hp) (K : AV → Prop) : Prop := ∃ r, (Ah P f args r ∨ ∃ ks, Ah P f (args.map (AV.Cb (BZ ks hp))) r ∧ r.Hf = true) ∧ K r
def T7 (P : Program) (x : AV) (args : List AV) (hp : Hp) (K : AV → Prop) : Prop :=
 match x with
 | .fn f caps => Oo P f (args ++ caps) hp K
 | _ => False
def Qk (r : AV) (hp : Hp) : Hp :=
 match r with
 | .row k _ _ => Gs hp k
 | _ => hp
def IOp.sem (P : Program) (fr : Nat → AV) (hp : Hp) (K : AV → Hp → Prop) : IOp → Prop
 | .mov x => K (x.ev fr) hp
 | .pick c a b => Xh (c.ev fr) (a.ev fr) (b.ev fr) fun v => K v hp
 | .bin op kd x y => Hs op kd (x.ev fr) (y.ev fr) fun v => K v hp
 | .Ad2 op x y => Nf op (x.ev fr) (y.ev fr) fun v => K v hp
 | .AfV op x y => He op (x.ev fr) (y.ev fr) fun v => K v hp
 | .un op x => aUn op (x.ev fr) fun v => K v hp
 | .AdW x => (x.ev fr).ok = true ∧ K (.obj ((x.ev fr).pur hp).cells) hp
 | .HT k ty n x => ((x.ev fr).ok = true ∧ (x.ev fr).cells.length = n) ∧ ∀ v, K (.ptr k v 0 0) ((k, ⟨v, false, ty, n, [x.ev fr]⟩) :: hp)
 | .build zero parts => HV fr zero parts fun cs => K (.agg cs) hp
 | .slP m zero parts => D9 fr zero.cells.length (List.replicate m zero) parts fun es => K (.sl (es.map (AV.pur hp))) hp
 | .slF m zero parts => D9 fr zero.cells.length (List.replicate m zero) parts fun es => es.all AV.plain = true ∧ K (.sl es) hp
 | .slO k ty m zero parts => D9 fr zero.cells.length (List.replicate m zero) parts fun es => ∀ v, K (.row k v m) ((k, ⟨v, false, ty, zero.cells.length, es⟩) :: hp)
 | .load agg n a => F9 hp agg n (a.ev fr) fun v => K v hp
 | .FG agg n a => F9 [] agg n (a.ev fr) fun v => K v hp
 | .store n a x => LZ hp n (a.ev fr) (x.ev fr) fun hp => K (.tup []) hp
 | .B3 off x => Jt off (x.ev fr) fun v => K v hp
 | .fld agg off n x => Ad7 agg off n (x.ev fr) fun v => K v hp
 | .B6 esz x i => Ga hp esz (x.ev fr) (i.ev fr) fun v => K v hp
 | .EI esz x i => Ga [] esz (x.ev fr) (i.ev fr) fun v => K v hp
 | .Afs x i => Xg (x.ev fr) (i.ev fr) fun v => K v hp
 | .slice esz x lo hi => F8 fr esz lo hi (x.ev fr) fun v => K v hp
 | .len g x => Na g (x.ev fr) fun v => K v hp
 | .append k ty esz bytes s x => Ra hp k ty esz bytes (s.ev fr) ((Hd hp (x.ev fr)).map (·.map (AV.pur hp))) K
 | .YN k ty esz bytes s x => Ra hp k ty esz bytes (s.ev fr) ((Hd hp (x.ev fr)).map (·.map (AV.pur hp))) fun r hp' => K (r.pur (Qk r hp')) (Qk r hp')
 | .mkSlice k ty bytes zero m => match m.ev fr with
   | .int _ n => (0 ≤ n ∧ n * bytes ≤ 140737488355328) ∧ ∀ v, K (.row k v n.toNat) ((k, ⟨v, false, ty, zero.cells.length, List.replicate n.toNat zero⟩) :: hp)
   | _ => False
 | .Xc k ty bytes zero s n => AaZ (s.ev fr) (n.ev fr) bytes fun m => ∀ v, K (.row k v m) ((k, ⟨v, false, ty, zero.cells.length, List.replicate m zero⟩) :: hp)
 | .conv dst x => Xl dst (x.ev fr) fun v => K v hp
 | .b2s x => Aec (Hd hp (x.ev fr)) fun v => K v hp
 | .s2b k ty x => Ae3 (x.ev fr) fun s => ∀ v, K (.row k v s.size) ((k, ⟨v, false, ty, 1, La s⟩) :: hp)
 | .cap x => Ad9 (x.ev fr) fun v => K v hp
 | .extract i x => HU i (x.ev fr) fun v => K v hp
 | .call f args => Oo P f (args.map fun x => (x.ev fr).Cb hp) hp fun v => K v hp
 | .WQ f args => (∀ hp, (args.map fun x => (x.ev fr).Cb hp) = args.map fun x => x.ev fr) ∧ Oo P f (args.map fun x => x.ev fr) [] fun v => K v hp
 | .AdT f args => T7 P ((f.ev fr).Cb hp) (args.map fun x => (x.ev fr).Cb hp) hp fun v => K v hp
 | .QB f args => QP P f (args.map fun x => (x.ev fr).Cb hp) hp K
 | .LW f args => Nc P ((f.ev fr).Cb hp) (args.map fun x => (x.ev fr).Cb hp) hp K
 | .AfO f caps => K (.fn f (caps.map fun x => x.ev fr)) hp
 | .Fz x => Hq (x.ev fr) fun v => K v hp
 | .mm mx xs => aMm mx (xs.map fun x => x.ev fr) fun v => K v hp
 | .ME neg x => match x.ev fr with
   | .sl es => (es = [] → K (.bool (!neg)) hp) ∧ K (.bool neg) hp
   | .An => K (.bool (!neg)) hp
   | _ => False
 | .bad => False

structure St where
 fr : List (Nat × AV)
 hp : Hp
def St.put (s : St) (d : Option Nat) (x : AV) (hp : Hp) : St :=
 match d with
 | some d => ⟨(d, x) :: s.fr, hp⟩
 | none => ⟨s.fr, hp⟩

def Ei : Hp → List Nat
 | [] => []
 | (k, _) :: r => if (Ei r).contains k then Ei r else k :: Ei r
def Jr (hp : Hp) : Hp := BZ (Ei hp) (BZ (Ei hp) hp)

def IOp.quiet : IOp → Bool
 | .HT .. | .slO .. | .store .. | .append .. | .YN .. | .mkSlice .. | .Xc .. | .s2b .. | .QB .. | .LW .. | .ME .. => false
 | _ => true

def BK (P : Program) (Q : St → Prop) : List B4 → St → Prop
 | [], s => Q s
 | o :: rest, s =>
  match o.guard with
  | none => o.op.sem P (Bp s.fr) s.hp fun v hp => BK P Q rest (s.put o.dst v hp)
  | some (t, want) =>
   match Bp s.fr t with
   | .bool b => (b = want → o.op.sem P (Bp s.fr) s.hp fun v hp => BK P Q rest (s.put o.dst v hp)) ∧ (b = (!want) → BK P Q rest (s.put o.dst (.tup []) s.hp))
   | .tup _ => BK P Q rest (s.put o.dst (.tup []) s.hp)
   | _ => False

end Go.Proofs.YtppjinmlfcokaaaGreat.Av

namespace Go.Proofs.YtppjinmlfcokaaaGreat.Av
open Go.RowKit

def AeS : Value → Option AV
 | .bool b => some (.bool b)
 | .int k n => if k.min ≤ n ∧ n ≤ k.max then some (.int k n) else none
 | .string s => if s.size ≤ maxLen then some (.str s) else none
 | .pointer none => some .DE
 | .slice none 0 0 => some .An
 | .nilFunc => some .Iy
 | _ => none
def Adm : List Value → Option (List AV)
 | [] => some []
 | v :: r => match AeS v, Adm r with
   | some x, some xs => some (x :: xs)
   | _, _ => none
def LK : Value → Option AV
 | .agg cs => (Adm cs.toList).map .agg
 | v => AeS v
def TX (s : ByteArray) : List Nat := s.data.toList.map UInt8.toNat
theorem AbZ (s : ByteArray) : bs (TX s) = s := by
 have h : (UInt8.ofNat ∘ UInt8.toNat) = id := by funext x; simp
 apply ByteArray.ext
 simp [bs, TX, h]
def Aw : Operand → Option Ar
 | .tmp t => some (.t t)
 | .const (.string s) => if s.size ≤ maxLen then some (.s (TX s)) else none
 | .const v => (LK v).map .c
 | .func f => some (.c (.fn f []))
 | .global _ => none
def Cv : List Operand → Option (List Ar)
 | [] => some []
 | x :: r => match Aw x, Cv r with
   | some x, some xs => some (x :: xs)
   | _, _ => none

def BQ (P : Program) (t : TypeId) : Option Nat := (P.info? t).map (·.size)
def L9 (P : Program) (t : TypeId) : Option Bool :=
 match P.underlying t with
 | some (.struct _) | some (.array _ _) => some true
 | some _ => some false
 | none => none
def TQ (P : Program) (t : TypeId) : Option Nat :=
 match P.underlying t with
 | some .bool => some 0
 | some (.int _) => some 1
 | some .string => some 2
 | _ => none
def IC (P : Program) : List Field → Nat → Option (List Nat)
 | [], _ => some []
 | f :: r, i => match TQ P f.type, IC P r (i + 1) with
   | some k, some ks => if f.offset = i ∧ f.name ≠ "_" then some (k :: ks) else none
   | _, _ => none
def Gy (P : Program) (t : TypeId) : EqK :=
 match P.underlying t with
 | some .bool => .bool
 | some (.pointer e) => .ptr
 | some (.slice _) => .slice
 | some (.struct fs) => if P.stoodInHeld t = false then (match IC P fs.toList 0 with
   | some ks => .flat ks
   | none => .other) else .other
 | _ => .other

def Fu (P : Program) (t : TypeId) : Option TypeId :=
 match P.underlying t with
 | some (.slice e) => some e
 | _ => none
def Ep (P : Program) (t : TypeId) : Option AV := ((P.info? t).bind (·.zero)).bind LK
def Kj (P : Program) (fs : Array Field) : List (Nat × Operand) → Option (List (Nat × Nat × Ar))
 | [] => some []
 | (i, x) :: r => match fs[i]?, Aw x, Kj P fs r with
   | some f, some x, some r => (BQ P f.type).map fun n => (f.offset, n, x) :: r
   | _, _, _ => none
def IP : List (Nat × Operand) → Option (List (Nat × Ar))
 | [] => some []
 | (i, x) :: r => match Aw x, IP r with
   | some x, some r => some ((i, x) :: r)
   | _, _ => none
def Tq : Operand → Operand → Bool
 | .tmp a, .tmp b => a == b
 | .const (.int k a), .const (.int k' b) => k == k' && a == b
 | _, _ => false

def Rm (P : Program) (t : TypeId) : Option Nat :=
 match P.underlying t with
 | some .string => some 0
 | some (.slice e) => match BQ P e with
   | some (n + 1) => some (n + 1)
   | _ => none
 | _ => none

def X9 (P : Program) (op : BinOp) (t : TypeId) (x y : Ar) : Option IOp :=
 match y with
 | .c .An => if Gy P t = .slice then (match op with
   | .eql => some (.ME false x)
   | .neq => some (.ME true x)
   | _ => none) else none
 | _ => none

def AgA (own : List (Nat × Nat)) (o : Oper) : Option Nat := (o.dst.bind fun d => own.lookup d).bind fun k => if k = 7775 ∨ k = 7774 then none else some k
def PU (P : Program) (own : List (Nat × Nat)) (o : Oper) : Option IOp :=
 let mk := AgA own o
 let mkA : Option Nat := if mk = some 9999 then none else if mk = none then o.dst else mk
 match o.op with
 | .move x | .assign x => (Aw x).map .mov
 | .pick c a b => match Aw c, Aw a, Aw b with
   | some c, some a, some b => some (.pick c a b)
   | _, _, _ => none
 | .binOp op t x y _ => match Aw x, Aw y with
   | some x, some y => if mk = some 7776 then X9 P op t x y else match op, mk with
    | .shl, _ | .shr, _ | .and, _ | .or, _ | .xor, _ | _, some _ => some (.AfV op x y)
    | _, none => some (.bin op (Gy P t) x y)
   | _, _ => none
 | .unOp op _ x => (Aw x).map (.un op)
 | .alloc e => match Ep P e, BQ P e, mkA with
   | some z, some _, none => some (.AdW (.c z))
   | some z, some n, some k => some (.HT k e n (.c z))
   | _, _, _ => none
 | .box e x => match Aw x, BQ P e, mk with
   | some x, some _, none => some (.AdW x)
   | some x, some n, some k => some (.HT k e n x)
   | _, _, _ => none
 | .build t ps => match P.underlying t with
   | some (.struct fs) => match Ep P t, Kj P fs ps.toList with
    | some z, some ps => if z.isAgg ∧ (fs.toList.all fun f => (BQ P f.type).isSome) then some (.build z.cells ps) else none
    | _, _ => none
   | _ => none
 | .buildSlice t n ps => match Fu P t with
   | some e => match BQ P e, Ep P e, IP ps.toList with
    | some sz, some z, some ps => if z.cells.length = sz ∧ 0 < sz ∧ n * sz ≤ 2 ^ 24 then
      (match (if n = 0 then mkA else mk) with
       | none => some (.slP n z ps)
       | some k => some (.slO k e n z ps)) else none
    | _, _, _ => none
   | none => none
 | .load t a => match L9 P t, BQ P t, Aw a with
   | some g, some n, some a => some (.load g n a)
   | _, _, _ => none
 | .store t a x => match BQ P t, Aw a, Aw x with
   | some n, some a, some x => some (.store n a x)
   | _, _, _ => none
 | .fieldAddr s x f => match P.underlying s with
   | some (.struct fs) => match fs[f]?, Aw x with
    | some fd, some x => match BQ P fd.type with
     | some (n + 1) => some (.B3 fd.offset x)
     | _ => none
    | _, _ => none
   | _ => none
 | .field s x f => match P.underlying s with
   | some (.struct fs) => match fs[f]?, Aw x with
    | some fd, some x => match BQ P fd.type, L9 P fd.type with
     | some n, some g => some (.fld g fd.offset n x)
     | _, _ => none
    | _, _ => none
   | _ => none
 | .indexAddr t x i => match Fu P t with
   | some e => match BQ P e, Aw x, Aw i with
    | some (n + 1), some x, some i => some (.B6 (n + 1) x i)
    | _, _, _ => none
   | none => none
 | .index t x i => match P.underlying t, Aw x, Aw i with
   | some .string, some x, some i => some (.Afs x i)
   | _, _, _ => none
 | .slice t x lo hi none => match Rm P t, Aw x with
   | some n, some x => match lo.map Aw, hi.map Aw with
    | none, none => some (.slice n x none none)
    | some (some lo), none => some (.slice n x (some lo) none)
    | none, some (some hi) => some (.slice n x none (some hi))
    | some (some lo), some (some hi) => some (.slice n x (some lo) (some hi))
    | _, _ => none
   | _, _ => none
 | .makeSlice t l c => match Fu P t with
   | some e => match P.info? e, Ep P e, Aw l with
    | some i, some z, some l' => if Tq l c ∧ z.cells.length = i.size ∧ 0 < i.size ∧ 0 < i.bytes then (match mkA with | some k => some (.mkSlice k e i.bytes z l') | none => none) else none
    | _, _, _ => none
   | none => none
 | .convert s d x => match P.underlying s, P.underlying d, Aw x with
   | some (.int _), some (.int k), some x => some (.conv k x)
   | some (.slice e), some .string, some x => match P.underlying e with
    | some (.int .u8) => if BQ P e = some 1 then some (.b2s x) else none
    | _ => none
   | some .string, some (.slice e), some x => match P.underlying e, mkA with
    | some (.int .u8), some k => some (.s2b k e x)
    | _, _ => none
   | _, _, _ => none
 | .extract x i => (Aw x).map (.extract i)
 | .makeFunc (.func f) first caps => if first.isEmpty then (Cv caps.toList).map (.AfO f) else none
 | .nilCheck x => (Aw x).map .Fz
 | .call c => match c.callee with
  | .builtin .len => match c.args.toList, c.argTypes.toList with
   | [x], [t] => match P.underlying t, Aw x with
    | some .string, some x => some (.len true x)
    | some (.slice _), some x => some (.len false x)
    | _, _ => none
   | _, _ => none
  | .builtin .append => match c.args.toList, c.argTypes.toList, mkA with
   | [s, x], [t, t'], some k => if t == t' then match Fu P t with
     | some e => match P.info? e, Ep P e, Aw s, Aw x with
      | some i, some z, some s, some x => if z.cells.length = i.size ∧ 0 < i.size then some (.append k e i.size i.bytes s x) else none
      | _, _, _, _ => none
     | none => none
    else match P.underlying t', Fu P t with
     | some (.int _), some e => match P.info? e, Ep P e, Aw s, Aw x with
      | some i, some z, some s, some x => if z.cells.length = i.size ∧ 0 < i.size then some (.Xc k e i.bytes z s x) else none
      | _, _, _, _ => none
     | _, _ => none
   | _, _, _ => none
  | .builtin .max => (Cv c.args.toList).map (.mm true)
  | .builtin .min => (Cv c.args.toList).map (.mm false)
  | .builtin .cap => match c.args.toList, c.argTypes.toList with
   | [x], [t] => match P.underlying t, Aw x with
    | some (.slice _), some x => some (.cap x)
    | _, _ => none
   | _, _ => none
  | .value (.func f) => if DQ P f then (Cv c.args.toList).map (if own.contains (o.dst.getD 100000, 7777) then .QB f else .call f) else none
  | .value f => match Aw f, Cv c.args.toList with
   | some f, some xs => if own.contains (o.dst.getD 100000, 7777) then some (.LW f xs) else some (.AdT f xs)
   | _, _ => none
  | _ => none
 | _ => none

def IOp.Od (b : Bool) : IOp → IOp
 | .load g n a => if b = true then .FG g n a else .load g n a
 | .slP m z ps => if b = true then .slF m z ps else .slP m z ps
 | .bin op kd x y => if b = true then .Ad2 op x y else .bin op kd x y
 | .B6 e x i => if b = true then .EI e x i else .B6 e x i
 | .call f as => if b = true then .WQ f as else .call f as
 | x => x
theorem YP {hp : Hp} {g : Bool} {n : Nat} {x : AV} {K : AV → Prop} (h : F9 [] g n x K) : F9 hp g n x K := by
 cases x <;> first | exact h | exact h.elim
theorem Xk {hp : Hp} {e : Nat} {x i : AV} {K : AV → Prop} (h : Ga [] e x i K) : Ga hp e x i K := by
 unfold Ga at h ⊢
 split at h
 ·exact h
 ·exact h.elim
 ·exact h.elim
theorem Sh : ∀ ks : List Nat, BZ ks ([] : Hp) = []
 | [] => rfl
 | k :: r => Sh r
theorem YR {P : Program} {f : FuncId} {hp : Hp} {as : List Ar} {fr : Nat → AV} {K : AV → Prop} (h : (∀ hp, (as.map fun x => (x.ev fr).Cb hp) = as.map fun x => x.ev fr) ∧ Oo P f (as.map fun x => x.ev fr) [] K) : Oo P f (as.map fun x => (x.ev fr).Cb hp) hp K := by
 obtain ⟨hp', r, h1, hk⟩ := h
 refine ⟨r, .inl ?_, hk⟩
 rw [hp' hp]
 rcases h1 with h1 | ⟨ks, h1, _⟩
 ·exact h1
 ·have e : BZ ks ([] : Hp) = [] := Sh ks
  have h2 := hp' []
  rw [e, List.map_map] at h1
  exact h2 ▸ h1
theorem Ny {P : Program} {b : Bool} {x : IOp} {fr : Nat → AV} {hp : Hp} {K : AV → Hp → Prop} (h : (x.Od b).sem P fr hp K) : x.sem P fr hp K := by
 cases x <;> first | exact h | skip
 case load g n a =>
  cases b
  ·exact h
  ·exact YP h
 case bin op kd x y =>
  cases b
  ·exact h
  ·exact Acd h
 case B6 e x i =>
  cases b
  ·exact h
  ·exact Xk (hp := hp) (e := e) (x := x.ev fr) (i := i.ev fr) (K := fun v => K v hp) h
 case call f as =>
  cases b
  ·exact h
  ·exact YR (hp := hp) (as := as) (K := fun v => K v hp) h
 case slP m z ps =>
  cases b
  ·exact h
  ·exact Om (fun es ⟨h1, h2⟩ => by rw [AbD h1]; exact h2) h
theorem Wg {b : Bool} {x : IOp} : (x.Od b).quiet = x.quiet := by
 cases x <;> first | rfl | (cases b <;> rfl)
def IOp.kept (b : Bool) : IOp → IOp
 | .append k ty e y s x => if b = true then .YN k ty e y s x else .append k ty e y s x
 | x => x
def PV (P : Program) (own : List (Nat × Nat)) (o : Oper) : Option IOp :=
 match PU P own o with
 | some x => some ((x.Od (own.contains (o.dst.getD 100000, 7775))).kept (own.contains (o.dst.getD 100000, 7774)))
 | none => some .bad

def HF (ops : Array Oper) : Option (Nat × Bool) → Option (Option (Nat × Bool))
 | none => some none
 | some (j, want) => match (ops[j]?).bind (·.dst) with
   | some t => some (some (t, want))
   | none => none
def Sw (nt : Nat) : Option Nat → Bool
 | some d => decide (d < nt)
 | none => true
def H8 (P : Program) (nt : Nat) (own : List (Nat × Nat)) (ops : Array Oper) (o : Oper) : Option B4 :=
 match HF ops o.guard, PV P own o with
 | some g, some io => if Sw nt o.dst then some ⟨o.dst, g, io⟩ else none
 | _, _ => none

def DA (P : Program) (nt : Nat) (own : List (Nat × Nat)) (ops : Array Oper) : List Oper → Option (List B4)
 | [] => some []
 | o :: r => match H8 P nt own ops o, DA P nt own ops r with
   | some x, some xs => some (x :: xs)
   | _, _ => none

inductive BO where
 | skip
 | region (ops : List B4)
 | draw (ops : List B4)
 | both (a b : BO)
 | seq (a b : BO)
 | cond (c : Ar) (a b : BO)
 | block (id : Nat) (a : BO)
 | loop (a : BO)
 | exit (id : Nat)
 | scope (a : BO)
 | ret
 | Oz
 | ghost (a : BO)
 deriving Inhabited

end Go.Proofs.YtppjinmlfcokaaaGreat.Av

namespace Go.Proofs.YtppjinmlfcokaaaGreat.Av
open Go.RowKit

def Bc (P : Program) (ρ : Operand → Value) (o : Oper) (w : World) (R : Value → World → Prop) : Prop :=
 match (execOp ρ o).run P w with
 | .ok (.value v) w' => R v w'
 | .ok .skip w' => R undef w'
 | .ok (.enter f args) w' => Calls P f args w' fun e w'' => ∃ v, e = .returned v ∧ R v w''
 | _ => False
theorem Bc.wp {P : Program} {a : Act} {o : Oper} {w : World} {R : Value → World → Prop} {K : Act → World → Prop} {Q : Exit → Act → World → Prop} (h : Bc P a.eval o w R) (hk : ∀ v w', R v w' → K (a.put o.dst v) w') : o.wp P a w K Q := by
 unfold Bc at h
 unfold Oper.wp Oper.upon
 split at h
 ·rename_i v w' hr; rw [hr]; exact hk _ _ h
 ·rename_i w' hr; rw [hr]; exact hk _ _ h
 ·rename_i f args w' hr
  rw [hr]
  exact h.mono fun e w'' ⟨v, he, hv⟩ => by subst he; exact hk _ _ hv
 ·exact h.elim
theorem Bc.mono {P : Program} {ρ : Operand → Value} {o : Oper} {w : World} {R R' : Value → World → Prop} (h : Bc P ρ o w R) (hk : ∀ v w', R v w' → R' v w') : Bc P ρ o w R' := by
 unfold Bc at *
 split at h
 ·rename_i v w' hr; exact hk _ _ h
 ·rename_i w' hr; exact hk _ _ h
 ·rename_i f args w' hr
  exact h.mono fun e w'' ⟨v, he, hv⟩ => ⟨v, he, hk _ _ hv⟩
 ·exact h.elim
theorem Bc.val {P : Program} {ρ : Operand → Value} {o : Oper} {w w' : World} {R : Value → World → Prop} {v : Value} (hr : (execOp ρ o).run P w = .ok (.value v) w') (h : R v w') : Bc P ρ o w R := by
 unfold Bc; rw [hr]; exact h

def Cl (E : Env) (S : Nat → Prop) (μ : Mu) (w : World) (hp : Hp) (x : AV) (v : Value) (w' : World) : Prop :=
 ∃ S', VR S' w' μ v x ∧ WI E S' w' μ hp ∧ (∀ b, S b → S' b) ∧ BU S w w'
theorem Cl.here {E : Env} {S : Nat → Prop} {μ : Mu} {w : World} {hp : Hp} {x : AV} {v : Value} (hw : WI E S w μ hp) (h : VR S w μ v x) : Cl E S μ w hp x v w :=
 ⟨S, h, hw, fun _ h => h, BU.refl _ _⟩

def Fits (S : Nat → Prop) (w : World) (μ : Mu) (fr : Nat → AV) (ρ : Operand → Value) (xs : List Operand) : Prop :=
 ∀ x ∈ xs, ∀ ix, Aw x = some ix → VR S w μ (ρ x) (ix.ev fr)

theorem Z3 {S : Nat → Prop} {w : World} {μ : Mu} {v : Value} {x : AV} (h : AeS v = some x) : VR S w μ v x ∧ x.one = true := by
 unfold AeS at h
 split at h
 ·cases h; exact ⟨.bool _, rfl⟩
 ·split at h
  ·rename_i hr; cases h; exact ⟨.int _ _ hr.1 hr.2, rfl⟩
  ·cases h
 ·split at h
  ·rename_i hr; cases h; exact ⟨.str _ hr, rfl⟩
  ·cases h
 ·cases h; exact ⟨.DE, rfl⟩
 ·cases h; exact ⟨.An, rfl⟩
 ·cases h; exact ⟨.Iy, rfl⟩
 ·cases h
theorem Z2 {S : Nat → Prop} {w : World} {μ : Mu} : ∀ {vs : List Value} {xs : List AV}, Adm vs = some xs → VRs S w μ vs xs ∧ ∀ x ∈ xs, x.one = true
 | [], xs, h => by cases h; exact ⟨VRs.nil, by simp⟩
 | v :: vs, xs, h => by
  unfold Adm at h
  split at h
  ·rename_i x ys h1 h2
   cases h
   have a := Z3 (S := S) (w := w) (μ := μ) h1
   have b := Z2 (S := S) (w := w) (μ := μ) h2
   exact ⟨VRs.cons a.1 b.1, by intro y hy; rcases List.mem_cons.1 hy with e | e; exact e ▸ a.2; exact b.2 y e⟩
  ·cases h
theorem IM {S : Nat → Prop} {w : World} {μ : Mu} {v : Value} {x : AV} (h : LK v = some x) : VR S w μ v x ∧ x.ok = true := by
 unfold LK at h
 split at h
 ·rename_i cs
  cases hl : Adm cs.toList with
  | none => rw [hl] at h; cases h
  | some xs =>
   rw [hl] at h
   cases h
   have a := Z2 (S := S) (w := w) (μ := μ) hl
   exact ⟨.agg cs xs (by simpa using a.1.1) a.2 (fun i v x h1 h2 => a.1.2 i v x (by simpa using h1) h2), rfl⟩
 ·have a := Z3 (S := S) (w := w) (μ := μ) h
  exact ⟨a.1, by simp [AV.ok, a.2]⟩
theorem AV.Fe {x : AV} : x.ok = true ↔ x.one = true ∨ x.isAgg = true := by simp [AV.ok]

section
variable {P : Program} {E : Env} {S : Nat → Prop} {w : World} {μ : Mu} {hp : Hp} {fr : Nat → AV} {ρ : Operand → Value}

theorem Fits.one {x : Operand} {ix : Ar} {xs : List Operand} (h : Fits S w μ fr ρ xs) (hx : x ∈ xs) (hl : Aw x = some ix) : VR S w μ (ρ x) (ix.ev fr) := h x hx ix hl
theorem Fits.args {xs : List Operand} : ∀ {l : List Operand} {is : List Ar}, Fits S w μ fr ρ xs → (∀ x ∈ l, x ∈ xs) → Cv l = some is → VRs S w μ (l.map ρ) (is.map fun x => x.ev fr)
 | [], is, h, hs, hl => by cases hl; exact VRs.nil
 | x :: l, is, h, hs, hl => by
  unfold Cv at hl
  split at hl
  ·rename_i y ys h1 h2
   cases hl
   exact VRs.cons (h x (hs x (by simp)) y h1) (Fits.args h (fun z hz => hs z (by simp [hz])) h2)
  ·cases hl

def QOk (P : Program) (E : Env) (fr : Nat → AV) (hp : Hp) (o : Oper) (K : AV → Prop) : Prop :=
 ∃ x, K x ∧ ∀ S w μ ρ, WI E S w μ hp → Fits S w μ fr ρ o.op.operands.toList → (∀ v, ρ (.const v) = v) → (∀ f, ρ (.func f) = .func (.func f) #[] #[]) → Bc P ρ o w (Cl E S μ w hp x)

theorem Afb {o : Oper} {x : Operand} {ix : Ar} {K : AV → Prop} (ho : o.op = .move x ∨ o.op = .assign x) (hl : Aw x = some ix) (h : K (ix.ev fr)) : QOk P E fr hp o K := by
 refine ⟨_, h, fun S w μ ρ hw hf _ _ => ?_⟩
 have hv := hf.one (x := x) (by rcases ho with ho | ho <;> simp [ho, Op.operands]) hl
 exact Bc.val (v := ρ x) (w' := w) (by rcases ho with ho | ho <;> simp [execOp, ho]) (Cl.here hw hv)

theorem Afw {o : Oper} {c a b : Operand} {ic ia ib : Ar} {K : AV → Prop} (ho : o.op = .pick c a b) (hc : Aw c = some ic) (ha : Aw a = some ia) (hb : Aw b = some ib)
  (h : Xh (ic.ev fr) (ia.ev fr) (ib.ev fr) K) : QOk P E fr hp o K := by
 unfold Xh at h
 split at h
 ·rename_i t ht
  have key : ∀ (x : AV), (t = true → x = ia.ev fr) → (t = false → x = ib.ev fr) → ∀ S w μ ρ, WI E S w μ hp → Fits S w μ fr ρ o.op.operands.toList → Bc P ρ o w (Cl E S μ w hp x) := by
   intro x h1 h2 S w μ ρ hw hf
   have hcv := hf.one (x := c) (by simp [ho, Op.operands]) hc
   have hav := hf.one (x := a) (by simp [ho, Op.operands]) ha
   have hbv := hf.one (x := b) (by simp [ho, Op.operands]) hb
   rw [ht] at hcv
   generalize hcc : ρ c = vc at hcv
   cases hcv
   refine Bc.val (v := if t then ρ a else ρ b) (w' := w) (by simp [execOp, ho, hcc, asBool]) (Cl.here hw ?_)
   cases t
   ·rw [h2 rfl]; exact hbv
   ·rw [h1 rfl]; exact hav
  cases t
  ·exact ⟨_, h.2 rfl, fun S w μ ρ hw hf _ _ => key _ (by simp) (fun _ => rfl) S w μ ρ hw hf⟩
  ·exact ⟨_, h.1 rfl, fun S w μ ρ hw hf _ _ => key _ (fun _ => rfl) (by simp) S w μ ρ hw hf⟩
 ·exact h.elim

end

end Go.Proofs.YtppjinmlfcokaaaGreat.Av

namespace Go.Proofs.YtppjinmlfcokaaaGreat.Av
open Go.RowKit

theorem HY (k : IntKind) (n : Int) (h : inR k n) : k.wrap n = n := by
 obtain ⟨h1, h2⟩ := h
 cases k <;> simp only [IntKind.min, IntKind.max, IntKind.signed, IntKind.bits] at h1 h2 <;> simp only [IntKind.wrap, IntKind.signed, IntKind.bits] <;> simp at h1 h2 ⊢ <;> omega
theorem Ee (k : IntKind) (n : Int) : inR k (k.wrap n) := by
 unfold inR
 cases k <;> simp only [IntKind.min, IntKind.max, IntKind.signed, IntKind.bits, IntKind.wrap] <;> simp <;> omega

def YU (P : Program) (t : TypeId) (op : BinOp) (a b : Value) (v : Value) : Prop := ∀ w, (binOp op t a b).run P w = .ok v w

theorem Ad0 {P : Program} {t : TypeId} {op : BinOp} {k : IntKind} {a b : Int} {K : AV → Prop} (h : Jc op k a b K) (hs : op ≠ .shl ∧ op ≠ .shr) :
  ∃ x v, K x ∧ YU P t op (.int k a) (.int k b) v ∧ ∀ S w μ, VR S w μ v x := by
 unfold Jc at h
 cases op <;> simp only at h <;> try exact h.elim
 case add => exact ⟨_, .int k (a + b), h.2, fun w => by simp [binOp, Op.intArith, HY k _ h.1], fun _ _ _ => .int _ _ h.1.1 h.1.2⟩
 case sub => exact ⟨_, .int k (a - b), h.2, fun w => by simp [binOp, Op.intArith, HY k _ h.1], fun _ _ _ => .int _ _ h.1.1 h.1.2⟩
 case mul => exact ⟨_, .int k (a * b), h.2, fun w => by simp [binOp, Op.intArith, HY k _ h.1], fun _ _ _ => .int _ _ h.1.1 h.1.2⟩
 case quo => exact ⟨_, .int k (a.tdiv b), h.2, fun w => by simp [binOp, Op.intDiv, h.1.1, HY k _ h.1.2], fun _ _ _ => .int _ _ h.1.2.1 h.1.2.2⟩
 case rem => exact ⟨_, .int k (a.tmod b), h.2, fun w => by simp [binOp, Op.intDiv, h.1.1], fun _ _ _ => .int _ _ h.1.2.1 h.1.2.2⟩
 case eql => exact ⟨_, .bool (decide (a = b)), h, fun w => by simp [binOp, Op.intCmp]; rfl, fun _ _ _ => .bool _⟩
 case neq => exact ⟨_, .bool (!decide (a = b)), h, fun w => by simp [binOp, Op.intCmp, bne]; rfl, fun _ _ _ => .bool _⟩
 case lss => exact ⟨_, .bool (decide (a < b)), h, fun w => by simp [binOp, Op.intCmp], fun _ _ _ => .bool _⟩
 case leq => exact ⟨_, .bool (decide (a ≤ b)), h, fun w => by simp [binOp, Op.intCmp], fun _ _ _ => .bool _⟩
 case gtr => exact ⟨_, .bool (decide (b < a)), h, fun w => by simp [binOp, Op.intCmp], fun _ _ _ => .bool _⟩
 case geq => exact ⟨_, .bool (decide (b ≤ a)), h, fun w => by simp [binOp, Op.intCmp], fun _ _ _ => .bool _⟩

theorem bytes_inj {a b : ByteArray} (h : a.toList = b.toList) : a = b := by
 rw [ByteArray.toList_eq, ByteArray.toList_eq] at h
 exact ByteArray.ext (Array.toList_inj.1 h)
theorem Aeu (a b : ByteArray) : (a.toList == b.toList) = decide (a = b) := by
 by_cases h : a = b
 ·subst h; simp
 ·rw [beq_eq_false_iff_ne.2 fun e => h (bytes_inj e)]; simp [h]

theorem AdY {P : Program} {t : TypeId} {op : BinOp} {a b : ByteArray} {K : AV → Prop} (h : Xf op a b K) :
  ∃ x v, K x ∧ YU P t op (.string a) (.string b) v ∧ ∀ S w μ, VR S w μ v x := by
 unfold Xf at h
 cases op <;> simp only at h <;> try exact h.elim
 case add =>
  refine ⟨_, .string (a ++ b), h.2, fun w => ?_, fun _ _ _ => .str _ (by simpa using h.1)⟩
  have : ¬ (IntKind.i64.max < ((a.size + b.size : Nat) : Int)) := by
   have := h.1; unfold maxLen at this; show ¬ ((9223372036854775807 : Int) < _); omega
  simp only [binOp, Op.stringOp, gt_iff_lt, if_neg this]
  rfl
 case eql => exact ⟨_, .bool (decide (a = b)), h, fun w => by simp [binOp, Op.stringOp, Aeu], fun _ _ _ => .bool _⟩
 case neq => exact ⟨_, .bool (!decide (a = b)), h, fun w => by simp [binOp, Op.stringOp, Aeu], fun _ _ _ => .bool _⟩
 case lss => exact ⟨_, .bool (Op.bytesLess a.toList b.toList), h, fun w => by simp [binOp, Op.stringOp], fun _ _ _ => .bool _⟩

theorem Ab6 {P : Program} {t : TypeId} {op : BinOp} {x : Bool} {K : AV → Prop} {va vb : Value} (h : Ea op x K)
  (he : ∀ w, (binOp .eql t va vb).run P w = .ok (.bool x) w) (hn : ∀ w, (binOp .neq t va vb).run P w = .ok (.bool (!x)) w) :
  ∃ x v, K x ∧ YU P t op va vb v ∧ ∀ S w μ, VR S w μ v x := by
 unfold Ea at h
 cases op <;> simp only at h <;> try exact h.elim
 case eql => exact ⟨_, .bool x, h, he, fun _ _ _ => .bool _⟩
 case neq => exact ⟨_, .bool (!x), h, hn, fun _ _ _ => .bool _⟩

theorem Ww {P : Program} {t : TypeId} (h : Gy P t = .bool) : P.underlying t = some .bool := by
 unfold Gy at h
 split at h
 ·assumption
 ·cases h
 ·cases h
 ·split at h
  ·split at h <;> cases h
  ·cases h
 ·cases h
theorem Yz {P : Program} {t : TypeId} (h : Gy P t = .ptr) : ∃ e, P.underlying t = some (.pointer e) := by
 unfold Gy at h
 split at h
 ·cases h
 ·exact ⟨_, by assumption⟩
 ·cases h
 ·split at h
  ·split at h <;> cases h
  ·cases h
 ·cases h
theorem M1 {P : Program} {t : TypeId} (h : Gy P t = .slice) : ∃ e, P.underlying t = some (.slice e) := by
 unfold Gy at h
 split at h
 ·cases h
 ·cases h
 ·exact ⟨_, by assumption⟩
 ·split at h
  ·split at h <;> cases h
  ·cases h
 ·cases h
theorem Wv {P : Program} {t : TypeId} {ks : List Nat} (h : Gy P t = .flat ks) : ∃ fs, P.underlying t = some (.struct fs) ∧ P.stoodInHeld t = false ∧ IC P fs.toList 0 = some ks := by
 unfold Gy at h
 split at h
 ·cases h
 ·cases h
 ·cases h
 ·rename_i fs hu
  split at h
  ·rename_i hs
   split at h
   ·rename_i ks' hk; cases h; exact ⟨fs, hu, hs, hk⟩
   ·cases h
  ·cases h
 ·cases h
theorem Sp {P : Program} {S : Nat → Prop} {w0 : World} {μ : Mu} {cs ds : Array Value} (w : World) : ∀ {fs : List Field} {i : Nat} {ks : List Nat} {xs ys : List AV} {r : Bool}, IC P fs i = some ks → EM ks xs ys = some r →
  (∀ (j : Nat) (x : AV), xs[j]? = some x → ∃ v, cs[i + j]? = some v ∧ VR S w0 μ v x) → (∀ (j : Nat) (y : AV), ys[j]? = some y → ∃ v, ds[i + j]? = some v ∧ VR S w0 μ v y) → (Op.eqFields 9999 cs ds fs).run P w = .ok r w
 | [], i, ks, xs, ys, r, hk, hr, _, _ => by
  obtain rfl : ks = [] := by simpa [IC] using hk.symm
  have : r = true := by
   unfold EM at hr
   split at hr <;> first | (cases hr; rfl) | (simp at *; done)
  subst this
  simp [Op.eqFields]
 | f :: fs, i, ks, xs, ys, r, hk, hr, hx, hy => by
  unfold IC at hk
  split at hk
  ·rename_i k ks' h1 h2
   split at hk
   ·rename_i h3
    obtain ⟨h3, h4⟩ := h3
    obtain rfl : ks = k :: ks' := by simpa using hk.symm
    have step : ∀ (x y : AV) (xs' ys' : List AV) (b : Bool) (r' : Bool), xs = x :: xs' → ys = y :: ys' → EM ks' xs' ys' = some r' → r = (b && r') →
      (∀ v u, VR S w0 μ v x → VR S w0 μ u y → v.oneCell' = true ∧ u.oneCell' = true ∧ (Op.equalIn 9999 f.type v u).run P w = .ok b w) → (Op.eqFields 9999 cs ds (f :: fs)).run P w = .ok r w := by
     intro x y xs' ys' b r' e1 e2 hf hb heq
     subst e1 e2
     obtain ⟨v, hv, hvr⟩ := hx 0 x rfl
     obtain ⟨u, hu, hur⟩ := hy 0 y rfl
     obtain ⟨_, _, he⟩ := heq v u hvr hur
     rw [Nat.add_zero] at hv hu
     have hagg : ∀ w, (isAgg f.type).run P w = .ok false w := fun w => by
      unfold TQ at h1
      split at h1
      ·rename_i hu; simp [isAgg, run_underlying hu]
      ·rename_i hu; simp [isAgg, run_underlying hu]
      ·rename_i hu; simp [isAgg, run_underlying hu]
      ·cases h1
     have p1 : (part f.type cs f.offset).run P w = .ok v w := by simp [part, hagg, h3, hv]
     have p2 : (part f.type ds f.offset).run P w = .ok u w := by simp [part, hagg, h3, hu]
     have ih := Sp (cs := cs) (ds := ds) (S := S) (w0 := w0) (μ := μ) w h2 hf (fun j z hj => by
      obtain ⟨v', a1, a2⟩ := hx (j + 1) z (by simpa using hj)
      exact ⟨v', by rw [← a1]; congr 1; omega, a2⟩) (fun j z hj => by
      obtain ⟨v', a1, a2⟩ := hy (j + 1) z (by simpa using hj)
      exact ⟨v', by rw [← a1]; congr 1; omega, a2⟩)
     simp only [Op.eqFields, ne_eq, h4, not_false_eq_true, if_true, Sem.run_bind, p1, p2, he, Result.andThen_ok]
     cases b
     ·simp [hb]
     ·simp [hb, ih]
    unfold TQ at h1
    unfold EM at hr
    split at hr
    ·rename_i h; cases h
    ·rename_i k' a xs' k'' b ys' e
     cases e
     split at hr
     ·rename_i hkk
      subst hkk
      obtain ⟨r', hf, hb⟩ := Option.map_eq_some_iff.1 hr
      refine step _ _ xs' ys' (decide (a = b)) r' rfl rfl hf hb.symm fun v u hv hu => ?_
      cases hv; cases hu
      refine ⟨rfl, rfl, ?_⟩
      split at h1
      ·cases h1
      ·rename_i kk hu
       rw [run_equalIn_int w 9998 f.type k' kk a b hu]
       congr 1
      ·cases h1
      ·cases h1
     ·cases hr
    ·rename_i a xs' b ys' e
     cases e
     obtain ⟨r', hf, hb⟩ := Option.map_eq_some_iff.1 hr
     refine step _ _ xs' ys' (decide (a = b)) r' rfl rfl hf hb.symm fun v u hv hu => ?_
     cases hv; cases hu
     refine ⟨rfl, rfl, ?_⟩
     split at h1
     ·rename_i hu
      rw [run_equalIn_bool' w 9998 f.type a b hu]
      congr 1
     ·cases h1
     ·cases h1
     ·cases h1
    ·rename_i a xs' b ys' e
     cases e
     obtain ⟨r', hf, hb⟩ := Option.map_eq_some_iff.1 hr
     refine step _ _ xs' ys' (decide (a = b)) r' rfl rfl hf hb.symm fun v u hv hu => ?_
     cases hv; cases hu
     refine ⟨rfl, rfl, ?_⟩
     split at h1
     ·cases h1
     ·cases h1
     ·rename_i hu
      rw [run_equalIn_string w 9998 f.type a b hu, Aeu]
     ·cases h1
    ·cases hr
   ·cases hk
  ·cases hk
theorem Oc {P : Program} : ∀ {fs : List Field} {i : Nat} {ks : List Nat}, IC P fs i = some ks → ∀ f ∈ fs, ∀ d, P.eqGuardType (d + 1) f.type = false
 | [], _, _, _, f, hf => by cases hf
 | g :: r, i, ks, h, f, hf => by
  unfold IC at h
  split at h
  ·rename_i k ks' h1 h2
   rcases List.mem_cons.1 hf with rfl | hf
   ·intro d
    unfold TQ at h1
    rw [Program.eqGuardType]
    split at h1 <;> first | (cases h1; done) | (rename_i hu; rw [hu])
   ·exact Oc h2 f hf
  ·cases h
theorem Yt {P : Program} {t : TypeId} {fs : Array Field} (ht : P.underlying t = some (.struct fs)) {ks : List Nat} (h : IC P fs.toList 0 = some ks) : P.eqGuardType P.depth t = false := by
 obtain ⟨d, hd⟩ : ∃ d, P.depth = d + 1 + 1 := ⟨2 * (P.types.size + Made.depth), rfl⟩
 rw [hd, Program.eqGuardType, ht]
 simp only
 rw [Array.any_eq_false']
 intro f hf
 rw [Oc h f (Array.mem_def.1 hf) d, Bool.and_false]
 simp

theorem Gx {P : Program} {t : TypeId} {va vb : Value} {x : Bool} (h : ∀ w, (Op.equalIn Op.maxDepth t va vb).run P w = .ok x w) (h1 : ∀ op, binOp op t va vb = match op with | .eql => (do pure (.bool (← Op.equal t va vb))) | .neq => (do pure (.bool (!(← Op.equal t va vb)))) | _ => binOp op t va vb) :
  (∀ w, (binOp .eql t va vb).run P w = .ok (.bool x) w) ∧ (∀ w, (binOp .neq t va vb).run P w = .ok (.bool (!x)) w) := by
 refine ⟨fun w => ?_, fun w => ?_⟩ <;> rw [h1] <;> simp [Op.equal, h]

theorem AeY {P : Program} {t : TypeId} (ht : P.underlying t = some .bool) (a b : Bool) : ∀ w, (Op.equalIn Op.maxDepth t (.bool a) (.bool b)).run P w = .ok (a == b) w := fun w => by
 show (Op.equalIn (9999 + 1) _ _ _).run P w = _; rw [Op.equalIn]; simp [run_underlying ht]
theorem AdI {P : Program} {t e : TypeId} (ht : P.underlying t = some (.pointer e)) (a b : Option Addr) (h : a = none ∨ b = none) : ∀ w, (Op.equalIn Op.maxDepth t (.pointer a) (.pointer b)).run P w = .ok (a.isNone && b.isNone) w := fun w => by
 rcases h with h | h <;> subst h
 ·show (Op.equalIn (9999 + 1) _ _ _).run P w = _; rw [Op.equalIn]; simp [run_underlying ht]
 ·show (Op.equalIn (9999 + 1) _ _ _).run P w = _; rw [Op.equalIn]; cases a <;> simp [run_underlying ht]
theorem Qs {P : Program} {t e : TypeId} (ht : P.underlying t = some (.slice e)) (a b : Option Addr) (n c m d : Nat) (h : a = none ∨ b = none) : ∀ w, (Op.equalIn Op.maxDepth t (.slice a n c) (.slice b m d)).run P w = .ok (a.isNone && b.isNone) w := fun w => by
 rcases h with h | h <;> subst h
 ·show (Op.equalIn (9999 + 1) _ _ _).run P w = _; rw [Op.equalIn]; simp [run_underlying ht]
 ·show (Op.equalIn (9999 + 1) _ _ _).run P w = _; rw [Op.equalIn]; cases a <;> simp [run_underlying ht]

theorem AdZ {P : Program} {t e : TypeId} {op : BinOp} {x : Bool} {K : AV → Prop} (ht : P.underlying t = some (.pointer e)) (h : Ea op x K) :
  ∃ z, K z ∧ ∀ (a b : Option Addr), (a = none ∨ b = none) → (a.isNone && b.isNone) = x → ∃ v, YU P t op (.pointer a) (.pointer b) v ∧ ∀ S w μ, VR S w μ v z := by
 unfold Ea at h
 cases op <;> simp only at h <;> try exact h.elim
 case eql => exact ⟨_, h, fun a b h1 h2 => ⟨.bool _, (Gx (AdI ht a b h1) (fun op => by cases op <;> rfl)).1, fun _ _ _ => by rw [h2]; exact .bool _⟩⟩
 case neq => exact ⟨_, h, fun a b h1 h2 => ⟨.bool _, (Gx (AdI ht a b h1) (fun op => by cases op <;> rfl)).2, fun _ _ _ => by rw [h2]; exact .bool _⟩⟩
theorem YM {P : Program} {t e : TypeId} {op : BinOp} {x : Bool} {K : AV → Prop} (ht : P.underlying t = some (.slice e)) (h : Ea op x K) :
  ∃ z, K z ∧ ∀ (a b : Option Addr) (n c m d : Nat), (a = none ∨ b = none) → (a.isNone && b.isNone) = x → ∃ v, YU P t op (.slice a n c) (.slice b m d) v ∧ ∀ S w μ, VR S w μ v z := by
 unfold Ea at h
 cases op <;> simp only at h <;> try exact h.elim
 case eql => exact ⟨_, h, fun a b n c m d h1 h2 => ⟨.bool _, (Gx (Qs ht a b n c m d h1) (fun op => by cases op <;> rfl)).1, fun _ _ _ => by rw [h2]; exact .bool _⟩⟩
 case neq => exact ⟨_, h, fun a b n c m d h1 h2 => ⟨.bool _, (Gx (Qs ht a b n c m d h1) (fun op => by cases op <;> rfl)).2, fun _ _ _ => by rw [h2]; exact .bool _⟩⟩

section
variable {P : Program} {E : Env} {hp : Hp} {fr : Nat → AV}

theorem FE {o : Oper} {op : BinOp} {t ty : TypeId} {x y : Operand} {K : AV → Prop} (ho : o.op = .binOp op t x y ty)
  (h : ∃ z, K z ∧ ∀ S w μ (ρ : Operand → Value), WI E S w μ hp → Fits S w μ fr ρ [x, y] → ∃ v, YU P t op (ρ x) (ρ y) v ∧ VR S w μ v z)
  (hg : ∀ S w μ (ρ : Operand → Value), WI E S w μ hp → Fits S w μ fr ρ [x, y] → ∀ w, (eqGuard op t x y (ρ x) (ρ y)).run P w = .ok () w) : QOk P E fr hp o K := by
 obtain ⟨z, hz, h⟩ := h
 refine ⟨z, hz, fun S w μ ρ hw hf _ _ => ?_⟩
 have hf' : Fits S w μ fr ρ [x, y] := fun u hu => hf u (by simp [ho, Op.operands] at *; exact hu)
 obtain ⟨v, hb, hv⟩ := h S w μ ρ hw hf'
 refine Bc.val (v := v) (w' := w) ?_ (Cl.here hw hv)
 have hg' := hg S w μ ρ hw hf' w
 simp [execOp, ho, hg', hb w]

def TD : Value → Bool
 | .nilIface | .agg _ => false
 | _ => true
theorem EA {op : BinOp} {t : TypeId} {x y : Operand} {a b : Value} (h : TD a = true ∨ TD b = true) (w : World) : (eqGuard op t x y a b).run P w = .ok () w := by
 unfold eqGuard
 cases op <;> cases a <;> cases b <;> first | rfl | (simp [TD] at h)

theorem Agb {o : Oper} {op : BinOp} {t ty : TypeId} {x y : Operand} {ix iy : Ar} {K : AV → Prop} (ho : o.op = .binOp op t x y ty) (hx : Aw x = some ix) (hy : Aw y = some iy)
  (hs : op ≠ .shl ∧ op ≠ .shr) (h : Hs op (Gy P t) (ix.ev fr) (iy.ev fr) K) : QOk P E fr hp o K := by
 have inv : ∀ {S w μ} {ρ : Operand → Value}, Fits S w μ fr ρ [x, y] → VR S w μ (ρ x) (ix.ev fr) ∧ VR S w μ (ρ y) (iy.ev fr) := fun hf => ⟨hf.one (by simp) hx, hf.one (by simp) hy⟩
 unfold Hs at h
 split at h
 ·rename_i k a k' b e1 e2
  obtain ⟨rfl, h⟩ := h
  obtain ⟨z, v, hz, hb, hv⟩ := Ad0 (P := P) (t := t) h hs
  refine FE ho ⟨z, hz, fun S w μ ρ hw hf => ?_⟩ (fun S w μ ρ hw hf => ?_)
  ·obtain ⟨h1, h2⟩ := inv hf
   rw [e1] at h1; rw [e2] at h2
   generalize ρ x = vx at h1 ⊢; generalize ρ y = vy at h2 ⊢
   cases h1; cases h2
   exact ⟨v, hb, hv _ _ _⟩
  ·obtain ⟨h1, h2⟩ := inv hf
   rw [e1] at h1
   generalize ρ x = vx at h1 ⊢
   cases h1
   exact EA (.inl rfl)
 ·rename_i a b e1 e2
  obtain ⟨z, v, hz, hb, hv⟩ := AdY (P := P) (t := t) h
  refine FE ho ⟨z, hz, fun S w μ ρ hw hf => ?_⟩ (fun S w μ ρ hw hf => ?_)
  ·obtain ⟨h1, h2⟩ := inv hf
   rw [e1] at h1; rw [e2] at h2
   generalize ρ x = vx at h1 ⊢; generalize ρ y = vy at h2 ⊢
   cases h1; cases h2
   exact ⟨v, hb, hv _ _ _⟩
  ·obtain ⟨h1, h2⟩ := inv hf
   rw [e1] at h1
   generalize ρ x = vx at h1 ⊢
   cases h1
   exact EA (.inl rfl)
 ·rename_i a b e1 e2
  obtain ⟨hk, h⟩ := h
  obtain ⟨he, hn⟩ := Gx (AeY (Ww hk) a b) (fun op => by cases op <;> rfl)
  obtain ⟨z, v, hz, hb, hv⟩ := Ab6 (P := P) (t := t) h he hn
  refine FE ho ⟨z, hz, fun S w μ ρ hw hf => ?_⟩ (fun S w μ ρ hw hf => ?_)
  ·obtain ⟨h1, h2⟩ := inv hf
   rw [e1] at h1; rw [e2] at h2
   generalize ρ x = vx at h1 ⊢; generalize ρ y = vy at h2 ⊢
   cases h1; cases h2
   exact ⟨v, hb, hv _ _ _⟩
  ·obtain ⟨h1, h2⟩ := inv hf
   rw [e1] at h1
   generalize ρ x = vx at h1 ⊢
   cases h1
   exact EA (.inl rfl)
 iterate 5
  ·rename_i e1 e2
   obtain ⟨hk, h⟩ := h
   obtain ⟨e, ht⟩ := Yz hk
   obtain ⟨z, hz, hb⟩ := AdZ ht h
   refine FE ho ⟨z, hz, fun S w μ ρ hw hf => ?_⟩ (fun S w μ ρ hw hf => ?_)
   ·obtain ⟨h1, h2⟩ := inv hf
    rw [e1] at h1; rw [e2] at h2
    generalize ρ x = vx at h1 ⊢; generalize ρ y = vy at h2 ⊢
    cases h1 <;> cases h2 <;> (refine (hb _ _ ?_ ?_).imp (fun v h => ⟨h.1, h.2 _ _ _⟩) <;> first | rfl | simp)
   ·obtain ⟨h1, h2⟩ := inv hf
    rw [e1] at h1
    generalize ρ x = vx at h1 ⊢
    cases h1
    exact EA (.inl rfl)
 iterate 3
  ·rename_i e1 e2
   have hk := h.1
   have h := h.2
   have hk' : Gy P t = .slice := by first | exact hk | exact hk.1
   obtain ⟨e, ht⟩ := M1 hk'
   obtain ⟨z, hz, hb⟩ := YM ht h
   refine FE ho ⟨z, hz, fun S w μ ρ hw hf => ?_⟩ (fun S w μ ρ hw hf => ?_)
   ·obtain ⟨h1, h2⟩ := inv hf
    rw [e1] at h1; rw [e2] at h2
    generalize ρ x = vx at h1 ⊢; generalize ρ y = vy at h2 ⊢
    cases h1 <;> cases h2 <;> first | (exact absurd rfl hk.2) | (refine (hb _ _ _ _ _ _ ?_ ?_).imp (fun v h => ⟨h.1, h.2 _ _ _⟩) <;> first | rfl | simp)
   ·obtain ⟨h1, h2⟩ := inv hf
    rw [e1] at h1
    generalize ρ x = vx at h1 ⊢
    cases h1 <;> exact EA (.inl rfl)
 ·rename_i xs ys e1 e2
  unfold Ad8 at h
  split at h
  ·rename_i ks hk
   obtain ⟨fs, ht, hst, hks⟩ := Wv hk
   unfold T6 at h
   split at h
   ·rename_i r hr
    have hag : ∀ {S w μ v} {zs : List AV}, VR S w μ v (.agg zs) → ∃ cs : Array Value, v = .agg cs ∧ ∀ (j : Nat) (x : AV), zs[j]? = some x → ∃ u, cs[0 + j]? = some u ∧ VR S w μ u x := fun h => by
     cases h with
     | agg cs _ hl h1 hh =>
      refine ⟨cs, rfl, fun j x hj => ?_⟩
      have hlt := (List.getElem?_eq_some_iff.1 hj).1
      exact ⟨cs[j]'(by omega), by simp [show j < cs.size by omega], hh j _ x (by simp [show j < cs.size by omega]) hj⟩
    have hfo : P.fieldsOf t = fs := by simp [Program.fieldsOf, ht]
    have ht' : P.underlying t = some (.struct (P.fieldsOf t)) := by rw [hfo]; exact ht
    have hks' : IC P (P.fieldsOf t).toList 0 = some ks := by rw [hfo]; exact hks
    have hg : ∀ S w μ (ρ : Operand → Value), WI E S w μ hp → Fits S w μ fr ρ [x, y] → ∀ w, (eqGuard op t x y (ρ x) (ρ y)).run P w = .ok () w := fun S w μ ρ hw hf w' => by
     obtain ⟨h1, h2⟩ := inv hf
     rw [e1] at h1; rw [e2] at h2
     obtain ⟨cs, hcs, _⟩ := hag h1
     obtain ⟨ds, hds, _⟩ := hag h2
     rw [hcs, hds]
     exact run_eqGuard_agg w' op t x y cs ds (Yt ht hks)
    have hrun : ∀ S w μ (ρ : Operand → Value), Fits S w μ fr ρ [x, y] → ∃ cs ds : Array Value, ρ x = .agg cs ∧ ρ y = .agg ds ∧ ∀ w, (Op.equalIn 10000 t (.agg cs) (.agg ds)).run P w = .ok r w := fun S w μ ρ hf => by
     obtain ⟨h1, h2⟩ := inv hf
     rw [e1] at h1; rw [e2] at h2
     obtain ⟨cs, hcs, hc⟩ := hag h1
     obtain ⟨ds, hds, hd⟩ := hag h2
     refine ⟨cs, ds, hcs, hds, fun w => ?_⟩
     rw [run_equalIn_agg w 9999 t cs ds ht' hst]
     exact Sp w hks' hr hc hd
    cases op <;> simp only [Ea] at h <;> try exact h.elim
    case eql =>
     refine FE ho ⟨.bool r, h, fun S w μ ρ hw hf => ?_⟩ hg
     obtain ⟨cs, ds, hcs, hds, hr'⟩ := hrun S w μ ρ hf
     rw [hcs, hds]
     exact ⟨.bool r, fun w => by rw [run_eql_struct, hr']; rfl, .bool _⟩
    case neq =>
     refine FE ho ⟨.bool (!r), h, fun S w μ ρ hw hf => ?_⟩ hg
     obtain ⟨cs, ds, hcs, hds, hr'⟩ := hrun S w μ ρ hf
     rw [hcs, hds]
     exact ⟨.bool (!r), fun w => by rw [run_neq_struct, hr']; rfl, .bool _⟩
   ·exact h.elim
  ·exact h.elim
 ·exact h.elim

theorem AfC {o : Oper} {op : BinOp} {t ty : TypeId} {x y : Operand} {ix iy : Ar} {K : AV → Prop} (ho : o.op = .binOp op t x y ty) (hx : Aw x = some ix) (hy : Aw y = some iy)
  (h : He op (ix.ev fr) (iy.ev fr) K) : QOk P E fr hp o K := by
 have inv : ∀ {S w μ} {ρ : Operand → Value}, Fits S w μ fr ρ [x, y] → VR S w μ (ρ x) (ix.ev fr) ∧ VR S w μ (ρ y) (iy.ev fr) := fun hf => ⟨hf.one (by simp) hx, hf.one (by simp) hy⟩
 unfold He at h
 split at h
 ·rename_i k a k' b e1 e2
  obtain ⟨hkk, h⟩ := h
  have hz : ∃ z v, K z ∧ YU P t op (.int k a) (.int k' b) v ∧ ∀ S w μ, VR S w μ v z := by
   cases op <;> simp only at h <;> try exact h.elim
   case add =>
    obtain rfl : k = k' := by simpa using hkk
    exact ⟨_, .int k _, h, fun w => by simp [binOp, Op.intArith], fun _ _ _ => .int _ _ (Ee _ _).1 (Ee _ _).2⟩
   case sub =>
    obtain rfl : k = k' := by simpa using hkk
    exact ⟨_, .int k _, h, fun w => by simp [binOp, Op.intArith], fun _ _ _ => .int _ _ (Ee _ _).1 (Ee _ _).2⟩
   case mul =>
    obtain rfl : k = k' := by simpa using hkk
    exact ⟨_, .int k _, h, fun w => by simp [binOp, Op.intArith], fun _ _ _ => .int _ _ (Ee _ _).1 (Ee _ _).2⟩
   case and =>
    obtain rfl : k = k' := by simpa using hkk
    exact ⟨_, .int k _, h, fun w => by simp only [binOp, Op.intBits, ne_eq, not_true_eq_false, if_false]; rfl, fun _ _ _ => .int _ _ (Ee _ _).1 (Ee _ _).2⟩
   case or =>
    obtain rfl : k = k' := by simpa using hkk
    exact ⟨_, .int k _, h, fun w => by simp only [binOp, Op.intBits, ne_eq, not_true_eq_false, if_false]; rfl, fun _ _ _ => .int _ _ (Ee _ _).1 (Ee _ _).2⟩
   case xor =>
    obtain rfl : k = k' := by simpa using hkk
    exact ⟨_, .int k _, h, fun w => by simp only [binOp, Op.intBits, ne_eq, not_true_eq_false, if_false]; rfl, fun _ _ _ => .int _ _ (Ee _ _).1 (Ee _ _).2⟩
   case shl => exact ⟨_, .int k _, h.2, fun w => by simp only [binOp, Op.shift, if_neg (Int.not_lt.2 h.1)]; rfl, fun _ _ _ => .int _ _ (Ee _ _).1 (Ee _ _).2⟩
   case shr => exact ⟨_, .int k _, h.2, fun w => by simp only [binOp, Op.shift, if_neg (Int.not_lt.2 h.1.1)]; rfl, fun _ _ _ => .int _ _ h.1.2.1 h.1.2.2⟩
  obtain ⟨z, v, hz, hb, hv⟩ := hz
  refine FE ho ⟨z, hz, fun S w μ ρ hw hf => ?_⟩ (fun S w μ ρ hw hf => ?_)
  ·obtain ⟨h1, h2⟩ := inv hf
   rw [e1] at h1; rw [e2] at h2
   generalize ρ x = vx at h1 ⊢; generalize ρ y = vy at h2 ⊢
   cases h1; cases h2
   exact ⟨v, hb, hv _ _ _⟩
  ·obtain ⟨h1, h2⟩ := inv hf
   rw [e1] at h1
   generalize ρ x = vx at h1 ⊢
   cases h1
   exact EA (.inl rfl)
 ·exact h.elim

theorem Agy {o : Oper} {op : UnOp} {t : TypeId} {x : Operand} {ix : Ar} {K : AV → Prop} (ho : o.op = .unOp op t x) (hx : Aw x = some ix) (h : aUn op (ix.ev fr) K) : QOk P E fr hp o K := by
 have hf' : ∀ {S w μ} {ρ : Operand → Value}, Fits S w μ fr ρ o.op.operands.toList → VR S w μ (ρ x) (ix.ev fr) := fun hf => hf.one (by simp [ho, Op.operands]) hx
 unfold aUn at h
 split at h
 ·rename_i b e1
  cases op <;> simp only at h <;> try exact h.elim
  refine ⟨_, h, fun S w μ ρ hw hf _ _ => ?_⟩
  have h1 := hf' hf
  rw [e1] at h1
  generalize hv : ρ x = vx at h1
  cases h1
  exact Bc.val (v := .bool (!b)) (w' := w) (by simp [execOp, ho, hv, Op.unary]) (Cl.here hw (.bool _))
 ·rename_i k n e1
  cases op <;> simp only at h <;> try exact h.elim
  refine ⟨_, h.2, fun S w μ ρ hw hf _ _ => ?_⟩
  have h1 := hf' hf
  rw [e1] at h1
  generalize hv : ρ x = vx at h1
  cases h1
  exact Bc.val (v := .int k (-n)) (w' := w) (by simp [execOp, ho, hv, Op.unary, Op.intArith, HY k _ h.1]) (Cl.here hw (.int _ _ h.1.1 h.1.2))
 ·exact h.elim

theorem Afz {o : Oper} {s d : TypeId} {x : Operand} {ix : Ar} {sk k : IntKind} {K : AV → Prop} (ho : o.op = .convert s d x) (hs : P.underlying s = some (.int sk)) (hd : P.underlying d = some (.int k)) (hx : Aw x = some ix)
  (h : Xl k (ix.ev fr) K) : QOk P E fr hp o K := by
 unfold Xl at h
 split at h
 ·rename_i k0 n e1
  refine ⟨_, h.2, fun S w μ ρ hw hf _ _ => ?_⟩
  have h1 := hf.one (x := x) (by simp [ho, Op.operands]) hx
  rw [e1] at h1
  generalize hv : ρ x = vx at h1
  cases h1
  exact Bc.val (v := .int k n) (w' := w) (by simp [execOp, ho, hv, convert, run_underlying hs, run_underlying hd, Conv.intToInt, HY k _ h.1]) (Cl.here hw (.int _ _ h.1.1 h.1.2))
 ·exact h.elim

theorem Abu {o : Oper} {i : Nat} {x : Operand} {ix : Ar} {K : AV → Prop} (ho : o.op = .extract x i) (hx : Aw x = some ix) (h : HU i (ix.ev fr) K) : QOk P E fr hp o K := by
 unfold HU at h
 split at h
 ·rename_i xs e1
  refine ⟨_, h.2, fun S w μ ρ hw hf _ _ => ?_⟩
  have h1 := hf.one (x := x) (by simp [ho, Op.operands]) hx
  rw [e1] at h1
  generalize hv : ρ x = vx at h1
  cases h1 with
  | tup cs _ hl hh =>
   have hi : i < cs.size := by rw [hl]; exact h.1
   refine Bc.val (v := cs[i]) (w' := w) (by simp [execOp, ho, hv, Instr.extract, hi]) (Cl.here hw ?_)
   exact hh i _ _ (by simp [hi]) (by simp [List.getD_eq_getElem?_getD, h.1])
 ·exact h.elim

theorem Af8 {o : Oper} {mx : Bool} {is : List Ar} {c : Call} {K : AV → Prop} (ho : o.op = .call c) (hc : c.callee = .builtin (if mx then .max else .min)) (hx : Cv c.args.toList = some is)
  (h : aMm mx (is.map fun x => x.ev fr) K) : QOk P E fr hp o K := by
 unfold aMm at h
 split at h
 ·rename_i k a k' b e1
  obtain ⟨rfl, h⟩ := h
  refine ⟨_, h, fun S w μ ρ hw hf _ _ => ?_⟩
  have h1 := hf.args (l := c.args.toList) (is := is) (fun x hx => by cases mx <;> simp [ho, Op.operands, Call.operands, hc] <;> exact Array.mem_def.2 hx) hx
  rw [e1] at h1
  obtain ⟨hl, hh⟩ := h1
  obtain ⟨callee, args, argTypes⟩ := c
  simp only at hc hl hh ho
  subst hc
  obtain ⟨l⟩ := args
  match l, hl, hh with
  | [x, y], _, hh =>
   have ha := hh 0 (ρ x) (.int k a) rfl rfl
   have hb := hh 1 (ρ y) (.int k b) rfl rfl
   generalize hv : ρ x = vx at ha
   generalize hv' : ρ y = vy at hb
   cases ha with | int _ _ a1 a2 =>
   cases hb with | int _ _ b1 b2 =>
   cases mx
   ·refine Bc.val (v := .int k (min a b)) (w' := w) ?_ (Cl.here hw (by simp only [Bool.false_eq_true, if_false]; exact .int _ _ (by omega) (by omega)))
    simp [execOp, ho, resolve, invoke, builtin, Builtin.min_, Builtin.min2, hv, hv']
    omega
   ·refine Bc.val (v := .int k (max a b)) (w' := w) ?_ (Cl.here hw (by simp only [if_true]; exact .int _ _ (by omega) (by omega)))
    simp [execOp, ho, resolve, invoke, builtin, Builtin.max_, Builtin.max2, hv, hv']
    omega
 ·exact h.elim
end

end Go.Proofs.YtppjinmlfcokaaaGreat.Av
