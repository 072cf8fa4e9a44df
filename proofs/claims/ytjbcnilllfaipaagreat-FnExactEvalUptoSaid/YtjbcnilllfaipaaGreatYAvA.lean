/-
 ABSTRACT VALUES, their operations, and the quiet operations on numbers and strings. Conditions: none.
-/
import Derived.WalkKit
import Derived.ProofKit
import Derived.Below
import Derived.Laws.AppendOwn
import Derived.Laws.Cells
import Derived.Laws.Tables
import Derived.Laws.CopyRow
import Derived.IntWalk
import Derived.WalkSpells
import Derived.Laws.StructEq
import Derived.Laws.IdiomStrings
import Derived.Lib.AppendZerosOnto
set_option linter.unusedVariables false
set_option linter.unusedSimpArgs false

namespace Go.Proofs.YtjbcnilllfaipaaGreat.Av
open Go.RowKit

inductive AV where
 | bool (b : Bool)
 | int (k : IntKind) (n : Int)
 | str (s : ByteArray)
 | agg (cs : List AV)
 | tup (cs : List AV)
 | Cx
 | obj (cs : List AV)
 | sl (es : List AV)
 | Ar
 | fn (f : FuncId) (caps : List AV)
 | IZ
 | ptr (k v i off : Nat)
 | row (k v n : Nat)
 | top
 deriving Inhabited

def AV.cells : AV → List AV
 | .agg cs => cs
 | x => [x]
def AV.one : AV → Bool
 | .agg _ | .tup _ | .top => false
 | _ => true
def AV.isAgg : AV → Bool
 | .agg _ => true
 | _ => false

structure Bk where
 blk : Option Nat
 cap : Nat
 esz : Nat
abbrev Mu := Nat → Nat → Option Bk

inductive VR (S : Nat → Prop) (w : World) (μ : Mu) : Value → AV → Prop where
 | bool (b : Bool) : VR S w μ (.bool b) (.bool b)
 | int (k : IntKind) (n : Int) (h1 : k.min ≤ n) (h2 : n ≤ k.max) : VR S w μ (.int k n) (.int k n)
 | str (s : ByteArray) (h : s.size ≤ maxLen) : VR S w μ (.string s) (.str s)
 | agg (cs : Array Value) (xs : List AV) (hl : cs.size = xs.length) (h1 : ∀ x ∈ xs, x.one = true)
   (h : ∀ (i : Nat) (v : Value) (x : AV), cs[i]? = some v → xs[i]? = some x → VR S w μ v x) : VR S w μ (.agg cs) (.agg xs)
 | tup (cs : Array Value) (xs : List AV) (hl : cs.size = xs.length)
   (h : ∀ (i : Nat) (v : Value) (x : AV), cs[i]? = some v → xs[i]? = some x → VR S w μ v x) : VR S w μ (.tuple cs) (.tup xs)
 | Cx : VR S w μ (.pointer none) .Cx
 | obj (b o : Nat) (vs : Nat → Value) (xs : List AV) (hS : S b) (h1 : ∀ x ∈ xs, x.one = true)
   (hc : ∀ i, i < xs.length → w.cell? ⟨b, o + i, none⟩ = some (vs i))
   (h : ∀ (i : Nat) (x : AV), xs[i]? = some x → VR S w μ (vs i) x) : VR S w μ (.pointer (some ⟨b, o, none⟩)) (.obj xs)
 | sl0 (a : Option Addr) (cap : Nat) (hc : cap ≤ maxLen) : VR S w μ (.slice a 0 cap) (.sl [])
 | sl (b o cap esz : Nat) (vs : Nat → Nat → Value) (es : List AV) (hS : S b) (hl : es.length ≤ cap) (hm : cap ≤ maxLen)
   (hz : ∀ e ∈ es, e.cells.length = esz ∧ ∀ x ∈ e.cells, x.one = true)
   (hc : ∀ i j, i < es.length → j < esz → w.cell? ⟨b, o + i * esz + j, none⟩ = some (vs i j))
   (h : ∀ (i j : Nat) (e x : AV), es[i]? = some e → e.cells[j]? = some x → VR S w μ (vs i j) x) : VR S w μ (.slice (some ⟨b, o, none⟩) es.length cap) (.sl es)
 | Ar : VR S w μ (.slice none 0 0) .Ar
 | fn (f : FuncId) (cs : Array Value) (xs : List AV) (hl : cs.size = xs.length)
   (h : ∀ (i : Nat) (v : Value) (x : AV), cs[i]? = some v → xs[i]? = some x → VR S w μ v x) : VR S w μ (.func (.func f) #[] cs) (.fn f xs)
 | IZ : VR S w μ .nilFunc .IZ
 | ptr (k v i off b cap esz : Nat) (h : μ k v = some ⟨some b, cap, esz⟩) : VR S w μ (.pointer (some ⟨b, i * esz + off, none⟩)) (.ptr k v i off)
 | row (k v n b cap esz : Nat) (h : μ k v = some ⟨some b, cap, esz⟩) (hn : n ≤ cap) (hm : cap ≤ maxLen) : VR S w μ (.slice (some ⟨b, 0, none⟩) n cap) (.row k v n)
 | JO (k v cap esz : Nat) (h : μ k v = some ⟨none, cap, esz⟩) : VR S w μ (.slice none 0 0) (.row k v 0)
 | top (v : Value) : VR S w μ v .top

def Cc (S : Nat → Prop) (w w' : World) : Prop := ∀ b, S b → w'.heap[b]? = w.heap[b]?
theorem Cc.refl (S : Nat → Prop) (w : World) : Cc S w w := fun _ _ => rfl
theorem Cc.trans {S : Nat → Prop} {a b c : World} (h : Cc S a b) (k : Cc S b c) : Cc S a c := fun x hx => (k x hx).trans (h x hx)
theorem Cc.mono {S S' : Nat → Prop} {w w' : World} (h : Cc S' w w') (hS : ∀ b, S b → S' b) : Cc S w w' := fun b hb => h b (hS b hb)
theorem Cc.cell {S : Nat → Prop} {w w' : World} (h : Cc S w w') {b o : Nat} (hb : S b) : w'.cell? ⟨b, o, none⟩ = w.cell? ⟨b, o, none⟩ := World.cell?_of_block (w := w) (h b hb)

def Mu.le (μ μ' : Mu) : Prop := ∀ k v b, μ k v = some b → μ' k v = some b
theorem Mu.le.refl (μ : Mu) : Mu.le μ μ := fun _ _ _ h => h
theorem Mu.le.trans {a b c : Mu} (h : Mu.le a b) (k : Mu.le b c) : Mu.le a c := fun x y z hx => k x y z (h x y z hx)
def mu0 : Mu := fun _ _ => none
theorem Mu.le.zero (μ : Mu) : Mu.le mu0 μ := fun _ _ _ h => by cases h

theorem VR.mono {S S' : Nat → Prop} {w w' : World} {μ μ' : Mu} {v : Value} {x : AV} (h : VR S w μ v x) (hS : ∀ b, S b → S' b) (hw : Cc S w w') (hμ : Mu.le μ μ') : VR S' w' μ' v x := by
 induction h with
 | bool b => exact .bool b
 | int k n h1 h2 => exact .int k n h1 h2
 | str s h => exact .str s h
 | agg cs xs hl h1 _ ih => exact .agg cs xs hl h1 ih
 | tup cs xs hl _ ih => exact .tup cs xs hl ih
 | Cx => exact .Cx
 | obj b o vs xs hb h1 hc _ ih => exact .obj b o vs xs (hS b hb) h1 (fun i hi => (hw.cell hb).trans (hc i hi)) ih
 | sl0 a cap hc => exact .sl0 a cap hc
 | sl b o cap esz vs es hb hl hm hz hc _ ih => exact .sl b o cap esz vs es (hS b hb) hl hm hz (fun i j hi hj => (hw.cell hb).trans (hc i j hi hj)) ih
 | Ar => exact .Ar
 | fn f cs xs hl _ ih => exact .fn f cs xs hl ih
 | IZ => exact .IZ
 | ptr k v i off b cap esz h => exact .ptr k v i off b cap esz (hμ _ _ _ h)
 | row k v n b cap esz h hn hm => exact .row k v n b cap esz (hμ _ _ _ h) hn hm
 | JO k v cap esz h => exact .JO k v cap esz (hμ _ _ _ h)
 | top v => exact .top v

def Ac (x : AV) : Prop := ∀ S w μ v, VR S w μ v x → VR S w mu0 v x
theorem Ac.bool (b : Bool) : Ac (.bool b) := fun _ _ _ _ h => by cases h; exact .bool b
theorem Ac.int (k : IntKind) (n : Int) : Ac (.int k n) := fun _ _ _ _ h => by cases h with | int _ _ a b => exact .int k n a b
theorem Ac.str (s : ByteArray) : Ac (.str s) := fun _ _ _ _ h => by cases h with | str _ a => exact .str s a
theorem Ac.Cx : Ac .Cx := fun _ _ _ _ h => by cases h; exact .Cx
theorem Ac.Ar : Ac .Ar := fun _ _ _ _ h => by cases h; exact .Ar
theorem Ac.IZ : Ac .IZ := fun _ _ _ _ h => by cases h; exact .IZ
theorem Ac.top : Ac .top := fun _ _ _ _ _ => .top _
theorem Dd {α : Type} {l : List α} {i : Nat} {x : α} (h : l[i]? = some x) : x ∈ l := List.mem_of_getElem? h
theorem Ac.agg {xs : List AV} (h : ∀ x ∈ xs, Ac x) : Ac (.agg xs) := fun _ _ _ _ hv => by
 cases hv with | agg cs _ hl h1 hh => exact .agg cs xs hl h1 fun i v x a b => h x (Dd b) _ _ _ _ (hh i v x a b)
theorem Ac.tup {xs : List AV} (h : ∀ x ∈ xs, Ac x) : Ac (.tup xs) := fun _ _ _ _ hv => by
 cases hv with | tup cs _ hl hh => exact .tup cs xs hl fun i v x a b => h x (Dd b) _ _ _ _ (hh i v x a b)
theorem Ac.obj {xs : List AV} (h : ∀ x ∈ xs, Ac x) : Ac (.obj xs) := fun _ _ _ _ hv => by
 cases hv with | obj b o vs _ hS h1 hc hh => exact .obj b o vs xs hS h1 hc fun i x a => h x (Dd a) _ _ _ _ (hh i x a)
theorem Ac.sl {es : List AV} (h : ∀ e ∈ es, ∀ x ∈ e.cells, Ac x) : Ac (.sl es) := fun _ _ _ _ hv => by
 cases hv with
 | sl0 a cap hc => exact .sl0 a cap hc
 | sl b o cap esz vs _ hS hl hm hz hc hh => exact .sl b o cap esz vs es hS hl hm hz hc fun i j e x a b => h e (Dd a) x (Dd b) _ _ _ _ (hh i j e x a b)
theorem Ac.fn {f : FuncId} {xs : List AV} (h : ∀ x ∈ xs, Ac x) : Ac (.fn f xs) := fun _ _ _ _ hv => by
 cases hv with | fn _ cs _ hl hh => exact .fn f cs xs hl fun i v x a b => h x (Dd b) _ _ _ _ (hh i v x a b)
theorem Ac.cells {e : AV} (h : Ac e) : e.isAgg = false → ∀ x ∈ e.cells, Ac x := by
 intro h1 x hx
 cases e <;> simp [AV.cells, AV.isAgg] at h1 hx <;> (subst hx; exact h)

def VRs (S : Nat → Prop) (w : World) (μ : Mu) (vs : List Value) (xs : List AV) : Prop := vs.length = xs.length ∧ ∀ (i : Nat) (v : Value) (x : AV), vs[i]? = some v → xs[i]? = some x → VR S w μ v x
theorem VRs.mono {S S' : Nat → Prop} {w w' : World} {μ μ' : Mu} {vs : List Value} {xs : List AV} (h : VRs S w μ vs xs) (hS : ∀ b, S b → S' b) (hw : Cc S w w') (hμ : Mu.le μ μ') : VRs S' w' μ' vs xs :=
 ⟨h.1, fun i v x a b => (h.2 i v x a b).mono hS hw hμ⟩
theorem VRs.nil {S : Nat → Prop} {w : World} {μ : Mu} : VRs S w μ [] [] := ⟨rfl, fun i v x a => by simp at a⟩
theorem VRs.cons {S : Nat → Prop} {w : World} {μ : Mu} {v : Value} {x : AV} {vs : List Value} {xs : List AV} (h : VR S w μ v x) (hs : VRs S w μ vs xs) : VRs S w μ (v :: vs) (x :: xs) := by
 refine ⟨by simp [hs.1], fun i v' x' a b => ?_⟩
 cases i with
 | zero => simp at a b; subst a b; exact h
 | succ i => exact hs.2 i v' x' (by simpa using a) (by simpa using b)
theorem VRs.append {S : Nat → Prop} {w : World} {μ : Mu} {vs vs' : List Value} {xs xs' : List AV} (h : VRs S w μ vs xs) (h' : VRs S w μ vs' xs') : VRs S w μ (vs ++ vs') (xs ++ xs') := by
 refine ⟨by simp [h.1, h'.1], fun i v x a b => ?_⟩
 rw [List.getElem?_append] at a b
 rw [h.1] at a
 split at a
 ·rename_i hlt; rw [if_pos hlt] at b; exact h.2 i v x a b
 ·rename_i hlt; rw [if_neg hlt] at b; exact h'.2 _ v x a b
theorem VRs.take {S : Nat → Prop} {w : World} {μ : Mu} {vs : List Value} {xs : List AV} (h : VRs S w μ vs xs) (n : Nat) : VRs S w μ (vs.take n) (xs.take n) := by
 refine ⟨by simp [h.1], fun i v x a b => ?_⟩
 rw [List.getElem?_take] at a b
 split at a
 ·rename_i hlt; rw [if_pos hlt] at b; exact h.2 i v x a b
 ·cases a
theorem VRs.drop {S : Nat → Prop} {w : World} {μ : Mu} {vs : List Value} {xs : List AV} (h : VRs S w μ vs xs) (n : Nat) : VRs S w μ (vs.drop n) (xs.drop n) :=
 ⟨by simp [h.1], fun i v x a b => h.2 (n + i) v x (by simpa using a) (by simpa using b)⟩
theorem VR.cells {S : Nat → Prop} {w : World} {μ : Mu} {v : Value} {x : AV} (h : VR S w μ v x) (ho : x.one = true ∨ x.isAgg = true) : VRs S w μ v.cells.toList x.cells ∧ (∀ y ∈ x.cells, y.one = true) := by
 cases h with
 | agg cs xs hl h1 hh => exact ⟨⟨by simpa [Value.cells, AV.cells] using hl, fun i v x a b => hh i v x (by simpa [Value.cells] using a) b⟩, h1⟩
 | top v => simp [AV.one, AV.isAgg] at ho
 | tup cs xs hl hh => simp [AV.one, AV.isAgg] at ho
 | _ => refine ⟨VRs.cons ?_ VRs.nil, by simpa [AV.cells, AV.isAgg] using ho⟩; constructor <;> assumption
theorem VR.XW {S : Nat → Prop} {w : World} {μ : Mu} {v : Value} {x : AV} (h : VR S w μ v x) (h1 : x.one = true) : v.oneCell' = true := by
 cases h <;> first | rfl | (simp [AV.one] at h1)

end Go.Proofs.YtjbcnilllfaipaaGreat.Av

namespace Go.Proofs.YtjbcnilllfaipaaGreat.Av
open Go.RowKit

def bs (l : List Nat) : ByteArray := ⟨(l.map UInt8.ofNat).toArray⟩

structure Box where
 ver : Nat
 frz : Bool
 ty : TypeId
 esz : Nat
 es : List AV
abbrev Hp := List (Nat × Box)
def Aw : Hp → Nat → Option Box
 | [], _ => none
 | (k, b) :: r, j => if k = j then some b else Aw r j
def BJ : List (Nat × AV) → Nat → AV
 | [], _ => .top
 | (i, x) :: r, j => if i = j then x else BJ r j

inductive Ax where
 | t (i : Nat)
 | c (x : AV)
 | s (l : List Nat)
 deriving Inhabited
def Ax.ev (fr : Nat → AV) : Ax → AV
 | .t i => fr i
 | .c x => x
 | .s l => .str (bs l)

inductive EqK where
 | other | bool | ptr | slice
 | flat (ks : List Nat)
 deriving DecidableEq, Inhabited

inductive IOp where
 | mov (x : Ax)
 | pick (c a b : Ax)
 | bin (op : BinOp) (kd : EqK) (x y : Ax)
 | AdP (op : BinOp) (x y : Ax)
 | AbI (op : BinOp) (x y : Ax)
 | un (op : UnOp) (x : Ax)
 | AcS (x : Ax)
 | Ms (k : Nat) (ty : TypeId) (n : Nat) (x : Ax)
 | build (zero : List AV) (parts : List (Nat × Nat × Ax))
 | slP (len : Nat) (zero : AV) (parts : List (Nat × Ax))
 | slF (len : Nat) (zero : AV) (parts : List (Nat × Ax))
 | slO (k : Nat) (ty : TypeId) (len : Nat) (zero : AV) (parts : List (Nat × Ax))
 | load (agg : Bool) (n : Nat) (a : Ax)
 | Nl (agg : Bool) (n : Nat) (a : Ax)
 | store (n : Nat) (a x : Ax)
 | BQ (off : Nat) (x : Ax)
 | fld (agg : Bool) (off n : Nat) (x : Ax)
 | Hc (esz : Nat) (x i : Ax)
 | MN (esz : Nat) (x i : Ax)
 | Adl (x i : Ax)
 | slice (esz : Nat) (x : Ax) (lo hi : Option Ax)
 | len (str : Bool) (x : Ax)
 | append (k : Nat) (ty : TypeId) (esz bytes : Nat) (s x : Ax)
 | WW (k : Nat) (ty : TypeId) (esz bytes : Nat) (s x : Ax)
 | mkSlice (k : Nat) (ty : TypeId) (bytes : Nat) (zero : AV) (len : Ax)
 | Vx (k : Nat) (ty : TypeId) (bytes : Nat) (zero : AV) (s n : Ax)
 | conv (dst : IntKind) (x : Ax)
 | b2s (x : Ax)
 | s2b (k : Nat) (ty : TypeId) (x : Ax)
 | cap (x : Ax)
 | extract (i : Nat) (x : Ax)
 | call (f : FuncId) (args : List Ax)
 | Vc (f : FuncId) (args : List Ax)
 | AbA (f : Ax) (args : List Ax)
 | D6 (f : FuncId) (args : List Ax)
 | Lf (f : Ax) (args : List Ax)
 | AdB (f : FuncId) (caps : List Ax)
 | Ed (x : Ax)
 | mm (max : Bool) (xs : List Ax)
 | LS (neg : Bool) (x : Ax)
 | bad
 deriving Inhabited

structure B9 where
 dst : Option Nat
 guard : Option (Nat × Bool)
 op : IOp
 deriving Inhabited

def inR (k : IntKind) (n : Int) : Prop := k.min ≤ n ∧ n ≤ k.max

def IQ (op : BinOp) (k : IntKind) (a b : Int) (K : AV → Prop) : Prop :=
 match op with
 | .add => inR k (a + b) ∧ K (.int k (a + b))
 | .sub => inR k (a - b) ∧ K (.int k (a - b))
 | .mul => inR k (a * b) ∧ K (.int k (a * b))
 | .quo => (b ≠ 0 ∧ inR k (a.tdiv b)) ∧ K (.int k (a.tdiv b))
 | .rem => (b ≠ 0 ∧ inR k (a.tmod b)) ∧ K (.int k (a.tmod b))
 | .eql => K (.bool (decide (a = b)))
 | .neq => K (.bool (!decide (a = b)))
 | .lss => K (.bool (decide (a < b)))
 | .leq => K (.bool (decide (a ≤ b)))
 | .gtr => K (.bool (decide (b < a)))
 | .geq => K (.bool (decide (b ≤ a)))
 | _ => False

def Vz (op : BinOp) (a b : ByteArray) (K : AV → Prop) : Prop :=
 match op with
 | .add => a.size + b.size ≤ maxLen ∧ K (.str (a ++ b))
 | .eql => K (.bool (decide (a = b)))
 | .neq => K (.bool (!decide (a = b)))
 | .lss => K (.bool (Op.bytesLess a.toList b.toList))
 | _ => False

def D9 (op : BinOp) (a : Bool) (K : AV → Prop) : Prop :=
 match op with
 | .eql => K (.bool a)
 | .neq => K (.bool (!a))
 | _ => False

def EF : List Nat → List AV → List AV → Option Bool
 | [], [], [] => some true
 | 1 :: ks, .int k a :: xs, .int k' b :: ys => if k = k' then (EF ks xs ys).map (decide (a = b) && ·) else none
 | 0 :: ks, .bool a :: xs, .bool b :: ys => (EF ks xs ys).map (decide (a = b) && ·)
 | 2 :: ks, .str a :: xs, .str b :: ys => (EF ks xs ys).map (decide (a = b) && ·)
 | _, _, _ => none
def SW (op : BinOp) (r : Option Bool) (K : AV → Prop) : Prop :=
 match r with
 | some b => D9 op b K
 | none => False
def AbR (op : BinOp) (kd : EqK) (xs ys : List AV) (K : AV → Prop) : Prop :=
 match kd with
 | .flat ks => SW op (EF ks xs ys) K
 | _ => False

def GR (op : BinOp) (kd : EqK) (x y : AV) (K : AV → Prop) : Prop :=
 match x, y with
 | .int k a, .int k' b => k = k' ∧ IQ op k a b K
 | .str a, .str b => Vz op a b K
 | .bool a, .bool b => kd = .bool ∧ D9 op (a == b) K
 | .Cx, .Cx => kd = .ptr ∧ D9 op true K
 | .Cx, .obj _ => kd = .ptr ∧ D9 op false K
 | .obj _, .Cx => kd = .ptr ∧ D9 op false K
 | .Cx, .ptr _ _ _ _ => kd = .ptr ∧ D9 op false K
 | .ptr _ _ _ _, .Cx => kd = .ptr ∧ D9 op false K
 | .Ar, .Ar => kd = .slice ∧ D9 op true K
 | .sl es, .Ar => (kd = .slice ∧ es ≠ []) ∧ D9 op false K
 | .Ar, .sl es => (kd = .slice ∧ es ≠ []) ∧ D9 op false K
 | .agg xs, .agg ys => AbR op kd xs ys K
 | _, _ => False

def MB (op : BinOp) (x y : AV) (K : AV → Prop) : Prop :=
 match x, y with
 | .int k a, .int k' b => k = k' ∧ IQ op k a b K
 | _, _ => False
theorem Z3 {op : BinOp} {kd : EqK} {x y : AV} {K : AV → Prop} (h : MB op x y K) : GR op kd x y K := by
 unfold MB at h
 split at h
 ·exact h
 ·exact h.elim
theorem AcV {op : BinOp} {k : IntKind} {a b : Int} {K : AV → Prop} (h : IQ op k a b K) : ∃ v, K v ∧ ∀ K' : AV → Prop, K' v → IQ op k a b K' := by
 cases op <;> simp only [IQ] at h ⊢ <;> first | exact h.elim | exact ⟨_, h.2, fun _ h' => ⟨h.1, h'⟩⟩ | exact ⟨_, h, fun _ h' => h'⟩
theorem AbT {op : BinOp} {x y : AV} {K : AV → Prop} (h : MB op x y K) : ∃ v, K v ∧ ∀ K' : AV → Prop, K' v → MB op x y K' := by
 unfold MB at h
 split at h
 ·obtain ⟨v, h1, h2⟩ := AcV h.2
  exact ⟨v, h1, fun K' h' => ⟨h.1, h2 K' h'⟩⟩
 ·exact h.elim
def GI (op : BinOp) (x y : AV) (K : AV → Prop) : Prop :=
 match x, y with
 | .int k a, .int k' b => (k = k' ∨ op = .shl ∨ op = .shr) ∧ (match op with
   | .add => K (.int k (k.wrap (a + b)))
   | .sub => K (.int k (k.wrap (a - b)))
   | .mul => K (.int k (k.wrap (a * b)))
   | .and => K (.int k (k.wrap (BitVec.ofInt k.bits a &&& BitVec.ofInt k.bits b).toNat))
   | .or => K (.int k (k.wrap (BitVec.ofInt k.bits a ||| BitVec.ofInt k.bits b).toNat))
   | .xor => K (.int k (k.wrap (BitVec.ofInt k.bits a ^^^ BitVec.ofInt k.bits b).toNat))
   | .shl => 0 ≤ b ∧ K (.int k (k.wrap (a * 2 ^ (min b.toNat k.bits))))
   | .shr => (0 ≤ b ∧ inR k (a.fdiv (2 ^ (min b.toNat k.bits)))) ∧ K (.int k (a.fdiv (2 ^ (min b.toNat k.bits))))
   | _ => False)
 | _, _ => False

def aUn (op : UnOp) (x : AV) (K : AV → Prop) : Prop :=
 match x with
 | .bool b => match op with | .not => K (.bool (!b)) | _ => False
 | .int k n => match op with | .neg => inR k (-n) ∧ K (.int k (-n)) | _ => False
 | _ => False

def AV.ok (x : AV) : Bool := x.one || x.isAgg

def VB (x a b : AV) (K : AV → Prop) : Prop :=
 match x with
 | .bool t => (t = true → K a) ∧ (t = false → K b)
 | _ => False

def lay (cs : List AV) (off : Nat) (xs : List AV) : List AV := cs.take off ++ xs ++ cs.drop (off + xs.length)
def Hi (fr : Nat → AV) : List AV → List (Nat × Nat × Ax) → (List AV → Prop) → Prop
 | cs, [], K => K cs
 | cs, (off, n, x) :: r, K => ((x.ev fr).ok = true ∧ (x.ev fr).cells.length = n ∧ off + n ≤ cs.length) ∧ Hi fr (lay cs off (x.ev fr).cells) r K
def D8 (fr : Nat → AV) (esz : Nat) : List AV → List (Nat × Ax) → (List AV → Prop) → Prop
 | es, [], K => K es
 | es, (i, x) :: r, K => ((x.ev fr).ok = true ∧ (x.ev fr).cells.length = esz ∧ i < es.length) ∧ D8 fr esz (es.set i (x.ev fr)) r K

def F2 (agg : Bool) (cs : List AV) (off n : Nat) (K : AV → Prop) : Prop :=
 match agg with
 | true => off + n ≤ cs.length ∧ K (.agg ((cs.drop off).take n))
 | false => off < cs.length ∧ K (cs.getD off .top)

def FX (hp : Hp) (agg : Bool) (n : Nat) (x : AV) (K : AV → Prop) : Prop :=
 match x with
 | .obj cs => F2 agg cs 0 n K
 | .ptr k v i off => match Aw hp k with
   | some b => (b.ver = v ∧ i < b.es.length) ∧ F2 agg (b.es.getD i .top).cells off n K
   | none => False
 | _ => False

def AV.Gd (e : AV) (off : Nat) (xs : List AV) : AV :=
 match e with
 | .agg cs => .agg (lay cs off xs)
 | _ => match xs with
  | [x] => x
  | _ => e
def Lj (hp : Hp) (n : Nat) (a x : AV) (K : Hp → Prop) : Prop :=
 match a, x with
 | .ptr k v i off, x => match Aw hp k with
   | some b => (b.ver = v ∧ b.frz = false ∧ i < b.es.length ∧ x.ok = true ∧ x.cells.length = n ∧ off + n ≤ (b.es.getD i .top).cells.length) ∧
     K ((k, { b with es := b.es.set i ((b.es.getD i .top).Gd off x.cells) }) :: hp)
   | none => False
 | _, _ => False

def I8 (off : Nat) (x : AV) (K : AV → Prop) : Prop :=
 match x with
 | .obj cs => K (.obj (cs.drop off))
 | .ptr k v i o => K (.ptr k v i (o + off))
 | _ => False
def AbQ (agg : Bool) (off n : Nat) (x : AV) (K : AV → Prop) : Prop :=
 match x with
 | .agg cs => F2 agg cs off n K
 | _ => False
def FY (hp : Hp) (esz : Nat) (x i : AV) (K : AV → Prop) : Prop :=
 match x, i with
 | .sl es, .int _ i => (0 ≤ i ∧ i < es.length ∧ (es.getD i.toNat .top).cells.length = esz) ∧ K (.obj (es.getD i.toNat .top).cells)
 | .row k v n, .int _ i => match Aw hp k with
   | some b => (b.ver = v ∧ b.esz = esz ∧ 0 ≤ i ∧ i < n) ∧ K (.ptr k v i.toNat 0)
   | none => False
 | _, _ => False
def D7 (s : ByteArray) (i : Nat) : UInt8 := s.data.getD i 0
def VA (x i : AV) (K : AV → Prop) : Prop :=
 match x, i with
 | .str s, .int _ i => (0 ≤ i ∧ i < s.size) ∧ K (.int .u8 (D7 s i.toNat).toNat)
 | _, _ => False
def AV.num (d : Int) : AV → Int
 | .int _ n => n
 | _ => d
def AV.isInt : AV → Bool
 | .int _ _ => true
 | _ => false
def DZ (fr : Nat → AV) : Option Ax → Bool
 | none => true
 | some x => (x.ev fr).isInt
def A0 (fr : Nat → AV) (d : Int) : Option Ax → Int
 | none => d
 | some x => (x.ev fr).num d
def FW (fr : Nat → AV) (esz : Nat) (lo hi : Option Ax) (x : AV) (K : AV → Prop) : Prop :=
 match x with
 | .str s => (esz = 0 ∧ DZ fr lo = true ∧ DZ fr hi = true ∧ 0 ≤ A0 fr 0 lo ∧ A0 fr 0 lo ≤ A0 fr s.size hi ∧ A0 fr s.size hi ≤ s.size) ∧
   K (.str (s.extract (A0 fr 0 lo).toNat (A0 fr s.size hi).toNat))
 | .sl es => (esz ≠ 0 ∧ DZ fr lo = true ∧ DZ fr hi = true ∧ 0 ≤ A0 fr 0 lo ∧ A0 fr 0 lo ≤ A0 fr es.length hi ∧ A0 fr es.length hi ≤ es.length ∧ (lo = none ∨ ∀ e ∈ es, e.cells.length = esz)) ∧
   K (.sl ((es.drop (A0 fr 0 lo).toNat).take ((A0 fr es.length hi).toNat - (A0 fr 0 lo).toNat)))
 | .row k v n => (esz ≠ 0 ∧ lo = none ∧ DZ fr hi = true ∧ 0 ≤ A0 fr n hi ∧ A0 fr n hi ≤ n) ∧ K (.row k v (A0 fr n hi).toNat)
 | .Ar => (esz ≠ 0 ∧ lo = none ∧ DZ fr hi = true ∧ A0 fr 0 hi = 0) ∧ K .Ar
 | _ => False
def Mx (str : Bool) (x : AV) (K : AV → Prop) : Prop :=
 match x with
 | .str s => str = true ∧ K (.int .i64 s.size)
 | .sl es => str = false ∧ K (.int .i64 es.length)
 | .row _ _ n => str = false ∧ K (.int .i64 n)
 | .Ar => str = false ∧ K (.int .i64 0)
 | _ => False

def AV.AR (hp : Hp) : AV → AV
 | .row k v n => match Aw hp k with
   | some b => if b.ver = v ∧ b.frz = true ∧ n ≤ b.es.length then .sl (b.es.take n) else .row k v n
   | none => .row k v n
 | .ptr k v i off => match Aw hp k with
   | some b => if b.ver = v ∧ b.frz = true ∧ i < b.es.length then .obj ((b.es.getD i .top).cells.drop off) else .ptr k v i off
   | none => .ptr k v i off
 | x => x
def AV.pur (hp : Hp) : AV → AV
 | .agg cs => .agg (cs.map (AV.AR hp))
 | .tup cs => .tup (cs.map (AV.AR hp))
 | x => x.AR hp
def AV.Bv (hp : Hp) : AV → AV
 | .fn f cs => .fn f (cs.map (AV.AR hp))
 | x => x.pur hp

def GH (hp : Hp) : AV → Option (List AV)
 | .sl es => some es
 | .Ar => some []
 | .row k v n => match Aw hp k with
   | some b => if b.ver = v ∧ n ≤ b.es.length then some (b.es.take n) else none
   | none => none
 | _ => none
def Qc (hp : Hp) (k : Nat) (ty : TypeId) (esz bytes : Nat) (s : AV) (x : Option (List AV)) (K : AV → Hp → Prop) : Prop :=
 match s, x with
 | .Ar, some es => ((∀ e ∈ es, e.cells.length = esz) ∧ es.length * bytes ≤ 140737488355328 ∧ es.length ≤ maxLen) ∧
   ∀ v, K (.row k v es.length) ((k, ⟨v, false, ty, esz, es⟩) :: hp)
 | .row j v n, some es => match Aw hp j with
   | some b => (b.ver = v ∧ b.frz = false ∧ b.ty = ty ∧ b.esz = esz ∧ n ≤ b.es.length ∧ (∀ e ∈ es, e.cells.length = esz) ∧ (n + es.length) * bytes ≤ 140737488355328 ∧ n + es.length ≤ maxLen) ∧
     ∀ v', K (.row j v' (n + es.length)) ((j, ⟨v', false, ty, esz, b.es.take n ++ es⟩) :: hp)
   | none => False
 | _, _ => False

def Y1 (s n : AV) (bytes : Nat) (K : Nat → Prop) : Prop :=
 match s, n with
 | .Ar, .int _ n => (0 < n ∧ n * bytes ≤ 140737488355328 ∧ n ≤ 1099511627776) ∧ K n.toNat
 | _, _ => False
def VF (dst : IntKind) (x : AV) (K : AV → Prop) : Prop :=
 match x with
 | .int _ n => inR dst n ∧ K (.int dst n)
 | _ => False
def Hh (i : Nat) (x : AV) (K : AV → Prop) : Prop :=
 match x with
 | .tup xs => i < xs.length ∧ K (xs.getD i .top)
 | _ => False
def GQ (x : AV) (K : AV → Prop) : Prop :=
 match x with
 | .obj _ | .ptr _ _ _ _ | .fn _ _ => K x
 | _ => False
def aMm (mx : Bool) (xs : List AV) (K : AV → Prop) : Prop :=
 match xs with
 | [.int k a, .int k' b] => k = k' ∧ K (.int k (if mx then max a b else min a b))
 | _ => False
def KD (s : ByteArray) : List AV := s.data.toList.map fun b : UInt8 => AV.int .u8 b.toNat
def AcU (x : AV) (K : ByteArray → Prop) : Prop :=
 match x with
 | .str s => K s
 | _ => False
def AbS (x : AV) (K : AV → Prop) : Prop :=
 match x with
 | .Ar => K (.int .i64 0)
 | _ => False
def AbV (x : Option (List AV)) (K : AV → Prop) : Prop :=
 match x with
 | some es => ∃ l : List UInt8, es = l.map (fun b : UInt8 => AV.int .u8 b.toNat) ∧ K (.str ⟨l.toArray⟩)
 | none => False

structure Env where
 w0 : World
 S : Nat → Prop
 own : Nat → Prop
 mu : Mu

structure Ext (E : Env) (w : World) : Prop where
 os : w.os = E.w0.os
 tape : w.tape = E.w0.tape
 output : w.output = E.w0.output
 size : E.w0.heap.size ≤ w.heap.size
 block : ∀ b, b < E.w0.heap.size → ¬ E.own b → w.heap[b]? = E.w0.heap[b]?

def Et (S : Nat → Prop) (w : World) (μ : Mu) (cur : Array Value) (esz : Nat) (es : List AV) : Prop :=
 (∀ e ∈ es, e.cells.length = esz ∧ ∀ x ∈ e.cells, x.one = true) ∧
 ∀ i j e x, es[i]? = some e → e.cells[j]? = some x → ∃ v, cur[i * esz + j]? = some v ∧ VR S w μ v x

def CX (w : World) (b : Nat) (cur : Array Value) (ty : TypeId) : Prop := ∃ fz : Nat × Nat, w.heap[b]? = some (.cells cur ty fz) ∧ (fz = (0, 0) ∨ cur.size ≤ fz.1)
theorem CX.mk0 {w : World} {b : Nat} {cur : Array Value} {ty : TypeId} (h : w.heap[b]? = some (.cells cur ty (0, 0))) : CX w b cur ty := ⟨_, h, .inl rfl⟩
theorem CX.of {w w' : World} {b : Nat} {cur : Array Value} {ty : TypeId} (h : CX w b cur ty) (e : w'.heap[b]? = w.heap[b]?) : CX w' b cur ty := let ⟨fz, h1, h2⟩ := h; ⟨fz, e.trans h1, h2⟩
theorem CX.lt {w : World} {b : Nat} {cur : Array Value} {ty : TypeId} (h : CX w b cur ty) : b < w.heap.size := let ⟨_, h1, _⟩ := h; (Array.getElem?_eq_some_iff.1 h1).1
theorem CX.cell {w : World} {b : Nat} {cur : Array Value} {ty : TypeId} (h : CX w b cur ty) (j : Nat) : w.cell? ⟨b, j, none⟩ = cur[j]? := by
 obtain ⟨fz, h1, _⟩ := h
 simp [World.cell?, h1]
theorem CX.Aed {w : World} {b : Nat} {cur : Array Value} {ty : TypeId} (h : CX w b cur ty) {j : Nat} (hj : j < cur.size) : w.frozen? ⟨b, j, none⟩ = false := by
 obtain ⟨⟨lo, hi⟩, h1, h2⟩ := h
 simp only [World.frozen?, h1]
 rcases h2 with e | e
 ·cases e; simp
 ·have : ¬ lo ≤ j := by simp only at e; omega
  simp [this]
theorem CX.setRow {w : World} {b : Nat} {cur cur' : Array Value} {ty : TypeId} (h : CX w b cur ty) (hs : cur'.size = cur.size) : CX (w.setRow b cur') b cur' ty := let ⟨fz, h1, h2⟩ := h; ⟨fz, setRow_heap w b cur cur' ty fz h1, h2.imp id fun e => by rw [hs]; exact e⟩
theorem CX.store {P : Program} {b o : Nat} {ty : TypeId} : ∀ (vs : List Value) (i : Nat) (cur : Array Value) (w : World), CX w b cur ty → o + i + vs.length ≤ cur.size → (∀ v ∈ vs, v.oneCell' = true) →
  (storeCells ⟨b, o, none⟩ vs i).run P w = .ok () (w.setRow b (cur.toList.take (o + i) ++ vs ++ cur.toList.drop (o + i + vs.length)).toArray)
 | [], i, cur, w, hg, _, _ => by
  obtain ⟨fz, h1, _⟩ := hg
  simp only [storeCells, List.append_nil, List.length_nil, Nat.add_zero, List.take_append_drop, Array.toArray_toList]
  rw [setRow_self w b cur ty fz h1]
  rfl
 | v :: rest, i, cur, w, hg, hl, h1 => by
  have hi : o + i < cur.size := by simp at hl; omega
  have hadd : (⟨b, o, none⟩ : Addr).add i = ⟨b, o + i, none⟩ := by unfold Addr.add; split <;> simp_all
  have hcell : w.cell? ⟨b, o + i, none⟩ = some cur[o + i] := by rw [hg.cell]; simp [hi]
  have hfro := hg.Aed hi
  have hst : (Go.store ((⟨b, o, none⟩ : Addr).add i) v).run P w = .ok () (w.setRow b (cur.setIfInBounds (o + i) v)) := by
   obtain ⟨fz, h2, _⟩ := hg
   rw [hadd, run_store P w _ v _ (h1 v (by simp)), hcell]
   simp [hfro, setCell_eq_setRow w b (o + i) cur ty fz v h2]
  have ih := CX.store (P := P) (b := b) (o := o) (ty := ty) rest (i + 1) (cur.setIfInBounds (o + i) v) (w.setRow b (cur.setIfInBounds (o + i) v)) (hg.setRow (by simp)) (by simp at hl ⊢; omega) (fun x hx => h1 x (by simp [hx]))
  simp only [storeCells, Sem.run_bind, hst, Result.andThen_ok, ih, setRow_setRow]
  congr 3
  have e := list_seg_step cur.toList (o + i) v rest (by simp at hl ⊢; omega)
  simpa [Array.toList_setIfInBounds, Nat.add_assoc] using e
theorem CX.room {P : Program} {w : World} {t ty e : TypeId} {i : TypeInfo} (ht : P.underlying t = some (.slice e)) (hi : P.info? e = some i) {g sLen sCap : Nat} {cur : Array Value} (hg : CX w g cur e)
  (a : Addr) (m c : Nat) (news : List Value) (hl : news.length = m * i.size) (hnews : ∀ j u, news[j]? = some u → w.cell? (a.add j) = some u) (h1 : ∀ u ∈ news, u.oneCell' = true)
  (hroom : sLen + m ≤ sCap) (hfit : sLen * i.size + news.length ≤ cur.size) :
  (Builtin.append_ #[t, t] ty #[.slice (some ⟨g, 0, none⟩) sLen sCap, .slice (some a) m c]).run P w =
   .ok (.slice (some ⟨g, 0, none⟩) (sLen + m) sCap) (w.setRow g (cur.toList.take (sLen * i.size) ++ news ++ cur.toList.drop (sLen * i.size + news.length)).toArray) := by
 have hf := run_firstCells_some (P := P) w i.size m a m c news hl hnews
 have hst := CX.store (P := P) (b := g) (o := sLen * i.size) (ty := e) news 0 cur w hg (by simpa using hfit) h1
 simp only [Nat.add_zero] at hst
 simp [Builtin.append_, run_underlying ht, sizeOf, typeInfo, hi, Builtin.lenOf, hroom, hf, Addr.add_lit, hst]
def Aew (E : Env) (S : Nat → Prop) (w : World) (μ : Mu) (k : Nat) (bx : Box) : Prop :=
 ∃ B : Bk, μ k bx.ver = some B ∧ B.esz = bx.esz ∧
  match B.blk with
  | none => bx.es = []
  | some b => (bx.frz = false → E.w0.heap.size ≤ b ∨ E.own b) ∧ (bx.frz = true → S b) ∧ (bx.frz = false → ¬ S b) ∧
    ∃ cur, CX w b cur bx.ty ∧ cur.size = B.cap * B.esz ∧ B.cap ≤ maxLen ∧ bx.es.length ≤ B.cap ∧ Et S w μ cur B.esz bx.es

def NZ (μ : Mu) : Prop := ∃ N, 0 < N ∧ (∀ k v, N ≤ v → μ k v = none) ∧ ∀ k B, μ k 0 = some B → 5000 ≤ k ∧ B.blk = some (k - 5000)
structure WI (E : Env) (S : Nat → Prop) (w : World) (μ : Mu) (hp : Hp) : Prop where
 ext : Ext E w
 lt : ∀ b, S b → b < w.heap.size
 base : ∀ b, E.S b → S b
 new : ∀ b, S b → E.S b ∨ E.w0.heap.size ≤ b ∨ E.own b
 fresh : NZ μ
 box : ∀ k bx, Aw hp k = some bx → Aew E S w μ k bx
 apart : ∀ k k' bx bx' B B' b, Aw hp k = some bx → Aw hp k' = some bx' → k ≠ k' → bx.frz = false → bx'.frz = false →
  μ k bx.ver = some B → μ k' bx'.ver = some B' → B.blk = some b → B'.blk ≠ some b
 le : Mu.le E.mu μ

def Dy (P : Program) (f : FuncId) : Bool :=
 match P.funcs[f]? with
 | some fn => fn.body.isSome && fn.name != "runtime.NumGoroutine"
 | none => false
def Ap (P : Program) (f : FuncId) (args : List AV) (res : AV) : Prop :=
 Dy P f = true ∧ (∀ x ∈ args, Ac x) ∧ ∀ (S : Nat → Prop) (w : World) (vs : List Value), (∀ b, S b → b < w.heap.size) → VRs S w mu0 vs args →
  Calls P f vs.toArray w fun e w' => ∃ v, e = .returned v ∧ VR (fun b => S b ∨ (w.heap.size ≤ b ∧ b < w'.heap.size)) w' mu0 v res ∧ Below w.heap.size w w'

def Hr (μ : Mu) (hp : Hp) : Nat → Prop := fun b => ∃ k bx B, Aw hp k = some bx ∧ bx.frz = false ∧ μ k bx.ver = some B ∧ B.blk = some b
def Ay (P : Program) (f : FuncId) (args : List AV) (hp : Hp) (Post : AV → Hp → Prop) : Prop :=
 Dy P f = true ∧ ∀ (S : Nat → Prop) (w : World) (μ : Mu) (vs : List Value), WI ⟨w, S, Hr μ hp, μ⟩ S w μ hp → VRs S w μ vs args →
  Calls P f vs.toArray w fun e w' => ∃ v r hp' S' μ', e = .returned v ∧ Post r hp' ∧ VR S' w' μ' v r ∧ WI ⟨w, S, Hr μ hp, μ⟩ S' w' μ' hp'
def I5 (hs : List Nat) (hp : Hp) : Hp := hs.filterMap fun k => (Aw hp k).map fun b => (k, b)
def BN (hs : List Nat) (hp : Hp) : Hp := hp.filter fun p => !hs.contains p.1
def KG (hp : Hp) (k : Nat) : Hp :=
 match Aw hp k with
 | some b => (k, { b with frz := true, es := b.es.map (AV.pur hp) }) :: hp
 | none => hp

def Cy : List Nat → Hp → Hp
 | [], hp => hp
 | k :: r, hp => Cy r (KG hp k)
def AV.Je : AV → Bool
 | .bool _ | .int _ _ | .str _ | .Cx | .Ar | .IZ => true
 | _ => false
def AV.Wd : AV → Bool
 | .tup xs => xs.all AV.Je
 | x => x.Je
def AV.plain : AV → Bool
 | .agg cs => cs.all AV.Je
 | x => x.Je
theorem Zv {hp : Hp} {x : AV} (h : x.Je = true) : x.AR hp = x := by cases x <;> first | rfl | (simp [AV.Je] at h)
theorem X7 {α : Type} {f : α → α} {l : List α} (h : ∀ x ∈ l, f x = x) : l.map f = l := (List.map_congr_left (g := id) fun x hx => h x hx).trans (List.map_id _)
theorem Zu {hp : Hp} : ∀ {x : AV}, x.plain = true → x.pur hp = x
 | .agg cs, h => by
  have h' : ∀ y ∈ cs, y.Je = true := List.all_eq_true.1 h
  show AV.agg (cs.map (AV.AR hp)) = AV.agg cs
  rw [X7 fun y hy => Zv (h' y hy)]
 | .bool _, _ | .int _ _, _ | .str _, _ | .Cx, _ | .Ar, _ | .IZ, _ => rfl
theorem ZA {hp : Hp} {es : List AV} (h : es.all AV.plain = true) : es.map (AV.pur hp) = es := X7 fun x hx => Zu (List.all_eq_true.1 h x hx)
theorem Nz {fr : Nat → AV} {esz : Nat} : ∀ {ps : List (Nat × Ax)} {es : List AV} {L L' : List AV → Prop}, (∀ es, L es → L' es) → D8 fr esz es ps L → D8 fr esz es ps L'
 | [], es, L, L', hl, h => hl _ h
 | (i, x) :: r, es, L, L', hl, h => ⟨h.1, Nz hl h.2⟩
theorem RF {fr : Nat → AV} {esz : Nat} : ∀ {ps : List (Nat × Ax)} {es : List AV} {L : List AV → Prop}, D8 fr esz es ps L → ∃ fs, L fs ∧ ∀ L' : List AV → Prop, L' fs → D8 fr esz es ps L'
 | [], es, L, h => ⟨es, h, fun _ h' => h'⟩
 | (i, x) :: r, es, L, h => by
  obtain ⟨fs, h1, h2⟩ := RF h.2
  exact ⟨fs, h1, fun L' h' => ⟨h.1, h2 L' h'⟩⟩
def AV.HN : AV → Bool
 | .bool _ | .int _ _ | .str _ | .Cx | .Ar | .IZ | .ptr _ _ _ _ | .row _ _ _ => true
 | _ => false
def AV.Mg : AV → Bool
 | .agg cs => cs.all AV.HN
 | x => x.HN
def AV.free : AV → Bool
 | .tup cs => cs.all AV.Mg
 | x => x.Mg
def Gi (hp : Hp) : Prop := ∀ k bx, Aw hp k = some bx → bx.frz = false ∧ ∀ e ∈ bx.es, ∀ x ∈ e.cells, x.HN = true
def PQ (P : Program) (f : FuncId) (args : List AV) (hp : Hp) (K : AV → Hp → Prop) : Prop := ∃ hs Post, (Ay P f args (I5 hs hp) Post ∧ ∀ r hp', Post r hp' → K r (hp' ++ BN hs hp)) ∨
 (Ay P f (args.map (AV.Bv (Cy hs hp))) [] Post ∧ ∀ r hp', Post r hp' → (r.free = true ∧ Gi hp') ∧ K r (hp' ++ hp))
def Mz (P : Program) (x : AV) (args : List AV) (hp : Hp) (K : AV → Hp → Prop) : Prop :=
 match x with
 | .fn f caps => PQ P f (args ++ caps) hp K
 | _ => False
def NB (P : Program) (f : FuncId) (args : List AV) (hp : Hp) (K : AV → Prop) : Prop := ∃ r, (Ap P f args r ∨ ∃ ks, Ap P f (args.map (AV.Bv (Cy ks hp))) r ∧ r.Wd = true) ∧ K r
def SX (P : Program) (x : AV) (args : List AV) (hp : Hp) (K : AV → Prop) : Prop :=
 match x with
 | .fn f caps => NB P f (args ++ caps) hp K
 | _ => False
def Pa (r : AV) (hp : Hp) : Hp :=
 match r with
 | .row k _ _ => KG hp k
 | _ => hp
def IOp.sem (P : Program) (fr : Nat → AV) (hp : Hp) (K : AV → Hp → Prop) : IOp → Prop
 | .mov x => K (x.ev fr) hp
 | .pick c a b => VB (c.ev fr) (a.ev fr) (b.ev fr) fun v => K v hp
 | .bin op kd x y => GR op kd (x.ev fr) (y.ev fr) fun v => K v hp
 | .AbI op x y => MB op (x.ev fr) (y.ev fr) fun v => K v hp
 | .AdP op x y => GI op (x.ev fr) (y.ev fr) fun v => K v hp
 | .un op x => aUn op (x.ev fr) fun v => K v hp
 | .AcS x => (x.ev fr).ok = true ∧ K (.obj ((x.ev fr).pur hp).cells) hp
 | .Ms k ty n x => ((x.ev fr).ok = true ∧ (x.ev fr).cells.length = n) ∧ ∀ v, K (.ptr k v 0 0) ((k, ⟨v, false, ty, n, [x.ev fr]⟩) :: hp)
 | .build zero parts => Hi fr zero parts fun cs => K (.agg cs) hp
 | .slP m zero parts => D8 fr zero.cells.length (List.replicate m zero) parts fun es => K (.sl (es.map (AV.pur hp))) hp
 | .slF m zero parts => D8 fr zero.cells.length (List.replicate m zero) parts fun es => es.all AV.plain = true ∧ K (.sl es) hp
 | .slO k ty m zero parts => D8 fr zero.cells.length (List.replicate m zero) parts fun es => ∀ v, K (.row k v m) ((k, ⟨v, false, ty, zero.cells.length, es⟩) :: hp)
 | .load agg n a => FX hp agg n (a.ev fr) fun v => K v hp
 | .Nl agg n a => FX [] agg n (a.ev fr) fun v => K v hp
 | .store n a x => Lj hp n (a.ev fr) (x.ev fr) fun hp => K (.tup []) hp
 | .BQ off x => I8 off (x.ev fr) fun v => K v hp
 | .fld agg off n x => AbQ agg off n (x.ev fr) fun v => K v hp
 | .Hc esz x i => FY hp esz (x.ev fr) (i.ev fr) fun v => K v hp
 | .MN esz x i => FY [] esz (x.ev fr) (i.ev fr) fun v => K v hp
 | .Adl x i => VA (x.ev fr) (i.ev fr) fun v => K v hp
 | .slice esz x lo hi => FW fr esz lo hi (x.ev fr) fun v => K v hp
 | .len g x => Mx g (x.ev fr) fun v => K v hp
 | .append k ty esz bytes s x => Qc hp k ty esz bytes (s.ev fr) ((GH hp (x.ev fr)).map (·.map (AV.pur hp))) K
 | .WW k ty esz bytes s x => Qc hp k ty esz bytes (s.ev fr) ((GH hp (x.ev fr)).map (·.map (AV.pur hp))) fun r hp' => K (r.pur (Pa r hp')) (Pa r hp')
 | .mkSlice k ty bytes zero m => match m.ev fr with
   | .int _ n => (0 ≤ n ∧ n * bytes ≤ 140737488355328) ∧ ∀ v, K (.row k v n.toNat) ((k, ⟨v, false, ty, zero.cells.length, List.replicate n.toNat zero⟩) :: hp)
   | _ => False
 | .Vx k ty bytes zero s n => Y1 (s.ev fr) (n.ev fr) bytes fun m => ∀ v, K (.row k v m) ((k, ⟨v, false, ty, zero.cells.length, List.replicate m zero⟩) :: hp)
 | .conv dst x => VF dst (x.ev fr) fun v => K v hp
 | .b2s x => AbV (GH hp (x.ev fr)) fun v => K v hp
 | .s2b k ty x => AcU (x.ev fr) fun s => ∀ v, K (.row k v s.size) ((k, ⟨v, false, ty, 1, KD s⟩) :: hp)
 | .cap x => AbS (x.ev fr) fun v => K v hp
 | .extract i x => Hh i (x.ev fr) fun v => K v hp
 | .call f args => NB P f (args.map fun x => (x.ev fr).Bv hp) hp fun v => K v hp
 | .Vc f args => (∀ hp, (args.map fun x => (x.ev fr).Bv hp) = args.map fun x => x.ev fr) ∧ NB P f (args.map fun x => x.ev fr) [] fun v => K v hp
 | .AbA f args => SX P ((f.ev fr).Bv hp) (args.map fun x => (x.ev fr).Bv hp) hp fun v => K v hp
 | .D6 f args => PQ P f (args.map fun x => (x.ev fr).Bv hp) hp K
 | .Lf f args => Mz P ((f.ev fr).Bv hp) (args.map fun x => (x.ev fr).Bv hp) hp K
 | .AdB f caps => K (.fn f (caps.map fun x => x.ev fr)) hp
 | .Ed x => GQ (x.ev fr) fun v => K v hp
 | .mm mx xs => aMm mx (xs.map fun x => x.ev fr) fun v => K v hp
 | .LS neg x => match x.ev fr with
   | .sl es => (es = [] → K (.bool (!neg)) hp) ∧ K (.bool neg) hp
   | .Ar => K (.bool (!neg)) hp
   | _ => False
 | .bad => False

structure St where
 fr : List (Nat × AV)
 hp : Hp
def St.put (s : St) (d : Option Nat) (x : AV) (hp : Hp) : St :=
 match d with
 | some d => ⟨(d, x) :: s.fr, hp⟩
 | none => ⟨s.fr, hp⟩

def FR : Hp → List Nat
 | [] => []
 | (k, _) :: r => if (FR r).contains k then FR r else k :: FR r
def K9 (hp : Hp) : Hp := Cy (FR hp) (Cy (FR hp) hp)

def IOp.quiet : IOp → Bool
 | .Ms .. | .slO .. | .store .. | .append .. | .WW .. | .mkSlice .. | .Vx .. | .s2b .. | .D6 .. | .Lf .. | .LS .. => false
 | _ => true

def BM (P : Program) (Q : St → Prop) : List B9 → St → Prop
 | [], s => Q s
 | o :: rest, s =>
  match o.guard with
  | none => o.op.sem P (BJ s.fr) s.hp fun v hp => BM P Q rest (s.put o.dst v hp)
  | some (t, want) =>
   match BJ s.fr t with
   | .bool b => (b = want → o.op.sem P (BJ s.fr) s.hp fun v hp => BM P Q rest (s.put o.dst v hp)) ∧ (b = (!want) → BM P Q rest (s.put o.dst (.tup []) s.hp))
   | .tup _ => BM P Q rest (s.put o.dst (.tup []) s.hp)
   | _ => False

end Go.Proofs.YtjbcnilllfaipaaGreat.Av

namespace Go.Proofs.YtjbcnilllfaipaaGreat.Av
open Go.RowKit

def Acz : Value → Option AV
 | .bool b => some (.bool b)
 | .int k n => if k.min ≤ n ∧ n ≤ k.max then some (.int k n) else none
 | .string s => if s.size ≤ maxLen then some (.str s) else none
 | .pointer none => some .Cx
 | .slice none 0 0 => some .Ar
 | .nilFunc => some .IZ
 | _ => none
def Aa7 : List Value → Option (List AV)
 | [] => some []
 | v :: r => match Acz v, Aa7 r with
   | some x, some xs => some (x :: xs)
   | _, _ => none
def K5 : Value → Option AV
 | .agg cs => (Aa7 cs.toList).map .agg
 | v => Acz v
def SM (s : ByteArray) : List Nat := s.data.toList.map UInt8.toNat
theorem ZQ (s : ByteArray) : bs (SM s) = s := by
 have h : (UInt8.ofNat ∘ UInt8.toNat) = id := by funext x; simp
 apply ByteArray.ext
 simp [bs, SM, h]
def AB : Operand → Option Ax
 | .tmp t => some (.t t)
 | .const (.string s) => if s.size ≤ maxLen then some (.s (SM s)) else none
 | .const v => (K5 v).map .c
 | .func f => some (.c (.fn f []))
 | .global _ => none
def Cz : List Operand → Option (List Ax)
 | [] => some []
 | x :: r => match AB x, Cz r with
   | some x, some xs => some (x :: xs)
   | _, _ => none

def B4 (P : Program) (t : TypeId) : Option Nat := (P.info? t).map (·.size)
def Lq (P : Program) (t : TypeId) : Option Bool :=
 match P.underlying t with
 | some (.struct _) | some (.array _ _) => some true
 | some _ => some false
 | none => none
def SG (P : Program) (t : TypeId) : Option Nat :=
 match P.underlying t with
 | some .bool => some 0
 | some (.int _) => some 1
 | some .string => some 2
 | _ => none
def HU (P : Program) : List Field → Nat → Option (List Nat)
 | [], _ => some []
 | f :: r, i => match SG P f.type, HU P r (i + 1) with
   | some k, some ks => if f.offset = i ∧ f.name ≠ "_" then some (k :: ks) else none
   | _, _ => none
def F9 (P : Program) (t : TypeId) : EqK :=
 match P.underlying t with
 | some .bool => .bool
 | some (.pointer e) => .ptr
 | some (.slice _) => .slice
 | some (.struct fs) => if P.stoodInHeld t = false then (match HU P fs.toList 0 with
   | some ks => .flat ks
   | none => .other) else .other
 | _ => .other

def Fo (P : Program) (t : TypeId) : Option TypeId :=
 match P.underlying t with
 | some (.slice e) => some e
 | _ => none
def Ep (P : Program) (t : TypeId) : Option AV := ((P.info? t).bind (·.zero)).bind K5
def JZ (P : Program) (fs : Array Field) : List (Nat × Operand) → Option (List (Nat × Nat × Ax))
 | [] => some []
 | (i, x) :: r => match fs[i]?, AB x, JZ P fs r with
   | some f, some x, some r => (B4 P f.type).map fun n => (f.offset, n, x) :: r
   | _, _, _ => none
def Ik : List (Nat × Operand) → Option (List (Nat × Ax))
 | [] => some []
 | (i, x) :: r => match AB x, Ik r with
   | some x, some r => some ((i, x) :: r)
   | _, _ => none
def R7 : Operand → Operand → Bool
 | .tmp a, .tmp b => a == b
 | .const (.int k a), .const (.int k' b) => k == k' && a == b
 | _, _ => false

def Qm (P : Program) (t : TypeId) : Option Nat :=
 match P.underlying t with
 | some .string => some 0
 | some (.slice e) => match B4 P e with
   | some (n + 1) => some (n + 1)
   | _ => none
 | _ => none

def Wq (P : Program) (op : BinOp) (t : TypeId) (x y : Ax) : Option IOp :=
 match y with
 | .c .Ar => if F9 P t = .slice then (match op with
   | .eql => some (.LS false x)
   | .neq => some (.LS true x)
   | _ => none) else none
 | _ => none

def AeG (own : List (Nat × Nat)) (o : Oper) : Option Nat := (o.dst.bind fun d => own.lookup d).bind fun k => if k = 7775 ∨ k = 7774 then none else some k
def OO (P : Program) (own : List (Nat × Nat)) (o : Oper) : Option IOp :=
 let mk := AeG own o
 let mkA : Option Nat := if mk = some 9999 then none else if mk = none then o.dst else mk
 match o.op with
 | .move x | .assign x => (AB x).map .mov
 | .pick c a b => match AB c, AB a, AB b with
   | some c, some a, some b => some (.pick c a b)
   | _, _, _ => none
 | .binOp op t x y _ => match AB x, AB y with
   | some x, some y => if mk = some 7776 then Wq P op t x y else match op, mk with
    | .shl, _ | .shr, _ | .and, _ | .or, _ | .xor, _ | _, some _ => some (.AdP op x y)
    | _, none => some (.bin op (F9 P t) x y)
   | _, _ => none
 | .unOp op _ x => (AB x).map (.un op)
 | .alloc e => match Ep P e, B4 P e, mkA with
   | some z, some _, none => some (.AcS (.c z))
   | some z, some n, some k => some (.Ms k e n (.c z))
   | _, _, _ => none
 | .box e x => match AB x, B4 P e, mk with
   | some x, some _, none => some (.AcS x)
   | some x, some n, some k => some (.Ms k e n x)
   | _, _, _ => none
 | .build t ps => match P.underlying t with
   | some (.struct fs) => match Ep P t, JZ P fs ps.toList with
    | some z, some ps => if z.isAgg ∧ (fs.toList.all fun f => (B4 P f.type).isSome) then some (.build z.cells ps) else none
    | _, _ => none
   | _ => none
 | .buildSlice t n ps => match Fo P t with
   | some e => match B4 P e, Ep P e, Ik ps.toList with
    | some sz, some z, some ps => if z.cells.length = sz ∧ 0 < sz ∧ n * sz ≤ 2 ^ 24 then
      (match (if n = 0 then mkA else mk) with
       | none => some (.slP n z ps)
       | some k => some (.slO k e n z ps)) else none
    | _, _, _ => none
   | none => none
 | .load t a => match Lq P t, B4 P t, AB a with
   | some g, some n, some a => some (.load g n a)
   | _, _, _ => none
 | .store t a x => match B4 P t, AB a, AB x with
   | some n, some a, some x => some (.store n a x)
   | _, _, _ => none
 | .fieldAddr s x f => match P.underlying s with
   | some (.struct fs) => match fs[f]?, AB x with
    | some fd, some x => match B4 P fd.type with
     | some (n + 1) => some (.BQ fd.offset x)
     | _ => none
    | _, _ => none
   | _ => none
 | .field s x f => match P.underlying s with
   | some (.struct fs) => match fs[f]?, AB x with
    | some fd, some x => match B4 P fd.type, Lq P fd.type with
     | some n, some g => some (.fld g fd.offset n x)
     | _, _ => none
    | _, _ => none
   | _ => none
 | .indexAddr t x i => match Fo P t with
   | some e => match B4 P e, AB x, AB i with
    | some (n + 1), some x, some i => some (.Hc (n + 1) x i)
    | _, _, _ => none
   | none => none
 | .index t x i => match P.underlying t, AB x, AB i with
   | some .string, some x, some i => some (.Adl x i)
   | _, _, _ => none
 | .slice t x lo hi none => match Qm P t, AB x with
   | some n, some x => match lo.map AB, hi.map AB with
    | none, none => some (.slice n x none none)
    | some (some lo), none => some (.slice n x (some lo) none)
    | none, some (some hi) => some (.slice n x none (some hi))
    | some (some lo), some (some hi) => some (.slice n x (some lo) (some hi))
    | _, _ => none
   | _, _ => none
 | .makeSlice t l c => match Fo P t with
   | some e => match P.info? e, Ep P e, AB l with
    | some i, some z, some l' => if R7 l c ∧ z.cells.length = i.size ∧ 0 < i.size ∧ 0 < i.bytes then (match mkA with | some k => some (.mkSlice k e i.bytes z l') | none => none) else none
    | _, _, _ => none
   | none => none
 | .convert s d x => match P.underlying s, P.underlying d, AB x with
   | some (.int _), some (.int k), some x => some (.conv k x)
   | some (.slice e), some .string, some x => match P.underlying e with
    | some (.int .u8) => if B4 P e = some 1 then some (.b2s x) else none
    | _ => none
   | some .string, some (.slice e), some x => match P.underlying e, mkA with
    | some (.int .u8), some k => some (.s2b k e x)
    | _, _ => none
   | _, _, _ => none
 | .extract x i => (AB x).map (.extract i)
 | .makeFunc (.func f) first caps => if first.isEmpty then (Cz caps.toList).map (.AdB f) else none
 | .nilCheck x => (AB x).map .Ed
 | .call c => match c.callee with
  | .builtin .len => match c.args.toList, c.argTypes.toList with
   | [x], [t] => match P.underlying t, AB x with
    | some .string, some x => some (.len true x)
    | some (.slice _), some x => some (.len false x)
    | _, _ => none
   | _, _ => none
  | .builtin .append => match c.args.toList, c.argTypes.toList, mkA with
   | [s, x], [t, t'], some k => if t == t' then match Fo P t with
     | some e => match P.info? e, Ep P e, AB s, AB x with
      | some i, some z, some s, some x => if z.cells.length = i.size ∧ 0 < i.size then some (.append k e i.size i.bytes s x) else none
      | _, _, _, _ => none
     | none => none
    else match P.underlying t', Fo P t with
     | some (.int _), some e => match P.info? e, Ep P e, AB s, AB x with
      | some i, some z, some s, some x => if z.cells.length = i.size ∧ 0 < i.size then some (.Vx k e i.bytes z s x) else none
      | _, _, _, _ => none
     | _, _ => none
   | _, _, _ => none
  | .builtin .max => (Cz c.args.toList).map (.mm true)
  | .builtin .min => (Cz c.args.toList).map (.mm false)
  | .builtin .cap => match c.args.toList, c.argTypes.toList with
   | [x], [t] => match P.underlying t, AB x with
    | some (.slice _), some x => some (.cap x)
    | _, _ => none
   | _, _ => none
  | .value (.func f) => if Dy P f then (Cz c.args.toList).map (if own.contains (o.dst.getD 100000, 7777) then .D6 f else .call f) else none
  | .value f => match AB f, Cz c.args.toList with
   | some f, some xs => if own.contains (o.dst.getD 100000, 7777) then some (.Lf f xs) else some (.AbA f xs)
   | _, _ => none
  | _ => none
 | _ => none

def IOp.Nr (b : Bool) : IOp → IOp
 | .load g n a => if b = true then .Nl g n a else .load g n a
 | .slP m z ps => if b = true then .slF m z ps else .slP m z ps
 | .bin op kd x y => if b = true then .AbI op x y else .bin op kd x y
 | .Hc e x i => if b = true then .MN e x i else .Hc e x i
 | .call f as => if b = true then .Vc f as else .call f as
 | x => x
theorem W0 {hp : Hp} {g : Bool} {n : Nat} {x : AV} {K : AV → Prop} (h : FX [] g n x K) : FX hp g n x K := by
 cases x <;> first | exact h | exact h.elim
theorem VE {hp : Hp} {e : Nat} {x i : AV} {K : AV → Prop} (h : FY [] e x i K) : FY hp e x i K := by
 unfold FY at h ⊢
 split at h
 ·exact h
 ·exact h.elim
 ·exact h.elim
theorem Q7 : ∀ ks : List Nat, Cy ks ([] : Hp) = []
 | [] => rfl
 | k :: r => Q7 r
theorem W3 {P : Program} {f : FuncId} {hp : Hp} {as : List Ax} {fr : Nat → AV} {K : AV → Prop} (h : (∀ hp, (as.map fun x => (x.ev fr).Bv hp) = as.map fun x => x.ev fr) ∧ NB P f (as.map fun x => x.ev fr) [] K) : NB P f (as.map fun x => (x.ev fr).Bv hp) hp K := by
 obtain ⟨hp', r, h1, hk⟩ := h
 refine ⟨r, .inl ?_, hk⟩
 rw [hp' hp]
 rcases h1 with h1 | ⟨ks, h1, _⟩
 ·exact h1
 ·have e : Cy ks ([] : Hp) = [] := Q7 ks
  have h2 := hp' []
  rw [e, List.map_map] at h1
  exact h2 ▸ h1
theorem MS {P : Program} {b : Bool} {x : IOp} {fr : Nat → AV} {hp : Hp} {K : AV → Hp → Prop} (h : (x.Nr b).sem P fr hp K) : x.sem P fr hp K := by
 cases x <;> first | exact h | skip
 case load g n a =>
  cases b
  ·exact h
  ·exact W0 h
 case bin op kd x y =>
  cases b
  ·exact h
  ·exact Z3 h
 case Hc e x i =>
  cases b
  ·exact h
  ·exact VE (hp := hp) (e := e) (x := x.ev fr) (i := i.ev fr) (K := fun v => K v hp) h
 case call f as =>
  cases b
  ·exact h
  ·exact W3 (hp := hp) (as := as) (K := fun v => K v hp) h
 case slP m z ps =>
  cases b
  ·exact h
  ·exact Nz (fun es ⟨h1, h2⟩ => by rw [ZA h1]; exact h2) h
theorem UK {b : Bool} {x : IOp} : (x.Nr b).quiet = x.quiet := by
 cases x <;> first | rfl | (cases b <;> rfl)
def IOp.kept (b : Bool) : IOp → IOp
 | .append k ty e y s x => if b = true then .WW k ty e y s x else .append k ty e y s x
 | x => x
def OP (P : Program) (own : List (Nat × Nat)) (o : Oper) : Option IOp :=
 match OO P own o with
 | some x => some ((x.Nr (own.contains (o.dst.getD 100000, 7775))).kept (own.contains (o.dst.getD 100000, 7774)))
 | none => some .bad

def G4 (ops : Array Oper) : Option (Nat × Bool) → Option (Option (Nat × Bool))
 | none => some none
 | some (j, want) => match (ops[j]?).bind (·.dst) with
   | some t => some (some (t, want))
   | none => none
def Rl (nt : Nat) : Option Nat → Bool
 | some d => decide (d < nt)
 | none => true
def Hu (P : Program) (nt : Nat) (own : List (Nat × Nat)) (ops : Array Oper) (o : Oper) : Option B9 :=
 match G4 ops o.guard, OP P own o with
 | some g, some io => if Rl nt o.dst then some ⟨o.dst, g, io⟩ else none
 | _, _ => none

def Dv (P : Program) (nt : Nat) (own : List (Nat × Nat)) (ops : Array Oper) : List Oper → Option (List B9)
 | [] => some []
 | o :: r => match Hu P nt own ops o, Dv P nt own ops r with
   | some x, some xs => some (x :: xs)
   | _, _ => none

inductive BV where
 | skip
 | region (ops : List B9)
 | draw (ops : List B9)
 | both (a b : BV)
 | seq (a b : BV)
 | cond (c : Ax) (a b : BV)
 | block (id : Nat) (a : BV)
 | loop (a : BV)
 | exit (id : Nat)
 | scope (a : BV)
 | ret
 | Ev
 | ghost (a : BV)
 deriving Inhabited

end Go.Proofs.YtjbcnilllfaipaaGreat.Av

namespace Go.Proofs.YtjbcnilllfaipaaGreat.Av
open Go.RowKit

def Bc (P : Program) (ρ : Operand → Value) (o : Oper) (w : World) (R : Value → World → Prop) : Prop :=
 match (execOp ρ o).run P w with
 | .ok (.value v) w' => R v w'
 | .ok .skip w' => R undef w'
 | .ok (.enter f args) w' => Calls P f args w' fun e w'' => ∃ v, e = .returned v ∧ R v w''
 | _ => False
theorem Bc.wp {P : Program} {a : Act} {o : Oper} {w : World} {R : Value → World → Prop} {K : Act → World → Prop} {Q : Exit → Act → World → Prop} (h : Bc P a.eval o w R) (hk : ∀ v w', R v w' → K (a.put o.dst v) w') : o.wp P a w K Q := by
 unfold Bc at h
 unfold Oper.wp Oper.upon
 split at h
 ·rename_i v w' hr; rw [hr]; exact hk _ _ h
 ·rename_i w' hr; rw [hr]; exact hk _ _ h
 ·rename_i f args w' hr
  rw [hr]
  exact h.mono fun e w'' ⟨v, he, hv⟩ => by subst he; exact hk _ _ hv
 ·exact h.elim
theorem Bc.mono {P : Program} {ρ : Operand → Value} {o : Oper} {w : World} {R R' : Value → World → Prop} (h : Bc P ρ o w R) (hk : ∀ v w', R v w' → R' v w') : Bc P ρ o w R' := by
 unfold Bc at *
 split at h
 ·rename_i v w' hr; exact hk _ _ h
 ·rename_i w' hr; exact hk _ _ h
 ·rename_i f args w' hr
  exact h.mono fun e w'' ⟨v, he, hv⟩ => ⟨v, he, hk _ _ hv⟩
 ·exact h.elim
theorem Bc.val {P : Program} {ρ : Operand → Value} {o : Oper} {w w' : World} {R : Value → World → Prop} {v : Value} (hr : (execOp ρ o).run P w = .ok (.value v) w') (h : R v w') : Bc P ρ o w R := by
 unfold Bc; rw [hr]; exact h

def Cq (E : Env) (S : Nat → Prop) (μ : Mu) (w : World) (hp : Hp) (x : AV) (v : Value) (w' : World) : Prop :=
 ∃ S', VR S' w' μ v x ∧ WI E S' w' μ hp ∧ (∀ b, S b → S' b) ∧ Cc S w w'
theorem Cq.here {E : Env} {S : Nat → Prop} {μ : Mu} {w : World} {hp : Hp} {x : AV} {v : Value} (hw : WI E S w μ hp) (h : VR S w μ v x) : Cq E S μ w hp x v w :=
 ⟨S, h, hw, fun _ h => h, Cc.refl _ _⟩

def Fits (S : Nat → Prop) (w : World) (μ : Mu) (fr : Nat → AV) (ρ : Operand → Value) (xs : List Operand) : Prop :=
 ∀ x ∈ xs, ∀ ix, AB x = some ix → VR S w μ (ρ x) (ix.ev fr)

theorem Ya {S : Nat → Prop} {w : World} {μ : Mu} {v : Value} {x : AV} (h : Acz v = some x) : VR S w μ v x ∧ x.one = true := by
 unfold Acz at h
 split at h
 ·cases h; exact ⟨.bool _, rfl⟩
 ·split at h
  ·rename_i hr; cases h; exact ⟨.int _ _ hr.1 hr.2, rfl⟩
  ·cases h
 ·split at h
  ·rename_i hr; cases h; exact ⟨.str _ hr, rfl⟩
  ·cases h
 ·cases h; exact ⟨.Cx, rfl⟩
 ·cases h; exact ⟨.Ar, rfl⟩
 ·cases h; exact ⟨.IZ, rfl⟩
 ·cases h
theorem X9 {S : Nat → Prop} {w : World} {μ : Mu} : ∀ {vs : List Value} {xs : List AV}, Aa7 vs = some xs → VRs S w μ vs xs ∧ ∀ x ∈ xs, x.one = true
 | [], xs, h => by cases h; exact ⟨VRs.nil, by simp⟩
 | v :: vs, xs, h => by
  unfold Aa7 at h
  split at h
  ·rename_i x ys h1 h2
   cases h
   have a := Ya (S := S) (w := w) (μ := μ) h1
   have b := X9 (S := S) (w := w) (μ := μ) h2
   exact ⟨VRs.cons a.1 b.1, by intro y hy; rcases List.mem_cons.1 hy with e | e; exact e ▸ a.2; exact b.2 y e⟩
  ·cases h
theorem Ij {S : Nat → Prop} {w : World} {μ : Mu} {v : Value} {x : AV} (h : K5 v = some x) : VR S w μ v x ∧ x.ok = true := by
 unfold K5 at h
 split at h
 ·rename_i cs
  cases hl : Aa7 cs.toList with
  | none => rw [hl] at h; cases h
  | some xs =>
   rw [hl] at h
   cases h
   have a := X9 (S := S) (w := w) (μ := μ) hl
   exact ⟨.agg cs xs (by simpa using a.1.1) a.2 (fun i v x h1 h2 => a.1.2 i v x (by simpa using h1) h2), rfl⟩
 ·have a := Ya (S := S) (w := w) (μ := μ) h
  exact ⟨a.1, by simp [AV.ok, a.2]⟩
theorem AV.EX {x : AV} : x.ok = true ↔ x.one = true ∨ x.isAgg = true := by simp [AV.ok]

section
variable {P : Program} {E : Env} {S : Nat → Prop} {w : World} {μ : Mu} {hp : Hp} {fr : Nat → AV} {ρ : Operand → Value}

theorem Fits.one {x : Operand} {ix : Ax} {xs : List Operand} (h : Fits S w μ fr ρ xs) (hx : x ∈ xs) (hl : AB x = some ix) : VR S w μ (ρ x) (ix.ev fr) := h x hx ix hl
theorem Fits.args {xs : List Operand} : ∀ {l : List Operand} {is : List Ax}, Fits S w μ fr ρ xs → (∀ x ∈ l, x ∈ xs) → Cz l = some is → VRs S w μ (l.map ρ) (is.map fun x => x.ev fr)
 | [], is, h, hs, hl => by cases hl; exact VRs.nil
 | x :: l, is, h, hs, hl => by
  unfold Cz at hl
  split at hl
  ·rename_i y ys h1 h2
   cases hl
   exact VRs.cons (h x (hs x (by simp)) y h1) (Fits.args h (fun z hz => hs z (by simp [hz])) h2)
  ·cases hl

def QOk (P : Program) (E : Env) (fr : Nat → AV) (hp : Hp) (o : Oper) (K : AV → Prop) : Prop :=
 ∃ x, K x ∧ ∀ S w μ ρ, WI E S w μ hp → Fits S w μ fr ρ o.op.operands.toList → (∀ v, ρ (.const v) = v) → (∀ f, ρ (.func f) = .func (.func f) #[] #[]) → Bc P ρ o w (Cq E S μ w hp x)

theorem Ac1 {o : Oper} {x : Operand} {ix : Ax} {K : AV → Prop} (ho : o.op = .move x ∨ o.op = .assign x) (hl : AB x = some ix) (h : K (ix.ev fr)) : QOk P E fr hp o K := by
 refine ⟨_, h, fun S w μ ρ hw hf _ _ => ?_⟩
 have hv := hf.one (x := x) (by rcases ho with ho | ho <;> simp [ho, Op.operands]) hl
 exact Bc.val (v := ρ x) (w' := w) (by rcases ho with ho | ho <;> simp [execOp, ho]) (Cq.here hw hv)

theorem Adr {o : Oper} {c a b : Operand} {ic ia ib : Ax} {K : AV → Prop} (ho : o.op = .pick c a b) (hc : AB c = some ic) (ha : AB a = some ia) (hb : AB b = some ib)
  (h : VB (ic.ev fr) (ia.ev fr) (ib.ev fr) K) : QOk P E fr hp o K := by
 unfold VB at h
 split at h
 ·rename_i t ht
  have key : ∀ (x : AV), (t = true → x = ia.ev fr) → (t = false → x = ib.ev fr) → ∀ S w μ ρ, WI E S w μ hp → Fits S w μ fr ρ o.op.operands.toList → Bc P ρ o w (Cq E S μ w hp x) := by
   intro x h1 h2 S w μ ρ hw hf
   have hcv := hf.one (x := c) (by simp [ho, Op.operands]) hc
   have hav := hf.one (x := a) (by simp [ho, Op.operands]) ha
   have hbv := hf.one (x := b) (by simp [ho, Op.operands]) hb
   rw [ht] at hcv
   generalize hcc : ρ c = vc at hcv
   cases hcv
   refine Bc.val (v := if t then ρ a else ρ b) (w' := w) (by simp [execOp, ho, hcc, asBool]) (Cq.here hw ?_)
   cases t
   ·rw [h2 rfl]; exact hbv
   ·rw [h1 rfl]; exact hav
  cases t
  ·exact ⟨_, h.2 rfl, fun S w μ ρ hw hf _ _ => key _ (by simp) (fun _ => rfl) S w μ ρ hw hf⟩
  ·exact ⟨_, h.1 rfl, fun S w μ ρ hw hf _ _ => key _ (fun _ => rfl) (by simp) S w μ ρ hw hf⟩
 ·exact h.elim

end

end Go.Proofs.YtjbcnilllfaipaaGreat.Av

namespace Go.Proofs.YtjbcnilllfaipaaGreat.Av
open Go.RowKit

theorem Hm (k : IntKind) (n : Int) (h : inR k n) : k.wrap n = n := by
 obtain ⟨h1, h2⟩ := h
 cases k <;> simp only [IntKind.min, IntKind.max, IntKind.signed, IntKind.bits] at h1 h2 <;> simp only [IntKind.wrap, IntKind.signed, IntKind.bits] <;> simp at h1 h2 ⊢ <;> omega
theorem Eb (k : IntKind) (n : Int) : inR k (k.wrap n) := by
 unfold inR
 cases k <;> simp only [IntKind.min, IntKind.max, IntKind.signed, IntKind.bits, IntKind.wrap] <;> simp <;> omega

def W8 (P : Program) (t : TypeId) (op : BinOp) (a b : Value) (v : Value) : Prop := ∀ w, (binOp op t a b).run P w = .ok v w

theorem AbH {P : Program} {t : TypeId} {op : BinOp} {k : IntKind} {a b : Int} {K : AV → Prop} (h : IQ op k a b K) (hs : op ≠ .shl ∧ op ≠ .shr) :
  ∃ x v, K x ∧ W8 P t op (.int k a) (.int k b) v ∧ ∀ S w μ, VR S w μ v x := by
 unfold IQ at h
 cases op <;> simp only at h <;> try exact h.elim
 case add => exact ⟨_, .int k (a + b), h.2, fun w => by simp [binOp, Op.intArith, Hm k _ h.1], fun _ _ _ => .int _ _ h.1.1 h.1.2⟩
 case sub => exact ⟨_, .int k (a - b), h.2, fun w => by simp [binOp, Op.intArith, Hm k _ h.1], fun _ _ _ => .int _ _ h.1.1 h.1.2⟩
 case mul => exact ⟨_, .int k (a * b), h.2, fun w => by simp [binOp, Op.intArith, Hm k _ h.1], fun _ _ _ => .int _ _ h.1.1 h.1.2⟩
 case quo => exact ⟨_, .int k (a.tdiv b), h.2, fun w => by simp [binOp, Op.intDiv, h.1.1, Hm k _ h.1.2], fun _ _ _ => .int _ _ h.1.2.1 h.1.2.2⟩
 case rem => exact ⟨_, .int k (a.tmod b), h.2, fun w => by simp [binOp, Op.intDiv, h.1.1], fun _ _ _ => .int _ _ h.1.2.1 h.1.2.2⟩
 case eql => exact ⟨_, .bool (decide (a = b)), h, fun w => by simp [binOp, Op.intCmp]; rfl, fun _ _ _ => .bool _⟩
 case neq => exact ⟨_, .bool (!decide (a = b)), h, fun w => by simp [binOp, Op.intCmp, bne]; rfl, fun _ _ _ => .bool _⟩
 case lss => exact ⟨_, .bool (decide (a < b)), h, fun w => by simp [binOp, Op.intCmp], fun _ _ _ => .bool _⟩
 case leq => exact ⟨_, .bool (decide (a ≤ b)), h, fun w => by simp [binOp, Op.intCmp], fun _ _ _ => .bool _⟩
 case gtr => exact ⟨_, .bool (decide (b < a)), h, fun w => by simp [binOp, Op.intCmp], fun _ _ _ => .bool _⟩
 case geq => exact ⟨_, .bool (decide (b ≤ a)), h, fun w => by simp [binOp, Op.intCmp], fun _ _ _ => .bool _⟩

theorem bytes_inj {a b : ByteArray} (h : a.toList = b.toList) : a = b := by
 rw [ByteArray.toList_eq, ByteArray.toList_eq] at h
 exact ByteArray.ext (Array.toList_inj.1 h)
theorem Aca (a b : ByteArray) : (a.toList == b.toList) = decide (a = b) := by
 by_cases h : a = b
 ·subst h; simp
 ·rw [beq_eq_false_iff_ne.2 fun e => h (bytes_inj e)]; simp [h]

theorem AbF {P : Program} {t : TypeId} {op : BinOp} {a b : ByteArray} {K : AV → Prop} (h : Vz op a b K) :
  ∃ x v, K x ∧ W8 P t op (.string a) (.string b) v ∧ ∀ S w μ, VR S w μ v x := by
 unfold Vz at h
 cases op <;> simp only at h <;> try exact h.elim
 case add =>
  refine ⟨_, .string (a ++ b), h.2, fun w => ?_, fun _ _ _ => .str _ (by simpa using h.1)⟩
  have : ¬ (IntKind.i64.max < ((a.size + b.size : Nat) : Int)) := by
   have := h.1; unfold maxLen at this; show ¬ ((9223372036854775807 : Int) < _); omega
  simp only [binOp, Op.stringOp, gt_iff_lt, if_neg this]
  rfl
 case eql => exact ⟨_, .bool (decide (a = b)), h, fun w => by simp [binOp, Op.stringOp, Aca], fun _ _ _ => .bool _⟩
 case neq => exact ⟨_, .bool (!decide (a = b)), h, fun w => by simp [binOp, Op.stringOp, Aca], fun _ _ _ => .bool _⟩
 case lss => exact ⟨_, .bool (Op.bytesLess a.toList b.toList), h, fun w => by simp [binOp, Op.stringOp], fun _ _ _ => .bool _⟩

theorem ZV {P : Program} {t : TypeId} {op : BinOp} {x : Bool} {K : AV → Prop} {va vb : Value} (h : D9 op x K)
  (he : ∀ w, (binOp .eql t va vb).run P w = .ok (.bool x) w) (hn : ∀ w, (binOp .neq t va vb).run P w = .ok (.bool (!x)) w) :
  ∃ x v, K x ∧ W8 P t op va vb v ∧ ∀ S w μ, VR S w μ v x := by
 unfold D9 at h
 cases op <;> simp only at h <;> try exact h.elim
 case eql => exact ⟨_, .bool x, h, he, fun _ _ _ => .bool _⟩
 case neq => exact ⟨_, .bool (!x), h, hn, fun _ _ _ => .bool _⟩

theorem UZ {P : Program} {t : TypeId} (h : F9 P t = .bool) : P.underlying t = some .bool := by
 unfold F9 at h
 split at h
 ·assumption
 ·cases h
 ·cases h
 ·split at h
  ·split at h <;> cases h
  ·cases h
 ·cases h
theorem WN {P : Program} {t : TypeId} (h : F9 P t = .ptr) : ∃ e, P.underlying t = some (.pointer e) := by
 unfold F9 at h
 split at h
 ·cases h
 ·exact ⟨_, by assumption⟩
 ·cases h
 ·split at h
  ·split at h <;> cases h
  ·cases h
 ·cases h
theorem Mq {P : Program} {t : TypeId} (h : F9 P t = .slice) : ∃ e, P.underlying t = some (.slice e) := by
 unfold F9 at h
 split at h
 ·cases h
 ·cases h
 ·exact ⟨_, by assumption⟩
 ·split at h
  ·split at h <;> cases h
  ·cases h
 ·cases h
theorem UY {P : Program} {t : TypeId} {ks : List Nat} (h : F9 P t = .flat ks) : ∃ fs, P.underlying t = some (.struct fs) ∧ P.stoodInHeld t = false ∧ HU P fs.toList 0 = some ks := by
 unfold F9 at h
 split at h
 ·cases h
 ·cases h
 ·cases h
 ·rename_i fs hu
  split at h
  ·rename_i hs
   split at h
   ·rename_i ks' hk; cases h; exact ⟨fs, hu, hs, hk⟩
   ·cases h
  ·cases h
 ·cases h
theorem Rf {P : Program} {S : Nat → Prop} {w0 : World} {μ : Mu} {cs ds : Array Value} (w : World) : ∀ {fs : List Field} {i : Nat} {ks : List Nat} {xs ys : List AV} {r : Bool}, HU P fs i = some ks → EF ks xs ys = some r →
  (∀ (j : Nat) (x : AV), xs[j]? = some x → ∃ v, cs[i + j]? = some v ∧ VR S w0 μ v x) → (∀ (j : Nat) (y : AV), ys[j]? = some y → ∃ v, ds[i + j]? = some v ∧ VR S w0 μ v y) → (Op.eqFields 9999 cs ds fs).run P w = .ok r w
 | [], i, ks, xs, ys, r, hk, hr, _, _ => by
  obtain rfl : ks = [] := by simpa [HU] using hk.symm
  have : r = true := by
   unfold EF at hr
   split at hr <;> first | (cases hr; rfl) | (simp at *; done)
  subst this
  simp [Op.eqFields]
 | f :: fs, i, ks, xs, ys, r, hk, hr, hx, hy => by
  unfold HU at hk
  split at hk
  ·rename_i k ks' h1 h2
   split at hk
   ·rename_i h3
    obtain ⟨h3, h4⟩ := h3
    obtain rfl : ks = k :: ks' := by simpa using hk.symm
    have step : ∀ (x y : AV) (xs' ys' : List AV) (b : Bool) (r' : Bool), xs = x :: xs' → ys = y :: ys' → EF ks' xs' ys' = some r' → r = (b && r') →
      (∀ v u, VR S w0 μ v x → VR S w0 μ u y → v.oneCell' = true ∧ u.oneCell' = true ∧ (Op.equalIn 9999 f.type v u).run P w = .ok b w) → (Op.eqFields 9999 cs ds (f :: fs)).run P w = .ok r w := by
     intro x y xs' ys' b r' e1 e2 hf hb heq
     subst e1 e2
     obtain ⟨v, hv, hvr⟩ := hx 0 x rfl
     obtain ⟨u, hu, hur⟩ := hy 0 y rfl
     obtain ⟨_, _, he⟩ := heq v u hvr hur
     rw [Nat.add_zero] at hv hu
     have hagg : ∀ w, (isAgg f.type).run P w = .ok false w := fun w => by
      unfold SG at h1
      split at h1
      ·rename_i hu; simp [isAgg, run_underlying hu]
      ·rename_i hu; simp [isAgg, run_underlying hu]
      ·rename_i hu; simp [isAgg, run_underlying hu]
      ·cases h1
     have p1 : (part f.type cs f.offset).run P w = .ok v w := by simp [part, hagg, h3, hv]
     have p2 : (part f.type ds f.offset).run P w = .ok u w := by simp [part, hagg, h3, hu]
     have ih := Rf (cs := cs) (ds := ds) (S := S) (w0 := w0) (μ := μ) w h2 hf (fun j z hj => by
      obtain ⟨v', a1, a2⟩ := hx (j + 1) z (by simpa using hj)
      exact ⟨v', by rw [← a1]; congr 1; omega, a2⟩) (fun j z hj => by
      obtain ⟨v', a1, a2⟩ := hy (j + 1) z (by simpa using hj)
      exact ⟨v', by rw [← a1]; congr 1; omega, a2⟩)
     simp only [Op.eqFields, ne_eq, h4, not_false_eq_true, if_true, Sem.run_bind, p1, p2, he, Result.andThen_ok]
     cases b
     ·simp [hb]
     ·simp [hb, ih]
    unfold SG at h1
    unfold EF at hr
    split at hr
    ·rename_i h; cases h
    ·rename_i k' a xs' k'' b ys' e
     cases e
     split at hr
     ·rename_i hkk
      subst hkk
      obtain ⟨r', hf, hb⟩ := Option.map_eq_some_iff.1 hr
      refine step _ _ xs' ys' (decide (a = b)) r' rfl rfl hf hb.symm fun v u hv hu => ?_
      cases hv; cases hu
      refine ⟨rfl, rfl, ?_⟩
      split at h1
      ·cases h1
      ·rename_i kk hu
       rw [run_equalIn_int w 9998 f.type k' kk a b hu]
       congr 1
      ·cases h1
      ·cases h1
     ·cases hr
    ·rename_i a xs' b ys' e
     cases e
     obtain ⟨r', hf, hb⟩ := Option.map_eq_some_iff.1 hr
     refine step _ _ xs' ys' (decide (a = b)) r' rfl rfl hf hb.symm fun v u hv hu => ?_
     cases hv; cases hu
     refine ⟨rfl, rfl, ?_⟩
     split at h1
     ·rename_i hu
      rw [run_equalIn_bool' w 9998 f.type a b hu]
      congr 1
     ·cases h1
     ·cases h1
     ·cases h1
    ·rename_i a xs' b ys' e
     cases e
     obtain ⟨r', hf, hb⟩ := Option.map_eq_some_iff.1 hr
     refine step _ _ xs' ys' (decide (a = b)) r' rfl rfl hf hb.symm fun v u hv hu => ?_
     cases hv; cases hu
     refine ⟨rfl, rfl, ?_⟩
     split at h1
     ·cases h1
     ·cases h1
     ·rename_i hu
      rw [run_equalIn_string w 9998 f.type a b hu, Aca]
     ·cases h1
    ·cases hr
   ·cases hk
  ·cases hk
theorem Nq {P : Program} : ∀ {fs : List Field} {i : Nat} {ks : List Nat}, HU P fs i = some ks → ∀ f ∈ fs, ∀ d, P.eqGuardType (d + 1) f.type = false
 | [], _, _, _, f, hf => by cases hf
 | g :: r, i, ks, h, f, hf => by
  unfold HU at h
  split at h
  ·rename_i k ks' h1 h2
   rcases List.mem_cons.1 hf with rfl | hf
   ·intro d
    unfold SG at h1
    rw [Program.eqGuardType]
    split at h1 <;> first | (cases h1; done) | (rename_i hu; rw [hu])
   ·exact Nq h2 f hf
  ·cases h
theorem WD {P : Program} {t : TypeId} {fs : Array Field} (ht : P.underlying t = some (.struct fs)) {ks : List Nat} (h : HU P fs.toList 0 = some ks) : P.eqGuardType P.depth t = false := by
 obtain ⟨d, hd⟩ : ∃ d, P.depth = d + 1 + 1 := ⟨2 * (P.types.size + Made.depth), rfl⟩
 rw [hd, Program.eqGuardType, ht]
 simp only
 rw [Array.any_eq_false']
 intro f hf
 rw [Nq h f (Array.mem_def.1 hf) d, Bool.and_false]
 simp

theorem F8 {P : Program} {t : TypeId} {va vb : Value} {x : Bool} (h : ∀ w, (Op.equalIn Op.maxDepth t va vb).run P w = .ok x w) (h1 : ∀ op, binOp op t va vb = match op with | .eql => (do pure (.bool (← Op.equal t va vb))) | .neq => (do pure (.bool (!(← Op.equal t va vb)))) | _ => binOp op t va vb) :
  (∀ w, (binOp .eql t va vb).run P w = .ok (.bool x) w) ∧ (∀ w, (binOp .neq t va vb).run P w = .ok (.bool (!x)) w) := by
 refine ⟨fun w => ?_, fun w => ?_⟩ <;> rw [h1] <;> simp [Op.equal, h]

theorem AcN {P : Program} {t : TypeId} (ht : P.underlying t = some .bool) (a b : Bool) : ∀ w, (Op.equalIn Op.maxDepth t (.bool a) (.bool b)).run P w = .ok (a == b) w := fun w => by
 show (Op.equalIn (9999 + 1) _ _ _).run P w = _; rw [Op.equalIn]; simp [run_underlying ht]
theorem Abt {P : Program} {t e : TypeId} (ht : P.underlying t = some (.pointer e)) (a b : Option Addr) (h : a = none ∨ b = none) : ∀ w, (Op.equalIn Op.maxDepth t (.pointer a) (.pointer b)).run P w = .ok (a.isNone && b.isNone) w := fun w => by
 rcases h with h | h <;> subst h
 ·show (Op.equalIn (9999 + 1) _ _ _).run P w = _; rw [Op.equalIn]; simp [run_underlying ht]
 ·show (Op.equalIn (9999 + 1) _ _ _).run P w = _; rw [Op.equalIn]; cases a <;> simp [run_underlying ht]
theorem Po {P : Program} {t e : TypeId} (ht : P.underlying t = some (.slice e)) (a b : Option Addr) (n c m d : Nat) (h : a = none ∨ b = none) : ∀ w, (Op.equalIn Op.maxDepth t (.slice a n c) (.slice b m d)).run P w = .ok (a.isNone && b.isNone) w := fun w => by
 rcases h with h | h <;> subst h
 ·show (Op.equalIn (9999 + 1) _ _ _).run P w = _; rw [Op.equalIn]; simp [run_underlying ht]
 ·show (Op.equalIn (9999 + 1) _ _ _).run P w = _; rw [Op.equalIn]; cases a <;> simp [run_underlying ht]

theorem AbG {P : Program} {t e : TypeId} {op : BinOp} {x : Bool} {K : AV → Prop} (ht : P.underlying t = some (.pointer e)) (h : D9 op x K) :
  ∃ z, K z ∧ ∀ (a b : Option Addr), (a = none ∨ b = none) → (a.isNone && b.isNone) = x → ∃ v, W8 P t op (.pointer a) (.pointer b) v ∧ ∀ S w μ, VR S w μ v z := by
 unfold D9 at h
 cases op <;> simp only at h <;> try exact h.elim
 case eql => exact ⟨_, h, fun a b h1 h2 => ⟨.bool _, (F8 (Abt ht a b h1) (fun op => by cases op <;> rfl)).1, fun _ _ _ => by rw [h2]; exact .bool _⟩⟩
 case neq => exact ⟨_, h, fun a b h1 h2 => ⟨.bool _, (F8 (Abt ht a b h1) (fun op => by cases op <;> rfl)).2, fun _ _ _ => by rw [h2]; exact .bool _⟩⟩
theorem WV {P : Program} {t e : TypeId} {op : BinOp} {x : Bool} {K : AV → Prop} (ht : P.underlying t = some (.slice e)) (h : D9 op x K) :
  ∃ z, K z ∧ ∀ (a b : Option Addr) (n c m d : Nat), (a = none ∨ b = none) → (a.isNone && b.isNone) = x → ∃ v, W8 P t op (.slice a n c) (.slice b m d) v ∧ ∀ S w μ, VR S w μ v z := by
 unfold D9 at h
 cases op <;> simp only at h <;> try exact h.elim
 case eql => exact ⟨_, h, fun a b n c m d h1 h2 => ⟨.bool _, (F8 (Po ht a b n c m d h1) (fun op => by cases op <;> rfl)).1, fun _ _ _ => by rw [h2]; exact .bool _⟩⟩
 case neq => exact ⟨_, h, fun a b n c m d h1 h2 => ⟨.bool _, (F8 (Po ht a b n c m d h1) (fun op => by cases op <;> rfl)).2, fun _ _ _ => by rw [h2]; exact .bool _⟩⟩

section
variable {P : Program} {E : Env} {hp : Hp} {fr : Nat → AV}

theorem Fx {o : Oper} {op : BinOp} {t ty : TypeId} {x y : Operand} {K : AV → Prop} (ho : o.op = .binOp op t x y ty)
  (h : ∃ z, K z ∧ ∀ S w μ (ρ : Operand → Value), WI E S w μ hp → Fits S w μ fr ρ [x, y] → ∃ v, W8 P t op (ρ x) (ρ y) v ∧ VR S w μ v z)
  (hg : ∀ S w μ (ρ : Operand → Value), WI E S w μ hp → Fits S w μ fr ρ [x, y] → ∀ w, (eqGuard op t x y (ρ x) (ρ y)).run P w = .ok () w) : QOk P E fr hp o K := by
 obtain ⟨z, hz, h⟩ := h
 refine ⟨z, hz, fun S w μ ρ hw hf _ _ => ?_⟩
 have hf' : Fits S w μ fr ρ [x, y] := fun u hu => hf u (by simp [ho, Op.operands] at *; exact hu)
 obtain ⟨v, hb, hv⟩ := h S w μ ρ hw hf'
 refine Bc.val (v := v) (w' := w) ?_ (Cq.here hw hv)
 have hg' := hg S w μ ρ hw hf' w
 simp [execOp, ho, hg', hb w]

def Sl : Value → Bool
 | .nilIface | .agg _ => false
 | _ => true
theorem Eu {op : BinOp} {t : TypeId} {x y : Operand} {a b : Value} (h : Sl a = true ∨ Sl b = true) (w : World) : (eqGuard op t x y a b).run P w = .ok () w := by
 unfold eqGuard
 cases op <;> cases a <;> cases b <;> first | rfl | (simp [Sl] at h)

theorem Aea {o : Oper} {op : BinOp} {t ty : TypeId} {x y : Operand} {ix iy : Ax} {K : AV → Prop} (ho : o.op = .binOp op t x y ty) (hx : AB x = some ix) (hy : AB y = some iy)
  (hs : op ≠ .shl ∧ op ≠ .shr) (h : GR op (F9 P t) (ix.ev fr) (iy.ev fr) K) : QOk P E fr hp o K := by
 have inv : ∀ {S w μ} {ρ : Operand → Value}, Fits S w μ fr ρ [x, y] → VR S w μ (ρ x) (ix.ev fr) ∧ VR S w μ (ρ y) (iy.ev fr) := fun hf => ⟨hf.one (by simp) hx, hf.one (by simp) hy⟩
 unfold GR at h
 split at h
 ·rename_i k a k' b e1 e2
  obtain ⟨rfl, h⟩ := h
  obtain ⟨z, v, hz, hb, hv⟩ := AbH (P := P) (t := t) h hs
  refine Fx ho ⟨z, hz, fun S w μ ρ hw hf => ?_⟩ (fun S w μ ρ hw hf => ?_)
  ·obtain ⟨h1, h2⟩ := inv hf
   rw [e1] at h1; rw [e2] at h2
   generalize ρ x = vx at h1 ⊢; generalize ρ y = vy at h2 ⊢
   cases h1; cases h2
   exact ⟨v, hb, hv _ _ _⟩
  ·obtain ⟨h1, h2⟩ := inv hf
   rw [e1] at h1
   generalize ρ x = vx at h1 ⊢
   cases h1
   exact Eu (.inl rfl)
 ·rename_i a b e1 e2
  obtain ⟨z, v, hz, hb, hv⟩ := AbF (P := P) (t := t) h
  refine Fx ho ⟨z, hz, fun S w μ ρ hw hf => ?_⟩ (fun S w μ ρ hw hf => ?_)
  ·obtain ⟨h1, h2⟩ := inv hf
   rw [e1] at h1; rw [e2] at h2
   generalize ρ x = vx at h1 ⊢; generalize ρ y = vy at h2 ⊢
   cases h1; cases h2
   exact ⟨v, hb, hv _ _ _⟩
  ·obtain ⟨h1, h2⟩ := inv hf
   rw [e1] at h1
   generalize ρ x = vx at h1 ⊢
   cases h1
   exact Eu (.inl rfl)
 ·rename_i a b e1 e2
  obtain ⟨hk, h⟩ := h
  obtain ⟨he, hn⟩ := F8 (AcN (UZ hk) a b) (fun op => by cases op <;> rfl)
  obtain ⟨z, v, hz, hb, hv⟩ := ZV (P := P) (t := t) h he hn
  refine Fx ho ⟨z, hz, fun S w μ ρ hw hf => ?_⟩ (fun S w μ ρ hw hf => ?_)
  ·obtain ⟨h1, h2⟩ := inv hf
   rw [e1] at h1; rw [e2] at h2
   generalize ρ x = vx at h1 ⊢; generalize ρ y = vy at h2 ⊢
   cases h1; cases h2
   exact ⟨v, hb, hv _ _ _⟩
  ·obtain ⟨h1, h2⟩ := inv hf
   rw [e1] at h1
   generalize ρ x = vx at h1 ⊢
   cases h1
   exact Eu (.inl rfl)
 iterate 5
  ·rename_i e1 e2
   obtain ⟨hk, h⟩ := h
   obtain ⟨e, ht⟩ := WN hk
   obtain ⟨z, hz, hb⟩ := AbG ht h
   refine Fx ho ⟨z, hz, fun S w μ ρ hw hf => ?_⟩ (fun S w μ ρ hw hf => ?_)
   ·obtain ⟨h1, h2⟩ := inv hf
    rw [e1] at h1; rw [e2] at h2
    generalize ρ x = vx at h1 ⊢; generalize ρ y = vy at h2 ⊢
    cases h1 <;> cases h2 <;> (refine (hb _ _ ?_ ?_).imp (fun v h => ⟨h.1, h.2 _ _ _⟩) <;> first | rfl | simp)
   ·obtain ⟨h1, h2⟩ := inv hf
    rw [e1] at h1
    generalize ρ x = vx at h1 ⊢
    cases h1
    exact Eu (.inl rfl)
 iterate 3
  ·rename_i e1 e2
   have hk := h.1
   have h := h.2
   have hk' : F9 P t = .slice := by first | exact hk | exact hk.1
   obtain ⟨e, ht⟩ := Mq hk'
   obtain ⟨z, hz, hb⟩ := WV ht h
   refine Fx ho ⟨z, hz, fun S w μ ρ hw hf => ?_⟩ (fun S w μ ρ hw hf => ?_)
   ·obtain ⟨h1, h2⟩ := inv hf
    rw [e1] at h1; rw [e2] at h2
    generalize ρ x = vx at h1 ⊢; generalize ρ y = vy at h2 ⊢
    cases h1 <;> cases h2 <;> first | (exact absurd rfl hk.2) | (refine (hb _ _ _ _ _ _ ?_ ?_).imp (fun v h => ⟨h.1, h.2 _ _ _⟩) <;> first | rfl | simp)
   ·obtain ⟨h1, h2⟩ := inv hf
    rw [e1] at h1
    generalize ρ x = vx at h1 ⊢
    cases h1 <;> exact Eu (.inl rfl)
 ·rename_i xs ys e1 e2
  unfold AbR at h
  split at h
  ·rename_i ks hk
   obtain ⟨fs, ht, hst, hks⟩ := UY hk
   unfold SW at h
   split at h
   ·rename_i r hr
    have hag : ∀ {S w μ v} {zs : List AV}, VR S w μ v (.agg zs) → ∃ cs : Array Value, v = .agg cs ∧ ∀ (j : Nat) (x : AV), zs[j]? = some x → ∃ u, cs[0 + j]? = some u ∧ VR S w μ u x := fun h => by
     cases h with
     | agg cs _ hl h1 hh =>
      refine ⟨cs, rfl, fun j x hj => ?_⟩
      have hlt := (List.getElem?_eq_some_iff.1 hj).1
      exact ⟨cs[j]'(by omega), by simp [show j < cs.size by omega], hh j _ x (by simp [show j < cs.size by omega]) hj⟩
    have hfo : P.fieldsOf t = fs := by simp [Program.fieldsOf, ht]
    have ht' : P.underlying t = some (.struct (P.fieldsOf t)) := by rw [hfo]; exact ht
    have hks' : HU P (P.fieldsOf t).toList 0 = some ks := by rw [hfo]; exact hks
    have hg : ∀ S w μ (ρ : Operand → Value), WI E S w μ hp → Fits S w μ fr ρ [x, y] → ∀ w, (eqGuard op t x y (ρ x) (ρ y)).run P w = .ok () w := fun S w μ ρ hw hf w' => by
     obtain ⟨h1, h2⟩ := inv hf
     rw [e1] at h1; rw [e2] at h2
     obtain ⟨cs, hcs, _⟩ := hag h1
     obtain ⟨ds, hds, _⟩ := hag h2
     rw [hcs, hds]
     exact run_eqGuard_agg w' op t x y cs ds (WD ht hks)
    have hrun : ∀ S w μ (ρ : Operand → Value), Fits S w μ fr ρ [x, y] → ∃ cs ds : Array Value, ρ x = .agg cs ∧ ρ y = .agg ds ∧ ∀ w, (Op.equalIn 10000 t (.agg cs) (.agg ds)).run P w = .ok r w := fun S w μ ρ hf => by
     obtain ⟨h1, h2⟩ := inv hf
     rw [e1] at h1; rw [e2] at h2
     obtain ⟨cs, hcs, hc⟩ := hag h1
     obtain ⟨ds, hds, hd⟩ := hag h2
     refine ⟨cs, ds, hcs, hds, fun w => ?_⟩
     rw [run_equalIn_agg w 9999 t cs ds ht' hst]
     exact Rf w hks' hr hc hd
    cases op <;> simp only [D9] at h <;> try exact h.elim
    case eql =>
     refine Fx ho ⟨.bool r, h, fun S w μ ρ hw hf => ?_⟩ hg
     obtain ⟨cs, ds, hcs, hds, hr'⟩ := hrun S w μ ρ hf
     rw [hcs, hds]
     exact ⟨.bool r, fun w => by rw [run_eql_struct, hr']; rfl, .bool _⟩
    case neq =>
     refine Fx ho ⟨.bool (!r), h, fun S w μ ρ hw hf => ?_⟩ hg
     obtain ⟨cs, ds, hcs, hds, hr'⟩ := hrun S w μ ρ hf
     rw [hcs, hds]
     exact ⟨.bool (!r), fun w => by rw [run_neq_struct, hr']; rfl, .bool _⟩
   ·exact h.elim
  ·exact h.elim
 ·exact h.elim

theorem Adx {o : Oper} {op : BinOp} {t ty : TypeId} {x y : Operand} {ix iy : Ax} {K : AV → Prop} (ho : o.op = .binOp op t x y ty) (hx : AB x = some ix) (hy : AB y = some iy)
  (h : GI op (ix.ev fr) (iy.ev fr) K) : QOk P E fr hp o K := by
 have inv : ∀ {S w μ} {ρ : Operand → Value}, Fits S w μ fr ρ [x, y] → VR S w μ (ρ x) (ix.ev fr) ∧ VR S w μ (ρ y) (iy.ev fr) := fun hf => ⟨hf.one (by simp) hx, hf.one (by simp) hy⟩
 unfold GI at h
 split at h
 ·rename_i k a k' b e1 e2
  obtain ⟨hkk, h⟩ := h
  have hz : ∃ z v, K z ∧ W8 P t op (.int k a) (.int k' b) v ∧ ∀ S w μ, VR S w μ v z := by
   cases op <;> simp only at h <;> try exact h.elim
   case add =>
    obtain rfl : k = k' := by simpa using hkk
    exact ⟨_, .int k _, h, fun w => by simp [binOp, Op.intArith], fun _ _ _ => .int _ _ (Eb _ _).1 (Eb _ _).2⟩
   case sub =>
    obtain rfl : k = k' := by simpa using hkk
    exact ⟨_, .int k _, h, fun w => by simp [binOp, Op.intArith], fun _ _ _ => .int _ _ (Eb _ _).1 (Eb _ _).2⟩
   case mul =>
    obtain rfl : k = k' := by simpa using hkk
    exact ⟨_, .int k _, h, fun w => by simp [binOp, Op.intArith], fun _ _ _ => .int _ _ (Eb _ _).1 (Eb _ _).2⟩
   case and =>
    obtain rfl : k = k' := by simpa using hkk
    exact ⟨_, .int k _, h, fun w => by simp only [binOp, Op.intBits, ne_eq, not_true_eq_false, if_false]; rfl, fun _ _ _ => .int _ _ (Eb _ _).1 (Eb _ _).2⟩
   case or =>
    obtain rfl : k = k' := by simpa using hkk
    exact ⟨_, .int k _, h, fun w => by simp only [binOp, Op.intBits, ne_eq, not_true_eq_false, if_false]; rfl, fun _ _ _ => .int _ _ (Eb _ _).1 (Eb _ _).2⟩
   case xor =>
    obtain rfl : k = k' := by simpa using hkk
    exact ⟨_, .int k _, h, fun w => by simp only [binOp, Op.intBits, ne_eq, not_true_eq_false, if_false]; rfl, fun _ _ _ => .int _ _ (Eb _ _).1 (Eb _ _).2⟩
   case shl => exact ⟨_, .int k _, h.2, fun w => by simp only [binOp, Op.shift, if_neg (Int.not_lt.2 h.1)]; rfl, fun _ _ _ => .int _ _ (Eb _ _).1 (Eb _ _).2⟩
   case shr => exact ⟨_, .int k _, h.2, fun w => by simp only [binOp, Op.shift, if_neg (Int.not_lt.2 h.1.1)]; rfl, fun _ _ _ => .int _ _ h.1.2.1 h.1.2.2⟩
  obtain ⟨z, v, hz, hb, hv⟩ := hz
  refine Fx ho ⟨z, hz, fun S w μ ρ hw hf => ?_⟩ (fun S w μ ρ hw hf => ?_)
  ·obtain ⟨h1, h2⟩ := inv hf
   rw [e1] at h1; rw [e2] at h2
   generalize ρ x = vx at h1 ⊢; generalize ρ y = vy at h2 ⊢
   cases h1; cases h2
   exact ⟨v, hb, hv _ _ _⟩
  ·obtain ⟨h1, h2⟩ := inv hf
   rw [e1] at h1
   generalize ρ x = vx at h1 ⊢
   cases h1
   exact Eu (.inl rfl)
 ·exact h.elim

theorem AeD {o : Oper} {op : UnOp} {t : TypeId} {x : Operand} {ix : Ax} {K : AV → Prop} (ho : o.op = .unOp op t x) (hx : AB x = some ix) (h : aUn op (ix.ev fr) K) : QOk P E fr hp o K := by
 have hf' : ∀ {S w μ} {ρ : Operand → Value}, Fits S w μ fr ρ o.op.operands.toList → VR S w μ (ρ x) (ix.ev fr) := fun hf => hf.one (by simp [ho, Op.operands]) hx
 unfold aUn at h
 split at h
 ·rename_i b e1
  cases op <;> simp only at h <;> try exact h.elim
  refine ⟨_, h, fun S w μ ρ hw hf _ _ => ?_⟩
  have h1 := hf' hf
  rw [e1] at h1
  generalize hv : ρ x = vx at h1
  cases h1
  exact Bc.val (v := .bool (!b)) (w' := w) (by simp [execOp, ho, hv, Op.unary]) (Cq.here hw (.bool _))
 ·rename_i k n e1
  cases op <;> simp only at h <;> try exact h.elim
  refine ⟨_, h.2, fun S w μ ρ hw hf _ _ => ?_⟩
  have h1 := hf' hf
  rw [e1] at h1
  generalize hv : ρ x = vx at h1
  cases h1
  exact Bc.val (v := .int k (-n)) (w' := w) (by simp [execOp, ho, hv, Op.unary, Op.intArith, Hm k _ h.1]) (Cq.here hw (.int _ _ h.1.1 h.1.2))
 ·exact h.elim

theorem Adu {o : Oper} {s d : TypeId} {x : Operand} {ix : Ax} {sk k : IntKind} {K : AV → Prop} (ho : o.op = .convert s d x) (hs : P.underlying s = some (.int sk)) (hd : P.underlying d = some (.int k)) (hx : AB x = some ix)
  (h : VF k (ix.ev fr) K) : QOk P E fr hp o K := by
 unfold VF at h
 split at h
 ·rename_i k0 n e1
  refine ⟨_, h.2, fun S w μ ρ hw hf _ _ => ?_⟩
  have h1 := hf.one (x := x) (by simp [ho, Op.operands]) hx
  rw [e1] at h1
  generalize hv : ρ x = vx at h1
  cases h1
  exact Bc.val (v := .int k n) (w' := w) (by simp [execOp, ho, hv, convert, run_underlying hs, run_underlying hd, Conv.intToInt, Hm k _ h.1]) (Cq.here hw (.int _ _ h.1.1 h.1.2))
 ·exact h.elim

theorem Zs {o : Oper} {i : Nat} {x : Operand} {ix : Ax} {K : AV → Prop} (ho : o.op = .extract x i) (hx : AB x = some ix) (h : Hh i (ix.ev fr) K) : QOk P E fr hp o K := by
 unfold Hh at h
 split at h
 ·rename_i xs e1
  refine ⟨_, h.2, fun S w μ ρ hw hf _ _ => ?_⟩
  have h1 := hf.one (x := x) (by simp [ho, Op.operands]) hx
  rw [e1] at h1
  generalize hv : ρ x = vx at h1
  cases h1 with
  | tup cs _ hl hh =>
   have hi : i < cs.size := by rw [hl]; exact h.1
   refine Bc.val (v := cs[i]) (w' := w) (by simp [execOp, ho, hv, Instr.extract, hi]) (Cq.here hw ?_)
   exact hh i _ _ (by simp [hi]) (by simp [List.getD_eq_getElem?_getD, h.1])
 ·exact h.elim

theorem Ad7 {o : Oper} {mx : Bool} {is : List Ax} {c : Call} {K : AV → Prop} (ho : o.op = .call c) (hc : c.callee = .builtin (if mx then .max else .min)) (hx : Cz c.args.toList = some is)
  (h : aMm mx (is.map fun x => x.ev fr) K) : QOk P E fr hp o K := by
 unfold aMm at h
 split at h
 ·rename_i k a k' b e1
  obtain ⟨rfl, h⟩ := h
  refine ⟨_, h, fun S w μ ρ hw hf _ _ => ?_⟩
  have h1 := hf.args (l := c.args.toList) (is := is) (fun x hx => by cases mx <;> simp [ho, Op.operands, Call.operands, hc] <;> exact Array.mem_def.2 hx) hx
  rw [e1] at h1
  obtain ⟨hl, hh⟩ := h1
  obtain ⟨callee, args, argTypes⟩ := c
  simp only at hc hl hh ho
  subst hc
  obtain ⟨l⟩ := args
  match l, hl, hh with
  | [x, y], _, hh =>
   have ha := hh 0 (ρ x) (.int k a) rfl rfl
   have hb := hh 1 (ρ y) (.int k b) rfl rfl
   generalize hv : ρ x = vx at ha
   generalize hv' : ρ y = vy at hb
   cases ha with | int _ _ a1 a2 =>
   cases hb with | int _ _ b1 b2 =>
   cases mx
   ·refine Bc.val (v := .int k (min a b)) (w' := w) ?_ (Cq.here hw (by simp only [Bool.false_eq_true, if_false]; exact .int _ _ (by omega) (by omega)))
    simp [execOp, ho, resolve, invoke, builtin, Builtin.min_, Builtin.min2, hv, hv']
    omega
   ·refine Bc.val (v := .int k (max a b)) (w' := w) ?_ (Cq.here hw (by simp only [if_true]; exact .int _ _ (by omega) (by omega)))
    simp [execOp, ho, resolve, invoke, builtin, Builtin.max_, Builtin.max2, hv, hv']
    omega
 ·exact h.elim
end

end Go.Proofs.YtjbcnilllfaipaaGreat.Av
