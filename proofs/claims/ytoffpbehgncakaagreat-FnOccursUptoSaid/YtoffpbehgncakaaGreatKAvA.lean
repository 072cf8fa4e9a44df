/-
 ABSTRACT VALUES, their operations, and the quiet operations on numbers and strings. Conditions: none.
-/
import Derived.WalkKit
import Derived.ProofKit
import Derived.Below
import Derived.Laws.AppendOwn
import Derived.Laws.Cells
import Derived.Laws.Tables
import Derived.Laws.CopyRow
import Derived.IntWalk
import Derived.WalkSpells
import Derived.Laws.StructEq
import Derived.Laws.IdiomStrings
import Derived.Lib.AppendZerosOnto
set_option linter.unusedVariables false
set_option linter.unusedSimpArgs false

namespace Go.Proofs.YtoffpbehgncakaaGreat.Av
open Go.RowKit

inductive AV where
 | bool (b : Bool)
 | int (k : IntKind) (n : Int)
 | str (s : ByteArray)
 | agg (cs : List AV)
 | tup (cs : List AV)
 | C9
 | obj (cs : List AV)
 | sl (es : List AV)
 | Au
 | fn (f : FuncId) (caps : List AV)
 | F6
 | ptr (k v i off : Nat)
 | row (k v n : Nat)
 | top
 deriving Inhabited

def AV.cells : AV → List AV
 | .agg cs => cs
 | x => [x]
def AV.one : AV → Bool
 | .agg _ | .tup _ | .top => false
 | _ => true
def AV.isAgg : AV → Bool
 | .agg _ => true
 | _ => false

structure Bk where
 blk : Option Nat
 cap : Nat
 esz : Nat
abbrev Mu := Nat → Nat → Option Bk

inductive VR (S : Nat → Prop) (w : World) (μ : Mu) : Value → AV → Prop where
 | bool (b : Bool) : VR S w μ (.bool b) (.bool b)
 | int (k : IntKind) (n : Int) (h1 : k.min ≤ n) (h2 : n ≤ k.max) : VR S w μ (.int k n) (.int k n)
 | str (s : ByteArray) (h : s.size ≤ maxLen) : VR S w μ (.string s) (.str s)
 | agg (cs : Array Value) (xs : List AV) (hl : cs.size = xs.length) (h1 : ∀ x ∈ xs, x.one = true)
   (h : ∀ (i : Nat) (v : Value) (x : AV), cs[i]? = some v → xs[i]? = some x → VR S w μ v x) : VR S w μ (.agg cs) (.agg xs)
 | tup (cs : Array Value) (xs : List AV) (hl : cs.size = xs.length)
   (h : ∀ (i : Nat) (v : Value) (x : AV), cs[i]? = some v → xs[i]? = some x → VR S w μ v x) : VR S w μ (.tuple cs) (.tup xs)
 | C9 : VR S w μ (.pointer none) .C9
 | obj (b o : Nat) (vs : Nat → Value) (xs : List AV) (hS : S b) (h1 : ∀ x ∈ xs, x.one = true)
   (hc : ∀ i, i < xs.length → w.cell? ⟨b, o + i, none⟩ = some (vs i))
   (h : ∀ (i : Nat) (x : AV), xs[i]? = some x → VR S w μ (vs i) x) : VR S w μ (.pointer (some ⟨b, o, none⟩)) (.obj xs)
 | sl0 (a : Option Addr) (cap : Nat) (hc : cap ≤ maxLen) : VR S w μ (.slice a 0 cap) (.sl [])
 | sl (b o cap esz : Nat) (vs : Nat → Nat → Value) (es : List AV) (hS : S b) (hl : es.length ≤ cap) (hm : cap ≤ maxLen)
   (hz : ∀ e ∈ es, e.cells.length = esz ∧ ∀ x ∈ e.cells, x.one = true)
   (hc : ∀ i j, i < es.length → j < esz → w.cell? ⟨b, o + i * esz + j, none⟩ = some (vs i j))
   (h : ∀ (i j : Nat) (e x : AV), es[i]? = some e → e.cells[j]? = some x → VR S w μ (vs i j) x) : VR S w μ (.slice (some ⟨b, o, none⟩) es.length cap) (.sl es)
 | Au : VR S w μ (.slice none 0 0) .Au
 | fn (f : FuncId) (cs : Array Value) (xs : List AV) (hl : cs.size = xs.length)
   (h : ∀ (i : Nat) (v : Value) (x : AV), cs[i]? = some v → xs[i]? = some x → VR S w μ v x) : VR S w μ (.func (.func f) #[] cs) (.fn f xs)
 | F6 : VR S w μ .nilFunc .F6
 | ptr (k v i off b cap esz : Nat) (h : μ k v = some ⟨some b, cap, esz⟩) : VR S w μ (.pointer (some ⟨b, i * esz + off, none⟩)) (.ptr k v i off)
 | row (k v n b cap esz : Nat) (h : μ k v = some ⟨some b, cap, esz⟩) (hn : n ≤ cap) (hm : cap ≤ maxLen) : VR S w μ (.slice (some ⟨b, 0, none⟩) n cap) (.row k v n)
 | Hh (k v cap esz : Nat) (h : μ k v = some ⟨none, cap, esz⟩) : VR S w μ (.slice none 0 0) (.row k v 0)
 | top (v : Value) : VR S w μ v .top

def BN (S : Nat → Prop) (w w' : World) : Prop := ∀ b, S b → w'.heap[b]? = w.heap[b]?
theorem BN.refl (S : Nat → Prop) (w : World) : BN S w w := fun _ _ => rfl
theorem BN.trans {S : Nat → Prop} {a b c : World} (h : BN S a b) (k : BN S b c) : BN S a c := fun x hx => (k x hx).trans (h x hx)
theorem BN.mono {S S' : Nat → Prop} {w w' : World} (h : BN S' w w') (hS : ∀ b, S b → S' b) : BN S w w' := fun b hb => h b (hS b hb)
theorem BN.cell {S : Nat → Prop} {w w' : World} (h : BN S w w') {b o : Nat} (hb : S b) : w'.cell? ⟨b, o, none⟩ = w.cell? ⟨b, o, none⟩ := World.cell?_of_block (w := w) (h b hb)

def Mu.le (μ μ' : Mu) : Prop := ∀ k v b, μ k v = some b → μ' k v = some b
theorem Mu.le.refl (μ : Mu) : Mu.le μ μ := fun _ _ _ h => h
theorem Mu.le.trans {a b c : Mu} (h : Mu.le a b) (k : Mu.le b c) : Mu.le a c := fun x y z hx => k x y z (h x y z hx)
def mu0 : Mu := fun _ _ => none
theorem Mu.le.zero (μ : Mu) : Mu.le mu0 μ := fun _ _ _ h => by cases h

theorem VR.mono {S S' : Nat → Prop} {w w' : World} {μ μ' : Mu} {v : Value} {x : AV} (h : VR S w μ v x) (hS : ∀ b, S b → S' b) (hw : BN S w w') (hμ : Mu.le μ μ') : VR S' w' μ' v x := by
 induction h with
 | bool b => exact .bool b
 | int k n h1 h2 => exact .int k n h1 h2
 | str s h => exact .str s h
 | agg cs xs hl h1 _ ih => exact .agg cs xs hl h1 ih
 | tup cs xs hl _ ih => exact .tup cs xs hl ih
 | C9 => exact .C9
 | obj b o vs xs hb h1 hc _ ih => exact .obj b o vs xs (hS b hb) h1 (fun i hi => (hw.cell hb).trans (hc i hi)) ih
 | sl0 a cap hc => exact .sl0 a cap hc
 | sl b o cap esz vs es hb hl hm hz hc _ ih => exact .sl b o cap esz vs es (hS b hb) hl hm hz (fun i j hi hj => (hw.cell hb).trans (hc i j hi hj)) ih
 | Au => exact .Au
 | fn f cs xs hl _ ih => exact .fn f cs xs hl ih
 | F6 => exact .F6
 | ptr k v i off b cap esz h => exact .ptr k v i off b cap esz (hμ _ _ _ h)
 | row k v n b cap esz h hn hm => exact .row k v n b cap esz (hμ _ _ _ h) hn hm
 | Hh k v cap esz h => exact .Hh k v cap esz (hμ _ _ _ h)
 | top v => exact .top v

def Ap (x : AV) : Prop := ∀ S w μ v, VR S w μ v x → VR S w mu0 v x
theorem Ap.bool (b : Bool) : Ap (.bool b) := fun _ _ _ _ h => by cases h; exact .bool b
theorem Ap.int (k : IntKind) (n : Int) : Ap (.int k n) := fun _ _ _ _ h => by cases h with | int _ _ a b => exact .int k n a b
theorem Ap.str (s : ByteArray) : Ap (.str s) := fun _ _ _ _ h => by cases h with | str _ a => exact .str s a
theorem Ap.C9 : Ap .C9 := fun _ _ _ _ h => by cases h; exact .C9
theorem Ap.Au : Ap .Au := fun _ _ _ _ h => by cases h; exact .Au
theorem Ap.F6 : Ap .F6 := fun _ _ _ _ h => by cases h; exact .F6
theorem Ap.top : Ap .top := fun _ _ _ _ _ => .top _
theorem Ck {α : Type} {l : List α} {i : Nat} {x : α} (h : l[i]? = some x) : x ∈ l := List.mem_of_getElem? h
theorem Ap.agg {xs : List AV} (h : ∀ x ∈ xs, Ap x) : Ap (.agg xs) := fun _ _ _ _ hv => by
 cases hv with | agg cs _ hl h1 hh => exact .agg cs xs hl h1 fun i v x a b => h x (Ck b) _ _ _ _ (hh i v x a b)
theorem Ap.tup {xs : List AV} (h : ∀ x ∈ xs, Ap x) : Ap (.tup xs) := fun _ _ _ _ hv => by
 cases hv with | tup cs _ hl hh => exact .tup cs xs hl fun i v x a b => h x (Ck b) _ _ _ _ (hh i v x a b)
theorem Ap.obj {xs : List AV} (h : ∀ x ∈ xs, Ap x) : Ap (.obj xs) := fun _ _ _ _ hv => by
 cases hv with | obj b o vs _ hS h1 hc hh => exact .obj b o vs xs hS h1 hc fun i x a => h x (Ck a) _ _ _ _ (hh i x a)
theorem Ap.sl {es : List AV} (h : ∀ e ∈ es, ∀ x ∈ e.cells, Ap x) : Ap (.sl es) := fun _ _ _ _ hv => by
 cases hv with
 | sl0 a cap hc => exact .sl0 a cap hc
 | sl b o cap esz vs _ hS hl hm hz hc hh => exact .sl b o cap esz vs es hS hl hm hz hc fun i j e x a b => h e (Ck a) x (Ck b) _ _ _ _ (hh i j e x a b)
theorem Ap.fn {f : FuncId} {xs : List AV} (h : ∀ x ∈ xs, Ap x) : Ap (.fn f xs) := fun _ _ _ _ hv => by
 cases hv with | fn _ cs _ hl hh => exact .fn f cs xs hl fun i v x a b => h x (Ck b) _ _ _ _ (hh i v x a b)
theorem Ap.cells {e : AV} (h : Ap e) : e.isAgg = false → ∀ x ∈ e.cells, Ap x := by
 intro h1 x hx
 cases e <;> simp [AV.cells, AV.isAgg] at h1 hx <;> (subst hx; exact h)

def VRs (S : Nat → Prop) (w : World) (μ : Mu) (vs : List Value) (xs : List AV) : Prop := vs.length = xs.length ∧ ∀ (i : Nat) (v : Value) (x : AV), vs[i]? = some v → xs[i]? = some x → VR S w μ v x
theorem VRs.mono {S S' : Nat → Prop} {w w' : World} {μ μ' : Mu} {vs : List Value} {xs : List AV} (h : VRs S w μ vs xs) (hS : ∀ b, S b → S' b) (hw : BN S w w') (hμ : Mu.le μ μ') : VRs S' w' μ' vs xs :=
 ⟨h.1, fun i v x a b => (h.2 i v x a b).mono hS hw hμ⟩
theorem VRs.nil {S : Nat → Prop} {w : World} {μ : Mu} : VRs S w μ [] [] := ⟨rfl, fun i v x a => by simp at a⟩
theorem VRs.cons {S : Nat → Prop} {w : World} {μ : Mu} {v : Value} {x : AV} {vs : List Value} {xs : List AV} (h : VR S w μ v x) (hs : VRs S w μ vs xs) : VRs S w μ (v :: vs) (x :: xs) := by
 refine ⟨by simp [hs.1], fun i v' x' a b => ?_⟩
 cases i with
 | zero => simp at a b; subst a b; exact h
 | succ i => exact hs.2 i v' x' (by simpa using a) (by simpa using b)
theorem VRs.append {S : Nat → Prop} {w : World} {μ : Mu} {vs vs' : List Value} {xs xs' : List AV} (h : VRs S w μ vs xs) (h' : VRs S w μ vs' xs') : VRs S w μ (vs ++ vs') (xs ++ xs') := by
 refine ⟨by simp [h.1, h'.1], fun i v x a b => ?_⟩
 rw [List.getElem?_append] at a b
 rw [h.1] at a
 split at a
 ·rename_i hlt; rw [if_pos hlt] at b; exact h.2 i v x a b
 ·rename_i hlt; rw [if_neg hlt] at b; exact h'.2 _ v x a b
theorem VRs.take {S : Nat → Prop} {w : World} {μ : Mu} {vs : List Value} {xs : List AV} (h : VRs S w μ vs xs) (n : Nat) : VRs S w μ (vs.take n) (xs.take n) := by
 refine ⟨by simp [h.1], fun i v x a b => ?_⟩
 rw [List.getElem?_take] at a b
 split at a
 ·rename_i hlt; rw [if_pos hlt] at b; exact h.2 i v x a b
 ·cases a
theorem VRs.drop {S : Nat → Prop} {w : World} {μ : Mu} {vs : List Value} {xs : List AV} (h : VRs S w μ vs xs) (n : Nat) : VRs S w μ (vs.drop n) (xs.drop n) :=
 ⟨by simp [h.1], fun i v x a b => h.2 (n + i) v x (by simpa using a) (by simpa using b)⟩
theorem VR.cells {S : Nat → Prop} {w : World} {μ : Mu} {v : Value} {x : AV} (h : VR S w μ v x) (ho : x.one = true ∨ x.isAgg = true) : VRs S w μ v.cells.toList x.cells ∧ (∀ y ∈ x.cells, y.one = true) := by
 cases h with
 | agg cs xs hl h1 hh => exact ⟨⟨by simpa [Value.cells, AV.cells] using hl, fun i v x a b => hh i v x (by simpa [Value.cells] using a) b⟩, h1⟩
 | top v => simp [AV.one, AV.isAgg] at ho
 | tup cs xs hl hh => simp [AV.one, AV.isAgg] at ho
 | _ => refine ⟨VRs.cons ?_ VRs.nil, by simpa [AV.cells, AV.isAgg] using ho⟩; constructor <;> assumption
theorem VR.Wj {S : Nat → Prop} {w : World} {μ : Mu} {v : Value} {x : AV} (h : VR S w μ v x) (h1 : x.one = true) : v.oneCell' = true := by
 cases h <;> first | rfl | (simp [AV.one] at h1)

end Go.Proofs.YtoffpbehgncakaaGreat.Av

namespace Go.Proofs.YtoffpbehgncakaaGreat.Av
open Go.RowKit

def bs (l : List Nat) : ByteArray := ⟨(l.map UInt8.ofNat).toArray⟩

structure Box where
 ver : Nat
 frz : Bool
 ty : TypeId
 esz : Nat
 es : List AV
abbrev Hp := List (Nat × Box)
def Ay : Hp → Nat → Option Box
 | [], _ => none
 | (k, b) :: r, j => if k = j then some b else Ay r j
def Bf : List (Nat × AV) → Nat → AV
 | [], _ => .top
 | (i, x) :: r, j => if i = j then x else Bf r j

inductive AF where
 | t (i : Nat)
 | c (x : AV)
 | s (l : List Nat)
 deriving Inhabited
def AF.ev (fr : Nat → AV) : AF → AV
 | .t i => fr i
 | .c x => x
 | .s l => .str (bs l)

inductive EqK where
 | other | bool | ptr | slice
 | flat (ks : List Nat)
 deriving DecidableEq, Inhabited

inductive IOp where
 | mov (x : AF)
 | pick (c a b : AF)
 | bin (op : BinOp) (kd : EqK) (x y : AF)
 | AbO (op : BinOp) (x y : AF)
 | ZZ (op : BinOp) (x y : AF)
 | un (op : UnOp) (x : AF)
 | AaZ (x : AF)
 | Fk (k : Nat) (ty : TypeId) (n : Nat) (x : AF)
 | build (zero : List AV) (parts : List (Nat × Nat × AF))
 | slP (len : Nat) (zero : AV) (parts : List (Nat × AF))
 | slF (len : Nat) (zero : AV) (parts : List (Nat × AF))
 | slO (k : Nat) (ty : TypeId) (len : Nat) (zero : AV) (parts : List (Nat × AF))
 | load (agg : Bool) (n : Nat) (a : AF)
 | Sk (agg : Bool) (n : Nat) (a : AF)
 | store (n : Nat) (a x : AF)
 | Bh (off : Nat) (x : AF)
 | fld (agg : Bool) (off n : Nat) (x : AF)
 | DX (esz : Nat) (x i : AF)
 | M9 (esz : Nat) (x i : AF)
 | Abs (x i : AF)
 | slice (esz : Nat) (x : AF) (lo hi : Option AF)
 | len (str : Bool) (x : AF)
 | append (k : Nat) (ty : TypeId) (esz bytes : Nat) (s x : AF)
 | Vi (k : Nat) (ty : TypeId) (esz bytes : Nat) (s x : AF)
 | mkSlice (k : Nat) (ty : TypeId) (bytes : Nat) (zero : AV) (len : AF)
 | TN (k : Nat) (ty : TypeId) (bytes : Nat) (zero : AV) (s n : AF)
 | conv (dst : IntKind) (x : AF)
 | b2s (x : AF)
 | s2b (k : Nat) (ty : TypeId) (x : AF)
 | cap (x : AF)
 | extract (i : Nat) (x : AF)
 | call (f : FuncId) (args : List AF)
 | Tq (f : FuncId) (args : List AF)
 | ZS (f : AF) (args : List AF)
 | Bc (f : FuncId) (args : List AF)
 | JZ (f : AF) (args : List AF)
 | AbI (f : FuncId) (caps : List AF)
 | Da (x : AF)
 | mm (max : Bool) (xs : List AF)
 | Kv (neg : Bool) (x : AF)
 | bad
 deriving Inhabited

structure BM where
 dst : Option Nat
 guard : Option (Nat × Bool)
 op : IOp
 deriving Inhabited

def inR (k : IntKind) (n : Int) : Prop := k.min ≤ n ∧ n ≤ k.max

def Hb (op : BinOp) (k : IntKind) (a b : Int) (K : AV → Prop) : Prop :=
 match op with
 | .add => inR k (a + b) ∧ K (.int k (a + b))
 | .sub => inR k (a - b) ∧ K (.int k (a - b))
 | .mul => inR k (a * b) ∧ K (.int k (a * b))
 | .quo => (b ≠ 0 ∧ inR k (a.tdiv b)) ∧ K (.int k (a.tdiv b))
 | .rem => (b ≠ 0 ∧ inR k (a.tmod b)) ∧ K (.int k (a.tmod b))
 | .eql => K (.bool (decide (a = b)))
 | .neq => K (.bool (!decide (a = b)))
 | .lss => K (.bool (decide (a < b)))
 | .leq => K (.bool (decide (a ≤ b)))
 | .gtr => K (.bool (decide (b < a)))
 | .geq => K (.bool (decide (b ≤ a)))
 | _ => False

def TR (op : BinOp) (a b : ByteArray) (K : AV → Prop) : Prop :=
 match op with
 | .add => a.size + b.size ≤ maxLen ∧ K (.str (a ++ b))
 | .eql => K (.bool (decide (a = b)))
 | .neq => K (.bool (!decide (a = b)))
 | .lss => K (.bool (Op.bytesLess a.toList b.toList))
 | _ => False

def De (op : BinOp) (a : Bool) (K : AV → Prop) : Prop :=
 match op with
 | .eql => K (.bool a)
 | .neq => K (.bool (!a))
 | _ => False

def DC : List Nat → List AV → List AV → Option Bool
 | [], [], [] => some true
 | 1 :: ks, .int k a :: xs, .int k' b :: ys => if k = k' then (DC ks xs ys).map (decide (a = b) && ·) else none
 | 0 :: ks, .bool a :: xs, .bool b :: ys => (DC ks xs ys).map (decide (a = b) && ·)
 | 2 :: ks, .str a :: xs, .str b :: ys => (DC ks xs ys).map (decide (a = b) && ·)
 | _, _, _ => none
def Q3 (op : BinOp) (r : Option Bool) (K : AV → Prop) : Prop :=
 match r with
 | some b => De op b K
 | none => False
def Z6 (op : BinOp) (kd : EqK) (xs ys : List AV) (K : AV → Prop) : Prop :=
 match kd with
 | .flat ks => Q3 op (DC ks xs ys) K
 | _ => False

def FE (op : BinOp) (kd : EqK) (x y : AV) (K : AV → Prop) : Prop :=
 match x, y with
 | .int k a, .int k' b => k = k' ∧ Hb op k a b K
 | .str a, .str b => TR op a b K
 | .bool a, .bool b => kd = .bool ∧ De op (a == b) K
 | .C9, .C9 => kd = .ptr ∧ De op true K
 | .C9, .obj _ => kd = .ptr ∧ De op false K
 | .obj _, .C9 => kd = .ptr ∧ De op false K
 | .C9, .ptr _ _ _ _ => kd = .ptr ∧ De op false K
 | .ptr _ _ _ _, .C9 => kd = .ptr ∧ De op false K
 | .Au, .Au => kd = .slice ∧ De op true K
 | .sl es, .Au => (kd = .slice ∧ es ≠ []) ∧ De op false K
 | .Au, .sl es => (kd = .slice ∧ es ≠ []) ∧ De op false K
 | .agg xs, .agg ys => Z6 op kd xs ys K
 | _, _ => False

def KR (op : BinOp) (x y : AV) (K : AV → Prop) : Prop :=
 match x, y with
 | .int k a, .int k' b => k = k' ∧ Hb op k a b K
 | _, _ => False
theorem Yw {op : BinOp} {kd : EqK} {x y : AV} {K : AV → Prop} (h : KR op x y K) : FE op kd x y K := by
 unfold KR at h
 split at h
 ·exact h
 ·exact h.elim
theorem Aa1 {op : BinOp} {k : IntKind} {a b : Int} {K : AV → Prop} (h : Hb op k a b K) : ∃ v, K v ∧ ∀ K' : AV → Prop, K' v → Hb op k a b K' := by
 cases op <;> simp only [Hb] at h ⊢ <;> first | exact h.elim | exact ⟨_, h.2, fun _ h' => ⟨h.1, h'⟩⟩ | exact ⟨_, h, fun _ h' => h'⟩
theorem Z8 {op : BinOp} {x y : AV} {K : AV → Prop} (h : KR op x y K) : ∃ v, K v ∧ ∀ K' : AV → Prop, K' v → KR op x y K' := by
 unfold KR at h
 split at h
 ·obtain ⟨v, h1, h2⟩ := Aa1 h.2
  exact ⟨v, h1, fun K' h' => ⟨h.1, h2 K' h'⟩⟩
 ·exact h.elim
def EO (op : BinOp) (x y : AV) (K : AV → Prop) : Prop :=
 match x, y with
 | .int k a, .int k' b => (k = k' ∨ op = .shl ∨ op = .shr) ∧ (match op with
   | .add => K (.int k (k.wrap (a + b)))
   | .sub => K (.int k (k.wrap (a - b)))
   | .mul => K (.int k (k.wrap (a * b)))
   | .and => K (.int k (k.wrap (BitVec.ofInt k.bits a &&& BitVec.ofInt k.bits b).toNat))
   | .or => K (.int k (k.wrap (BitVec.ofInt k.bits a ||| BitVec.ofInt k.bits b).toNat))
   | .xor => K (.int k (k.wrap (BitVec.ofInt k.bits a ^^^ BitVec.ofInt k.bits b).toNat))
   | .shl => 0 ≤ b ∧ K (.int k (k.wrap (a * 2 ^ (min b.toNat k.bits))))
   | .shr => (0 ≤ b ∧ inR k (a.fdiv (2 ^ (min b.toNat k.bits)))) ∧ K (.int k (a.fdiv (2 ^ (min b.toNat k.bits))))
   | _ => False)
 | _, _ => False

def aUn (op : UnOp) (x : AV) (K : AV → Prop) : Prop :=
 match x with
 | .bool b => match op with | .not => K (.bool (!b)) | _ => False
 | .int k n => match op with | .neg => inR k (-n) ∧ K (.int k (-n)) | _ => False
 | _ => False

def AV.ok (x : AV) : Bool := x.one || x.isAgg

def TU (x a b : AV) (K : AV → Prop) : Prop :=
 match x with
 | .bool t => (t = true → K a) ∧ (t = false → K b)
 | _ => False

def lay (cs : List AV) (off : Nat) (xs : List AV) : List AV := cs.take off ++ xs ++ cs.drop (off + xs.length)
def F3 (fr : Nat → AV) : List AV → List (Nat × Nat × AF) → (List AV → Prop) → Prop
 | cs, [], K => K cs
 | cs, (off, n, x) :: r, K => ((x.ev fr).ok = true ∧ (x.ev fr).cells.length = n ∧ off + n ≤ cs.length) ∧ F3 fr (lay cs off (x.ev fr).cells) r K
def Dd (fr : Nat → AV) (esz : Nat) : List AV → List (Nat × AF) → (List AV → Prop) → Prop
 | es, [], K => K es
 | es, (i, x) :: r, K => ((x.ev fr).ok = true ∧ (x.ev fr).cells.length = esz ∧ i < es.length) ∧ Dd fr esz (es.set i (x.ev fr)) r K

def EN (agg : Bool) (cs : List AV) (off n : Nat) (K : AV → Prop) : Prop :=
 match agg with
 | true => off + n ≤ cs.length ∧ K (.agg ((cs.drop off).take n))
 | false => off < cs.length ∧ K (cs.getD off .top)

def EF (hp : Hp) (agg : Bool) (n : Nat) (x : AV) (K : AV → Prop) : Prop :=
 match x with
 | .obj cs => EN agg cs 0 n K
 | .ptr k v i off => match Ay hp k with
   | some b => (b.ver = v ∧ i < b.es.length) ∧ EN agg (b.es.getD i .top).cells off n K
   | none => False
 | _ => False

def AV.Fw (e : AV) (off : Nat) (xs : List AV) : AV :=
 match e with
 | .agg cs => .agg (lay cs off xs)
 | _ => match xs with
  | [x] => x
  | _ => e
def J1 (hp : Hp) (n : Nat) (a x : AV) (K : Hp → Prop) : Prop :=
 match a, x with
 | .ptr k v i off, x => match Ay hp k with
   | some b => (b.ver = v ∧ b.frz = false ∧ i < b.es.length ∧ x.ok = true ∧ x.cells.length = n ∧ off + n ≤ (b.es.getD i .top).cells.length) ∧
     K ((k, { b with es := b.es.set i ((b.es.getD i .top).Fw off x.cells) }) :: hp)
   | none => False
 | _, _ => False

def Hn (off : Nat) (x : AV) (K : AV → Prop) : Prop :=
 match x with
 | .obj cs => K (.obj (cs.drop off))
 | .ptr k v i o => K (.ptr k v i (o + off))
 | _ => False
def Z5 (agg : Bool) (off n : Nat) (x : AV) (K : AV → Prop) : Prop :=
 match x with
 | .agg cs => EN agg cs off n K
 | _ => False
def Dc (hp : Hp) (esz : Nat) (x i : AV) (K : AV → Prop) : Prop :=
 match x, i with
 | .sl es, .int _ i => (0 ≤ i ∧ i < es.length ∧ (es.getD i.toNat .top).cells.length = esz) ∧ K (.obj (es.getD i.toNat .top).cells)
 | .row k v n, .int _ i => match Ay hp k with
   | some b => (b.ver = v ∧ b.esz = esz ∧ 0 ≤ i ∧ i < n) ∧ K (.ptr k v i.toNat 0)
   | none => False
 | _, _ => False
def A4 (s : ByteArray) (i : Nat) : UInt8 := s.data.getD i 0
def TT (x i : AV) (K : AV → Prop) : Prop :=
 match x, i with
 | .str s, .int _ i => (0 ≤ i ∧ i < s.size) ∧ K (.int .u8 (A4 s i.toNat).toNat)
 | _, _ => False
def AV.num (d : Int) : AV → Int
 | .int _ n => n
 | _ => d
def AV.isInt : AV → Bool
 | .int _ _ => true
 | _ => false
def C8 (fr : Nat → AV) : Option AF → Bool
 | none => true
 | some x => (x.ev fr).isInt
def A3 (fr : Nat → AV) (d : Int) : Option AF → Int
 | none => d
 | some x => (x.ev fr).num d
def EE (fr : Nat → AV) (esz : Nat) (lo hi : Option AF) (x : AV) (K : AV → Prop) : Prop :=
 match x with
 | .str s => (esz = 0 ∧ C8 fr lo = true ∧ C8 fr hi = true ∧ 0 ≤ A3 fr 0 lo ∧ A3 fr 0 lo ≤ A3 fr s.size hi ∧ A3 fr s.size hi ≤ s.size) ∧
   K (.str (s.extract (A3 fr 0 lo).toNat (A3 fr s.size hi).toNat))
 | .sl es => (esz ≠ 0 ∧ C8 fr lo = true ∧ C8 fr hi = true ∧ 0 ≤ A3 fr 0 lo ∧ A3 fr 0 lo ≤ A3 fr es.length hi ∧ A3 fr es.length hi ≤ es.length ∧ (lo = none ∨ ∀ e ∈ es, e.cells.length = esz)) ∧
   K (.sl ((es.drop (A3 fr 0 lo).toNat).take ((A3 fr es.length hi).toNat - (A3 fr 0 lo).toNat)))
 | .row k v n => (esz ≠ 0 ∧ lo = none ∧ C8 fr hi = true ∧ 0 ≤ A3 fr n hi ∧ A3 fr n hi ≤ n) ∧ K (.row k v (A3 fr n hi).toNat)
 | .Au => (esz ≠ 0 ∧ lo = none ∧ C8 fr hi = true ∧ A3 fr 0 hi = 0) ∧ K .Au
 | _ => False
def Ic (str : Bool) (x : AV) (K : AV → Prop) : Prop :=
 match x with
 | .str s => str = true ∧ K (.int .i64 s.size)
 | .sl es => str = false ∧ K (.int .i64 es.length)
 | .row _ _ n => str = false ∧ K (.int .i64 n)
 | .Au => str = false ∧ K (.int .i64 0)
 | _ => False

def AV.Bu (hp : Hp) : AV → AV
 | .row k v n => match Ay hp k with
   | some b => if b.ver = v ∧ b.frz = true ∧ n ≤ b.es.length then .sl (b.es.take n) else .row k v n
   | none => .row k v n
 | .ptr k v i off => match Ay hp k with
   | some b => if b.ver = v ∧ b.frz = true ∧ i < b.es.length then .obj ((b.es.getD i .top).cells.drop off) else .ptr k v i off
   | none => .ptr k v i off
 | x => x
def AV.pur (hp : Hp) : AV → AV
 | .agg cs => .agg (cs.map (AV.Bu hp))
 | .tup cs => .tup (cs.map (AV.Bu hp))
 | x => x.Bu hp
def AV.BW (hp : Hp) : AV → AV
 | .fn f cs => .fn f (cs.map (AV.Bu hp))
 | x => x.pur hp

def EM (hp : Hp) : AV → Option (List AV)
 | .sl es => some es
 | .Au => some []
 | .row k v n => match Ay hp k with
   | some b => if b.ver = v ∧ n ≤ b.es.length then some (b.es.take n) else none
   | none => none
 | _ => none
def Ow (hp : Hp) (k : Nat) (ty : TypeId) (esz bytes : Nat) (s : AV) (x : Option (List AV)) (K : AV → Hp → Prop) : Prop :=
 match s, x with
 | .Au, some es => ((∀ e ∈ es, e.cells.length = esz) ∧ es.length * bytes ≤ 140737488355328 ∧ es.length ≤ maxLen) ∧
   ∀ v, K (.row k v es.length) ((k, ⟨v, false, ty, esz, es⟩) :: hp)
 | .row j v n, some es => match Ay hp j with
   | some b => (b.ver = v ∧ b.frz = false ∧ b.ty = ty ∧ b.esz = esz ∧ n ≤ b.es.length ∧ (∀ e ∈ es, e.cells.length = esz) ∧ (n + es.length) * bytes ≤ 140737488355328 ∧ n + es.length ≤ maxLen) ∧
     ∀ v', K (.row j v' (n + es.length)) ((j, ⟨v', false, ty, esz, b.es.take n ++ es⟩) :: hp)
   | none => False
 | _, _ => False

def Xx (s n : AV) (bytes : Nat) (K : Nat → Prop) : Prop :=
 match s, n with
 | .Au, .int _ n => (0 < n ∧ n * bytes ≤ 140737488355328 ∧ n ≤ 1099511627776) ∧ K n.toNat
 | _, _ => False
def TZ (dst : IntKind) (x : AV) (K : AV → Prop) : Prop :=
 match x with
 | .int _ n => inR dst n ∧ K (.int dst n)
 | _ => False
def F1 (i : Nat) (x : AV) (K : AV → Prop) : Prop :=
 match x with
 | .tup xs => i < xs.length ∧ K (xs.getD i .top)
 | _ => False
def FD (x : AV) (K : AV → Prop) : Prop :=
 match x with
 | .obj _ | .ptr _ _ _ _ | .fn _ _ => K x
 | _ => False
def aMm (mx : Bool) (xs : List AV) (K : AV → Prop) : Prop :=
 match xs with
 | [.int k a, .int k' b] => k = k' ∧ K (.int k (if mx then max a b else min a b))
 | _ => False
def Jg (s : ByteArray) : List AV := s.data.toList.map fun b : UInt8 => AV.int .u8 b.toNat
def Aa0 (x : AV) (K : ByteArray → Prop) : Prop :=
 match x with
 | .str s => K s
 | _ => False
def Z7 (x : AV) (K : AV → Prop) : Prop :=
 match x with
 | .Au => K (.int .i64 0)
 | _ => False
def Aaa (x : Option (List AV)) (K : AV → Prop) : Prop :=
 match x with
 | some es => ∃ l : List UInt8, es = l.map (fun b : UInt8 => AV.int .u8 b.toNat) ∧ K (.str ⟨l.toArray⟩)
 | none => False

structure Env where
 w0 : World
 S : Nat → Prop
 own : Nat → Prop
 mu : Mu

structure Ext (E : Env) (w : World) : Prop where
 os : w.os = E.w0.os
 tape : w.tape = E.w0.tape
 output : w.output = E.w0.output
 size : E.w0.heap.size ≤ w.heap.size
 block : ∀ b, b < E.w0.heap.size → ¬ E.own b → w.heap[b]? = E.w0.heap[b]?

def Du (S : Nat → Prop) (w : World) (μ : Mu) (cur : Array Value) (esz : Nat) (es : List AV) : Prop :=
 (∀ e ∈ es, e.cells.length = esz ∧ ∀ x ∈ e.cells, x.one = true) ∧
 ∀ i j e x, es[i]? = some e → e.cells[j]? = some x → ∃ v, cur[i * esz + j]? = some v ∧ VR S w μ v x

def Cd (w : World) (b : Nat) (cur : Array Value) (ty : TypeId) : Prop := ∃ fz : Nat × Nat, w.heap[b]? = some (.cells cur ty fz) ∧ (fz = (0, 0) ∨ cur.size ≤ fz.1)
theorem Cd.mk0 {w : World} {b : Nat} {cur : Array Value} {ty : TypeId} (h : w.heap[b]? = some (.cells cur ty (0, 0))) : Cd w b cur ty := ⟨_, h, .inl rfl⟩
theorem Cd.of {w w' : World} {b : Nat} {cur : Array Value} {ty : TypeId} (h : Cd w b cur ty) (e : w'.heap[b]? = w.heap[b]?) : Cd w' b cur ty := let ⟨fz, h1, h2⟩ := h; ⟨fz, e.trans h1, h2⟩
theorem Cd.lt {w : World} {b : Nat} {cur : Array Value} {ty : TypeId} (h : Cd w b cur ty) : b < w.heap.size := let ⟨_, h1, _⟩ := h; (Array.getElem?_eq_some_iff.1 h1).1
theorem Cd.cell {w : World} {b : Nat} {cur : Array Value} {ty : TypeId} (h : Cd w b cur ty) (j : Nat) : w.cell? ⟨b, j, none⟩ = cur[j]? := by
 obtain ⟨fz, h1, _⟩ := h
 simp [World.cell?, h1]
theorem Cd.Ab9 {w : World} {b : Nat} {cur : Array Value} {ty : TypeId} (h : Cd w b cur ty) {j : Nat} (hj : j < cur.size) : w.frozen? ⟨b, j, none⟩ = false := by
 obtain ⟨⟨lo, hi⟩, h1, h2⟩ := h
 simp only [World.frozen?, h1]
 rcases h2 with e | e
 ·cases e; simp
 ·have : ¬ lo ≤ j := by simp only at e; omega
  simp [this]
theorem Cd.setRow {w : World} {b : Nat} {cur cur' : Array Value} {ty : TypeId} (h : Cd w b cur ty) (hs : cur'.size = cur.size) : Cd (w.setRow b cur') b cur' ty := let ⟨fz, h1, h2⟩ := h; ⟨fz, setRow_heap w b cur cur' ty fz h1, h2.imp id fun e => by rw [hs]; exact e⟩
theorem Cd.store {P : Program} {b o : Nat} {ty : TypeId} : ∀ (vs : List Value) (i : Nat) (cur : Array Value) (w : World), Cd w b cur ty → o + i + vs.length ≤ cur.size → (∀ v ∈ vs, v.oneCell' = true) →
  (storeCells ⟨b, o, none⟩ vs i).run P w = .ok () (w.setRow b (cur.toList.take (o + i) ++ vs ++ cur.toList.drop (o + i + vs.length)).toArray)
 | [], i, cur, w, hg, _, _ => by
  obtain ⟨fz, h1, _⟩ := hg
  simp only [storeCells, List.append_nil, List.length_nil, Nat.add_zero, List.take_append_drop, Array.toArray_toList]
  rw [setRow_self w b cur ty fz h1]
  rfl
 | v :: rest, i, cur, w, hg, hl, h1 => by
  have hi : o + i < cur.size := by simp at hl; omega
  have hadd : (⟨b, o, none⟩ : Addr).add i = ⟨b, o + i, none⟩ := by unfold Addr.add; split <;> simp_all
  have hcell : w.cell? ⟨b, o + i, none⟩ = some cur[o + i] := by rw [hg.cell]; simp [hi]
  have hfro := hg.Ab9 hi
  have hst : (Go.store ((⟨b, o, none⟩ : Addr).add i) v).run P w = .ok () (w.setRow b (cur.setIfInBounds (o + i) v)) := by
   obtain ⟨fz, h2, _⟩ := hg
   rw [hadd, run_store P w _ v _ (h1 v (by simp)), hcell]
   simp [hfro, setCell_eq_setRow w b (o + i) cur ty fz v h2]
  have ih := Cd.store (P := P) (b := b) (o := o) (ty := ty) rest (i + 1) (cur.setIfInBounds (o + i) v) (w.setRow b (cur.setIfInBounds (o + i) v)) (hg.setRow (by simp)) (by simp at hl ⊢; omega) (fun x hx => h1 x (by simp [hx]))
  simp only [storeCells, Sem.run_bind, hst, Result.andThen_ok, ih, setRow_setRow]
  congr 3
  have e := list_seg_step cur.toList (o + i) v rest (by simp at hl ⊢; omega)
  simpa [Array.toList_setIfInBounds, Nat.add_assoc] using e
theorem Cd.room {P : Program} {w : World} {t ty e : TypeId} {i : TypeInfo} (ht : P.underlying t = some (.slice e)) (hi : P.info? e = some i) {g sLen sCap : Nat} {cur : Array Value} (hg : Cd w g cur e)
  (a : Addr) (m c : Nat) (news : List Value) (hl : news.length = m * i.size) (hnews : ∀ j u, news[j]? = some u → w.cell? (a.add j) = some u) (h1 : ∀ u ∈ news, u.oneCell' = true)
  (hroom : sLen + m ≤ sCap) (hfit : sLen * i.size + news.length ≤ cur.size) :
  (Builtin.append_ #[t, t] ty #[.slice (some ⟨g, 0, none⟩) sLen sCap, .slice (some a) m c]).run P w =
   .ok (.slice (some ⟨g, 0, none⟩) (sLen + m) sCap) (w.setRow g (cur.toList.take (sLen * i.size) ++ news ++ cur.toList.drop (sLen * i.size + news.length)).toArray) := by
 have hf := run_firstCells_some (P := P) w i.size m a m c news hl hnews
 have hst := Cd.store (P := P) (b := g) (o := sLen * i.size) (ty := e) news 0 cur w hg (by simpa using hfit) h1
 simp only [Nat.add_zero] at hst
 simp [Builtin.append_, run_underlying ht, sizeOf, typeInfo, hi, Builtin.lenOf, hroom, hf, Addr.add_lit, hst]
def Acr (E : Env) (S : Nat → Prop) (w : World) (μ : Mu) (k : Nat) (bx : Box) : Prop :=
 ∃ B : Bk, μ k bx.ver = some B ∧ B.esz = bx.esz ∧
  match B.blk with
  | none => bx.es = []
  | some b => (bx.frz = false → E.w0.heap.size ≤ b ∨ E.own b) ∧ (bx.frz = true → S b) ∧ (bx.frz = false → ¬ S b) ∧
    ∃ cur, Cd w b cur bx.ty ∧ cur.size = B.cap * B.esz ∧ B.cap ≤ maxLen ∧ bx.es.length ≤ B.cap ∧ Du S w μ cur B.esz bx.es

def Mh (μ : Mu) : Prop := ∃ N, 0 < N ∧ (∀ k v, N ≤ v → μ k v = none) ∧ ∀ k B, μ k 0 = some B → 5000 ≤ k ∧ B.blk = some (k - 5000)
structure WI (E : Env) (S : Nat → Prop) (w : World) (μ : Mu) (hp : Hp) : Prop where
 ext : Ext E w
 lt : ∀ b, S b → b < w.heap.size
 base : ∀ b, E.S b → S b
 new : ∀ b, S b → E.S b ∨ E.w0.heap.size ≤ b ∨ E.own b
 fresh : Mh μ
 box : ∀ k bx, Ay hp k = some bx → Acr E S w μ k bx
 apart : ∀ k k' bx bx' B B' b, Ay hp k = some bx → Ay hp k' = some bx' → k ≠ k' → bx.frz = false → bx'.frz = false →
  μ k bx.ver = some B → μ k' bx'.ver = some B' → B.blk = some b → B'.blk ≠ some b
 le : Mu.le E.mu μ

def CX (P : Program) (f : FuncId) : Bool :=
 match P.funcs[f]? with
 | some fn => fn.body.isSome && fn.name != "runtime.NumGoroutine"
 | none => false
def AH (P : Program) (f : FuncId) (args : List AV) (res : AV) : Prop :=
 CX P f = true ∧ (∀ x ∈ args, Ap x) ∧ ∀ (S : Nat → Prop) (w : World) (vs : List Value), (∀ b, S b → b < w.heap.size) → VRs S w mu0 vs args →
  Calls P f vs.toArray w fun e w' => ∃ v, e = .returned v ∧ VR (fun b => S b ∨ (w.heap.size ≤ b ∧ b < w'.heap.size)) w' mu0 v res ∧ Below w.heap.size w w'

def Gb (μ : Mu) (hp : Hp) : Nat → Prop := fun b => ∃ k bx B, Ay hp k = some bx ∧ bx.frz = false ∧ μ k bx.ver = some B ∧ B.blk = some b
def AW (P : Program) (f : FuncId) (args : List AV) (hp : Hp) (Post : AV → Hp → Prop) : Prop :=
 CX P f = true ∧ ∀ (S : Nat → Prop) (w : World) (μ : Mu) (vs : List Value), WI ⟨w, S, Gb μ hp, μ⟩ S w μ hp → VRs S w μ vs args →
  Calls P f vs.toArray w fun e w' => ∃ v r hp' S' μ', e = .returned v ∧ Post r hp' ∧ VR S' w' μ' v r ∧ WI ⟨w, S, Gb μ hp, μ⟩ S' w' μ' hp'
def IX (hs : List Nat) (hp : Hp) : Hp := hs.filterMap fun k => (Ay hp k).map fun b => (k, b)
def BU (hs : List Nat) (hp : Hp) : Hp := hp.filter fun p => !hs.contains p.1
def Dr (hp : Hp) (k : Nat) : Hp :=
 match Ay hp k with
 | some b => (k, { b with frz := true, es := b.es.map (AV.pur hp) }) :: hp
 | none => hp

def BK : List Nat → Hp → Hp
 | [], hp => hp
 | k :: r, hp => BK r (Dr hp k)
def AV.Ht : AV → Bool
 | .bool _ | .int _ _ | .str _ | .C9 | .Au | .F6 => true
 | _ => false
def AV.Uv : AV → Bool
 | .tup xs => xs.all AV.Ht
 | x => x.Ht
def AV.plain : AV → Bool
 | .agg cs => cs.all AV.Ht
 | x => x.Ht
theorem XP {hp : Hp} {x : AV} (h : x.Ht = true) : x.Bu hp = x := by cases x <;> first | rfl | (simp [AV.Ht] at h)
theorem Wt {α : Type} {f : α → α} {l : List α} (h : ∀ x ∈ l, f x = x) : l.map f = l := (List.map_congr_left (g := id) fun x hx => h x hx).trans (List.map_id _)
theorem XO {hp : Hp} : ∀ {x : AV}, x.plain = true → x.pur hp = x
 | .agg cs, h => by
  have h' : ∀ y ∈ cs, y.Ht = true := List.all_eq_true.1 h
  show AV.agg (cs.map (AV.Bu hp)) = AV.agg cs
  rw [Wt fun y hy => XP (h' y hy)]
 | .bool _, _ | .int _ _, _ | .str _, _ | .C9, _ | .Au, _ | .F6, _ => rfl
theorem XV {hp : Hp} {es : List AV} (h : es.all AV.plain = true) : es.map (AV.pur hp) = es := Wt fun x hx => XO (List.all_eq_true.1 h x hx)
theorem LZ {fr : Nat → AV} {esz : Nat} : ∀ {ps : List (Nat × AF)} {es : List AV} {L L' : List AV → Prop}, (∀ es, L es → L' es) → Dd fr esz es ps L → Dd fr esz es ps L'
 | [], es, L, L', hl, h => hl _ h
 | (i, x) :: r, es, L, L', hl, h => ⟨h.1, LZ hl h.2⟩
theorem P9 {fr : Nat → AV} {esz : Nat} : ∀ {ps : List (Nat × AF)} {es : List AV} {L : List AV → Prop}, Dd fr esz es ps L → ∃ fs, L fs ∧ ∀ L' : List AV → Prop, L' fs → Dd fr esz es ps L'
 | [], es, L, h => ⟨es, h, fun _ h' => h'⟩
 | (i, x) :: r, es, L, h => by
  obtain ⟨fs, h1, h2⟩ := P9 h.2
  exact ⟨fs, h1, fun L' h' => ⟨h.1, h2 L' h'⟩⟩
def AV.G7 : AV → Bool
 | .bool _ | .int _ _ | .str _ | .C9 | .Au | .F6 | .ptr _ _ _ _ | .row _ _ _ => true
 | _ => false
def AV.Nn : AV → Bool
 | .agg cs => cs.all AV.G7
 | x => x.G7
def AV.free : AV → Bool
 | .tup cs => cs.all AV.Nn
 | x => x.Nn
def Gm (hp : Hp) : Prop := ∀ k bx, Ay hp k = some bx → bx.frz = false ∧ ∀ e ∈ bx.es, ∀ x ∈ e.cells, x.G7 = true
def NZ (P : Program) (f : FuncId) (args : List AV) (hp : Hp) (K : AV → Hp → Prop) : Prop := ∃ hs Post, (AW P f args (IX hs hp) Post ∧ ∀ r hp', Post r hp' → K r (hp' ++ BU hs hp)) ∨
 (AW P f (args.map (AV.BW (BK hs hp))) [] Post ∧ ∀ r hp', Post r hp' → (r.free = true ∧ Gm hp') ∧ K r (hp' ++ hp))
def KO (P : Program) (x : AV) (args : List AV) (hp : Hp) (K : AV → Hp → Prop) : Prop :=
 match x with
 | .fn f caps => NZ P f (args ++ caps) hp K
 | _ => False
def L1 (P : Program) (f : FuncId) (args : List AV) (hp : Hp) (K : AV → Prop) : Prop := ∃ r, (AH P f args r ∨ ∃ ks, AH P f (args.map (AV.BW (BK ks hp))) r ∧ r.Uv = true) ∧ K r
def Q4 (P : Program) (x : AV) (args : List AV) (hp : Hp) (K : AV → Prop) : Prop :=
 match x with
 | .fn f caps => L1 P f (args ++ caps) hp K
 | _ => False
def Ni (r : AV) (hp : Hp) : Hp :=
 match r with
 | .row k _ _ => Dr hp k
 | _ => hp
def IOp.sem (P : Program) (fr : Nat → AV) (hp : Hp) (K : AV → Hp → Prop) : IOp → Prop
 | .mov x => K (x.ev fr) hp
 | .pick c a b => TU (c.ev fr) (a.ev fr) (b.ev fr) fun v => K v hp
 | .bin op kd x y => FE op kd (x.ev fr) (y.ev fr) fun v => K v hp
 | .ZZ op x y => KR op (x.ev fr) (y.ev fr) fun v => K v hp
 | .AbO op x y => EO op (x.ev fr) (y.ev fr) fun v => K v hp
 | .un op x => aUn op (x.ev fr) fun v => K v hp
 | .AaZ x => (x.ev fr).ok = true ∧ K (.obj ((x.ev fr).pur hp).cells) hp
 | .Fk k ty n x => ((x.ev fr).ok = true ∧ (x.ev fr).cells.length = n) ∧ ∀ v, K (.ptr k v 0 0) ((k, ⟨v, false, ty, n, [x.ev fr]⟩) :: hp)
 | .build zero parts => F3 fr zero parts fun cs => K (.agg cs) hp
 | .slP m zero parts => Dd fr zero.cells.length (List.replicate m zero) parts fun es => K (.sl (es.map (AV.pur hp))) hp
 | .slF m zero parts => Dd fr zero.cells.length (List.replicate m zero) parts fun es => es.all AV.plain = true ∧ K (.sl es) hp
 | .slO k ty m zero parts => Dd fr zero.cells.length (List.replicate m zero) parts fun es => ∀ v, K (.row k v m) ((k, ⟨v, false, ty, zero.cells.length, es⟩) :: hp)
 | .load agg n a => EF hp agg n (a.ev fr) fun v => K v hp
 | .Sk agg n a => EF [] agg n (a.ev fr) fun v => K v hp
 | .store n a x => J1 hp n (a.ev fr) (x.ev fr) fun hp => K (.tup []) hp
 | .Bh off x => Hn off (x.ev fr) fun v => K v hp
 | .fld agg off n x => Z5 agg off n (x.ev fr) fun v => K v hp
 | .DX esz x i => Dc hp esz (x.ev fr) (i.ev fr) fun v => K v hp
 | .M9 esz x i => Dc [] esz (x.ev fr) (i.ev fr) fun v => K v hp
 | .Abs x i => TT (x.ev fr) (i.ev fr) fun v => K v hp
 | .slice esz x lo hi => EE fr esz lo hi (x.ev fr) fun v => K v hp
 | .len g x => Ic g (x.ev fr) fun v => K v hp
 | .append k ty esz bytes s x => Ow hp k ty esz bytes (s.ev fr) ((EM hp (x.ev fr)).map (·.map (AV.pur hp))) K
 | .Vi k ty esz bytes s x => Ow hp k ty esz bytes (s.ev fr) ((EM hp (x.ev fr)).map (·.map (AV.pur hp))) fun r hp' => K (r.pur (Ni r hp')) (Ni r hp')
 | .mkSlice k ty bytes zero m => match m.ev fr with
   | .int _ n => (0 ≤ n ∧ n * bytes ≤ 140737488355328) ∧ ∀ v, K (.row k v n.toNat) ((k, ⟨v, false, ty, zero.cells.length, List.replicate n.toNat zero⟩) :: hp)
   | _ => False
 | .TN k ty bytes zero s n => Xx (s.ev fr) (n.ev fr) bytes fun m => ∀ v, K (.row k v m) ((k, ⟨v, false, ty, zero.cells.length, List.replicate m zero⟩) :: hp)
 | .conv dst x => TZ dst (x.ev fr) fun v => K v hp
 | .b2s x => Aaa (EM hp (x.ev fr)) fun v => K v hp
 | .s2b k ty x => Aa0 (x.ev fr) fun s => ∀ v, K (.row k v s.size) ((k, ⟨v, false, ty, 1, Jg s⟩) :: hp)
 | .cap x => Z7 (x.ev fr) fun v => K v hp
 | .extract i x => F1 i (x.ev fr) fun v => K v hp
 | .call f args => L1 P f (args.map fun x => (x.ev fr).BW hp) hp fun v => K v hp
 | .Tq f args => (∀ hp, (args.map fun x => (x.ev fr).BW hp) = args.map fun x => x.ev fr) ∧ L1 P f (args.map fun x => x.ev fr) [] fun v => K v hp
 | .ZS f args => Q4 P ((f.ev fr).BW hp) (args.map fun x => (x.ev fr).BW hp) hp fun v => K v hp
 | .Bc f args => NZ P f (args.map fun x => (x.ev fr).BW hp) hp K
 | .JZ f args => KO P ((f.ev fr).BW hp) (args.map fun x => (x.ev fr).BW hp) hp K
 | .AbI f caps => K (.fn f (caps.map fun x => x.ev fr)) hp
 | .Da x => FD (x.ev fr) fun v => K v hp
 | .mm mx xs => aMm mx (xs.map fun x => x.ev fr) fun v => K v hp
 | .Kv neg x => match x.ev fr with
   | .sl es => (es = [] → K (.bool (!neg)) hp) ∧ K (.bool neg) hp
   | .Au => K (.bool (!neg)) hp
   | _ => False
 | .bad => False

structure St where
 fr : List (Nat × AV)
 hp : Hp
def St.put (s : St) (d : Option Nat) (x : AV) (hp : Hp) : St :=
 match d with
 | some d => ⟨(d, x) :: s.fr, hp⟩
 | none => ⟨s.fr, hp⟩

def EC : Hp → List Nat
 | [] => []
 | (k, _) :: r => if (EC r).contains k then EC r else k :: EC r
def JV (hp : Hp) : Hp := BK (EC hp) (BK (EC hp) hp)

def IOp.quiet : IOp → Bool
 | .Fk .. | .slO .. | .store .. | .append .. | .Vi .. | .mkSlice .. | .TN .. | .s2b .. | .Bc .. | .JZ .. | .Kv .. => false
 | _ => true

def Bv (P : Program) (Q : St → Prop) : List BM → St → Prop
 | [], s => Q s
 | o :: rest, s =>
  match o.guard with
  | none => o.op.sem P (Bf s.fr) s.hp fun v hp => Bv P Q rest (s.put o.dst v hp)
  | some (t, want) =>
   match Bf s.fr t with
   | .bool b => (b = want → o.op.sem P (Bf s.fr) s.hp fun v hp => Bv P Q rest (s.put o.dst v hp)) ∧ (b = (!want) → Bv P Q rest (s.put o.dst (.tup []) s.hp))
   | .tup _ => Bv P Q rest (s.put o.dst (.tup []) s.hp)
   | _ => False

end Go.Proofs.YtoffpbehgncakaaGreat.Av

namespace Go.Proofs.YtoffpbehgncakaaGreat.Av
open Go.RowKit

def AaN : Value → Option AV
 | .bool b => some (.bool b)
 | .int k n => if k.min ≤ n ∧ n ≤ k.max then some (.int k n) else none
 | .string s => if s.size ≤ maxLen then some (.str s) else none
 | .pointer none => some .C9
 | .slice none 0 0 => some .Au
 | .nilFunc => some .F6
 | _ => none
def Zq : List Value → Option (List AV)
 | [] => some []
 | v :: r => match AaN v, Zq r with
   | some x, some xs => some (x :: xs)
   | _, _ => none
def JQ : Value → Option AV
 | .agg cs => (Zq cs.toList).map .agg
 | v => AaN v
def QT (s : ByteArray) : List Nat := s.data.toList.map UInt8.toNat
theorem Yj (s : ByteArray) : bs (QT s) = s := by
 have h : (UInt8.ofNat ∘ UInt8.toNat) = id := by funext x; simp
 apply ByteArray.ext
 simp [bs, QT, h]
def AG : Operand → Option AF
 | .tmp t => some (.t t)
 | .const (.string s) => if s.size ≤ maxLen then some (.s (QT s)) else none
 | .const v => (JQ v).map .c
 | .func f => some (.c (.fn f []))
 | .global _ => none
def B6 : List Operand → Option (List AF)
 | [] => some []
 | x :: r => match AG x, B6 r with
   | some x, some xs => some (x :: xs)
   | _, _ => none

def BH (P : Program) (t : TypeId) : Option Nat := (P.info? t).map (·.size)
def J8 (P : Program) (t : TypeId) : Option Bool :=
 match P.underlying t with
 | some (.struct _) | some (.array _ _) => some true
 | some _ => some false
 | none => none
def QR (P : Program) (t : TypeId) : Option Nat :=
 match P.underlying t with
 | some .bool => some 0
 | some (.int _) => some 1
 | some .string => some 2
 | _ => none
def Gw (P : Program) : List Field → Nat → Option (List Nat)
 | [], _ => some []
 | f :: r, i => match QR P f.type, Gw P r (i + 1) with
   | some k, some ks => if f.offset = i ∧ f.name ≠ "_" then some (k :: ks) else none
   | _, _ => none
def E2 (P : Program) (t : TypeId) : EqK :=
 match P.underlying t with
 | some .bool => .bool
 | some (.pointer e) => .ptr
 | some (.slice _) => .slice
 | some (.struct fs) => if P.stoodInHeld t = false then (match Gw P fs.toList 0 with
   | some ks => .flat ks
   | none => .other) else .other
 | _ => .other

def D8 (P : Program) (t : TypeId) : Option TypeId :=
 match P.underlying t with
 | some (.slice e) => some e
 | _ => none
def Dq (P : Program) (t : TypeId) : Option AV := ((P.info? t).bind (·.zero)).bind JQ
def Iq (P : Program) (fs : Array Field) : List (Nat × Operand) → Option (List (Nat × Nat × AF))
 | [] => some []
 | (i, x) :: r => match fs[i]?, AG x, Iq P fs r with
   | some f, some x, some r => (BH P f.type).map fun n => (f.offset, n, x) :: r
   | _, _, _ => none
def GQ : List (Nat × Operand) → Option (List (Nat × AF))
 | [] => some []
 | (i, x) :: r => match AG x, GQ r with
   | some x, some r => some ((i, x) :: r)
   | _, _ => none
def Qp : Operand → Operand → Bool
 | .tmp a, .tmp b => a == b
 | .const (.int k a), .const (.int k' b) => k == k' && a == b
 | _, _ => false

def OH (P : Program) (t : TypeId) : Option Nat :=
 match P.underlying t with
 | some .string => some 0
 | some (.slice e) => match BH P e with
   | some (n + 1) => some (n + 1)
   | _ => none
 | _ => none

def UK (P : Program) (op : BinOp) (t : TypeId) (x y : AF) : Option IOp :=
 match y with
 | .c .Au => if E2 P t = .slice then (match op with
   | .eql => some (.Kv false x)
   | .neq => some (.Kv true x)
   | _ => none) else none
 | _ => none

def AcE (own : List (Nat × Nat)) (o : Oper) : Option Nat := (o.dst.bind fun d => own.lookup d).bind fun k => if k = 7775 ∨ k = 7774 then none else some k
def MS (P : Program) (own : List (Nat × Nat)) (o : Oper) : Option IOp :=
 let mk := AcE own o
 let mkA : Option Nat := if mk = some 9999 then none else if mk = none then o.dst else mk
 match o.op with
 | .move x | .assign x => (AG x).map .mov
 | .pick c a b => match AG c, AG a, AG b with
   | some c, some a, some b => some (.pick c a b)
   | _, _, _ => none
 | .binOp op t x y _ => match AG x, AG y with
   | some x, some y => if mk = some 7776 then UK P op t x y else match op, mk with
    | .shl, _ | .shr, _ | .and, _ | .or, _ | .xor, _ | _, some _ => some (.AbO op x y)
    | _, none => some (.bin op (E2 P t) x y)
   | _, _ => none
 | .unOp op _ x => (AG x).map (.un op)
 | .alloc e => match Dq P e, BH P e, mkA with
   | some z, some _, none => some (.AaZ (.c z))
   | some z, some n, some k => some (.Fk k e n (.c z))
   | _, _, _ => none
 | .box e x => match AG x, BH P e, mk with
   | some x, some _, none => some (.AaZ x)
   | some x, some n, some k => some (.Fk k e n x)
   | _, _, _ => none
 | .build t ps => match P.underlying t with
   | some (.struct fs) => match Dq P t, Iq P fs ps.toList with
    | some z, some ps => if z.isAgg ∧ (fs.toList.all fun f => (BH P f.type).isSome) then some (.build z.cells ps) else none
    | _, _ => none
   | _ => none
 | .buildSlice t n ps => match D8 P t with
   | some e => match BH P e, Dq P e, GQ ps.toList with
    | some sz, some z, some ps => if z.cells.length = sz ∧ 0 < sz ∧ n * sz ≤ 2 ^ 24 then
      (match (if n = 0 then mkA else mk) with
       | none => some (.slP n z ps)
       | some k => some (.slO k e n z ps)) else none
    | _, _, _ => none
   | none => none
 | .load t a => match J8 P t, BH P t, AG a with
   | some g, some n, some a => some (.load g n a)
   | _, _, _ => none
 | .store t a x => match BH P t, AG a, AG x with
   | some n, some a, some x => some (.store n a x)
   | _, _, _ => none
 | .fieldAddr s x f => match P.underlying s with
   | some (.struct fs) => match fs[f]?, AG x with
    | some fd, some x => match BH P fd.type with
     | some (n + 1) => some (.Bh fd.offset x)
     | _ => none
    | _, _ => none
   | _ => none
 | .field s x f => match P.underlying s with
   | some (.struct fs) => match fs[f]?, AG x with
    | some fd, some x => match BH P fd.type, J8 P fd.type with
     | some n, some g => some (.fld g fd.offset n x)
     | _, _ => none
    | _, _ => none
   | _ => none
 | .indexAddr t x i => match D8 P t with
   | some e => match BH P e, AG x, AG i with
    | some (n + 1), some x, some i => some (.DX (n + 1) x i)
    | _, _, _ => none
   | none => none
 | .index t x i => match P.underlying t, AG x, AG i with
   | some .string, some x, some i => some (.Abs x i)
   | _, _, _ => none
 | .slice t x lo hi none => match OH P t, AG x with
   | some n, some x => match lo.map AG, hi.map AG with
    | none, none => some (.slice n x none none)
    | some (some lo), none => some (.slice n x (some lo) none)
    | none, some (some hi) => some (.slice n x none (some hi))
    | some (some lo), some (some hi) => some (.slice n x (some lo) (some hi))
    | _, _ => none
   | _, _ => none
 | .makeSlice t l c => match D8 P t with
   | some e => match P.info? e, Dq P e, AG l with
    | some i, some z, some l' => if Qp l c ∧ z.cells.length = i.size ∧ 0 < i.size ∧ 0 < i.bytes then (match mkA with | some k => some (.mkSlice k e i.bytes z l') | none => none) else none
    | _, _, _ => none
   | none => none
 | .convert s d x => match P.underlying s, P.underlying d, AG x with
   | some (.int _), some (.int k), some x => some (.conv k x)
   | some (.slice e), some .string, some x => match P.underlying e with
    | some (.int .u8) => if BH P e = some 1 then some (.b2s x) else none
    | _ => none
   | some .string, some (.slice e), some x => match P.underlying e, mkA with
    | some (.int .u8), some k => some (.s2b k e x)
    | _, _ => none
   | _, _, _ => none
 | .extract x i => (AG x).map (.extract i)
 | .makeFunc (.func f) first caps => if first.isEmpty then (B6 caps.toList).map (.AbI f) else none
 | .nilCheck x => (AG x).map .Da
 | .call c => match c.callee with
  | .builtin .len => match c.args.toList, c.argTypes.toList with
   | [x], [t] => match P.underlying t, AG x with
    | some .string, some x => some (.len true x)
    | some (.slice _), some x => some (.len false x)
    | _, _ => none
   | _, _ => none
  | .builtin .append => match c.args.toList, c.argTypes.toList, mkA with
   | [s, x], [t, t'], some k => if t == t' then match D8 P t with
     | some e => match P.info? e, Dq P e, AG s, AG x with
      | some i, some z, some s, some x => if z.cells.length = i.size ∧ 0 < i.size then some (.append k e i.size i.bytes s x) else none
      | _, _, _, _ => none
     | none => none
    else match P.underlying t', D8 P t with
     | some (.int _), some e => match P.info? e, Dq P e, AG s, AG x with
      | some i, some z, some s, some x => if z.cells.length = i.size ∧ 0 < i.size then some (.TN k e i.bytes z s x) else none
      | _, _, _, _ => none
     | _, _ => none
   | _, _, _ => none
  | .builtin .max => (B6 c.args.toList).map (.mm true)
  | .builtin .min => (B6 c.args.toList).map (.mm false)
  | .builtin .cap => match c.args.toList, c.argTypes.toList with
   | [x], [t] => match P.underlying t, AG x with
    | some (.slice _), some x => some (.cap x)
    | _, _ => none
   | _, _ => none
  | .value (.func f) => if CX P f then (B6 c.args.toList).map (if own.contains (o.dst.getD 100000, 7777) then .Bc f else .call f) else none
  | .value f => match AG f, B6 c.args.toList with
   | some f, some xs => if own.contains (o.dst.getD 100000, 7777) then some (.JZ f xs) else some (.ZS f xs)
   | _, _ => none
  | _ => none
 | _ => none

def IOp.LN (b : Bool) : IOp → IOp
 | .load g n a => if b = true then .Sk g n a else .load g n a
 | .slP m z ps => if b = true then .slF m z ps else .slP m z ps
 | .bin op kd x y => if b = true then .ZZ op x y else .bin op kd x y
 | .DX e x i => if b = true then .M9 e x i else .DX e x i
 | .call f as => if b = true then .Tq f as else .call f as
 | x => x
theorem Vm {hp : Hp} {g : Bool} {n : Nat} {x : AV} {K : AV → Prop} (h : EF [] g n x K) : EF hp g n x K := by
 cases x <;> first | exact h | exact h.elim
theorem TX {hp : Hp} {e : Nat} {x i : AV} {K : AV → Prop} (h : Dc [] e x i K) : Dc hp e x i K := by
 unfold Dc at h ⊢
 split at h
 ·exact h
 ·exact h.elim
 ·exact h.elim
theorem Pw : ∀ ks : List Nat, BK ks ([] : Hp) = []
 | [] => rfl
 | k :: r => Pw r
theorem Vo {P : Program} {f : FuncId} {hp : Hp} {as : List AF} {fr : Nat → AV} {K : AV → Prop} (h : (∀ hp, (as.map fun x => (x.ev fr).BW hp) = as.map fun x => x.ev fr) ∧ L1 P f (as.map fun x => x.ev fr) [] K) : L1 P f (as.map fun x => (x.ev fr).BW hp) hp K := by
 obtain ⟨hp', r, h1, hk⟩ := h
 refine ⟨r, .inl ?_, hk⟩
 rw [hp' hp]
 rcases h1 with h1 | ⟨ks, h1, _⟩
 ·exact h1
 ·have e : BK ks ([] : Hp) = [] := Pw ks
  have h2 := hp' []
  rw [e, List.map_map] at h1
  exact h2 ▸ h1
theorem Le {P : Program} {b : Bool} {x : IOp} {fr : Nat → AV} {hp : Hp} {K : AV → Hp → Prop} (h : (x.LN b).sem P fr hp K) : x.sem P fr hp K := by
 cases x <;> first | exact h | skip
 case load g n a =>
  cases b
  ·exact h
  ·exact Vm h
 case bin op kd x y =>
  cases b
  ·exact h
  ·exact Yw h
 case DX e x i =>
  cases b
  ·exact h
  ·exact TX (hp := hp) (e := e) (x := x.ev fr) (i := i.ev fr) (K := fun v => K v hp) h
 case call f as =>
  cases b
  ·exact h
  ·exact Vo (hp := hp) (as := as) (K := fun v => K v hp) h
 case slP m z ps =>
  cases b
  ·exact h
  ·exact LZ (fun es ⟨h1, h2⟩ => by rw [XV h1]; exact h2) h
theorem SY {b : Bool} {x : IOp} : (x.LN b).quiet = x.quiet := by
 cases x <;> first | rfl | (cases b <;> rfl)
def IOp.kept (b : Bool) : IOp → IOp
 | .append k ty e y s x => if b = true then .Vi k ty e y s x else .append k ty e y s x
 | x => x
def MT (P : Program) (own : List (Nat × Nat)) (o : Oper) : Option IOp :=
 match MS P own o with
 | some x => some ((x.LN (own.contains (o.dst.getD 100000, 7775))).kept (own.contains (o.dst.getD 100000, 7774)))
 | none => some .bad

def FN (ops : Array Oper) : Option (Nat × Bool) → Option (Option (Nat × Bool))
 | none => some none
 | some (j, want) => match (ops[j]?).bind (·.dst) with
   | some t => some (some (t, want))
   | none => none
def PK (nt : Nat) : Option Nat → Bool
 | some d => decide (d < nt)
 | none => true
def Gc (P : Program) (nt : Nat) (own : List (Nat × Nat)) (ops : Array Oper) (o : Oper) : Option BM :=
 match FN ops o.guard, MT P own o with
 | some g, some io => if PK nt o.dst then some ⟨o.dst, g, io⟩ else none
 | _, _ => none

def Cu (P : Program) (nt : Nat) (own : List (Nat × Nat)) (ops : Array Oper) : List Oper → Option (List BM)
 | [] => some []
 | o :: r => match Gc P nt own ops o, Cu P nt own ops r with
   | some x, some xs => some (x :: xs)
   | _, _ => none

inductive BE where
 | skip
 | region (ops : List BM)
 | draw (ops : List BM)
 | both (a b : BE)
 | seq (a b : BE)
 | cond (c : AF) (a b : BE)
 | block (id : Nat) (a : BE)
 | loop (a : BE)
 | exit (id : Nat)
 | scope (a : BE)
 | ret
 | GL
 | ghost (a : BE)
 deriving Inhabited

end Go.Proofs.YtoffpbehgncakaaGreat.Av

namespace Go.Proofs.YtoffpbehgncakaaGreat.Av
open Go.RowKit

def Bb (P : Program) (ρ : Operand → Value) (o : Oper) (w : World) (R : Value → World → Prop) : Prop :=
 match (execOp ρ o).run P w with
 | .ok (.value v) w' => R v w'
 | .ok .skip w' => R undef w'
 | .ok (.enter f args) w' => Calls P f args w' fun e w'' => ∃ v, e = .returned v ∧ R v w''
 | _ => False
theorem Bb.wp {P : Program} {a : Act} {o : Oper} {w : World} {R : Value → World → Prop} {K : Act → World → Prop} {Q : Exit → Act → World → Prop} (h : Bb P a.eval o w R) (hk : ∀ v w', R v w' → K (a.put o.dst v) w') : o.wp P a w K Q := by
 unfold Bb at h
 unfold Oper.wp Oper.upon
 split at h
 ·rename_i v w' hr; rw [hr]; exact hk _ _ h
 ·rename_i w' hr; rw [hr]; exact hk _ _ h
 ·rename_i f args w' hr
  rw [hr]
  exact h.mono fun e w'' ⟨v, he, hv⟩ => by subst he; exact hk _ _ hv
 ·exact h.elim
theorem Bb.mono {P : Program} {ρ : Operand → Value} {o : Oper} {w : World} {R R' : Value → World → Prop} (h : Bb P ρ o w R) (hk : ∀ v w', R v w' → R' v w') : Bb P ρ o w R' := by
 unfold Bb at *
 split at h
 ·rename_i v w' hr; exact hk _ _ h
 ·rename_i w' hr; exact hk _ _ h
 ·rename_i f args w' hr
  exact h.mono fun e w'' ⟨v, he, hv⟩ => ⟨v, he, hk _ _ hv⟩
 ·exact h.elim
theorem Bb.val {P : Program} {ρ : Operand → Value} {o : Oper} {w w' : World} {R : Value → World → Prop} {v : Value} (hr : (execOp ρ o).run P w = .ok (.value v) w') (h : R v w') : Bb P ρ o w R := by
 unfold Bb; rw [hr]; exact h

def B1 (E : Env) (S : Nat → Prop) (μ : Mu) (w : World) (hp : Hp) (x : AV) (v : Value) (w' : World) : Prop :=
 ∃ S', VR S' w' μ v x ∧ WI E S' w' μ hp ∧ (∀ b, S b → S' b) ∧ BN S w w'
theorem B1.here {E : Env} {S : Nat → Prop} {μ : Mu} {w : World} {hp : Hp} {x : AV} {v : Value} (hw : WI E S w μ hp) (h : VR S w μ v x) : B1 E S μ w hp x v w :=
 ⟨S, h, hw, fun _ h => h, BN.refl _ _⟩

def Fits (S : Nat → Prop) (w : World) (μ : Mu) (fr : Nat → AV) (ρ : Operand → Value) (xs : List Operand) : Prop :=
 ∀ x ∈ xs, ∀ ix, AG x = some ix → VR S w μ (ρ x) (ix.ev fr)

theorem Wx {S : Nat → Prop} {w : World} {μ : Mu} {v : Value} {x : AV} (h : AaN v = some x) : VR S w μ v x ∧ x.one = true := by
 unfold AaN at h
 split at h
 ·cases h; exact ⟨.bool _, rfl⟩
 ·split at h
  ·rename_i hr; cases h; exact ⟨.int _ _ hr.1 hr.2, rfl⟩
  ·cases h
 ·split at h
  ·rename_i hr; cases h; exact ⟨.str _ hr, rfl⟩
  ·cases h
 ·cases h; exact ⟨.C9, rfl⟩
 ·cases h; exact ⟨.Au, rfl⟩
 ·cases h; exact ⟨.F6, rfl⟩
 ·cases h
theorem Wv {S : Nat → Prop} {w : World} {μ : Mu} : ∀ {vs : List Value} {xs : List AV}, Zq vs = some xs → VRs S w μ vs xs ∧ ∀ x ∈ xs, x.one = true
 | [], xs, h => by cases h; exact ⟨VRs.nil, by simp⟩
 | v :: vs, xs, h => by
  unfold Zq at h
  split at h
  ·rename_i x ys h1 h2
   cases h
   have a := Wx (S := S) (w := w) (μ := μ) h1
   have b := Wv (S := S) (w := w) (μ := μ) h2
   exact ⟨VRs.cons a.1 b.1, by intro y hy; rcases List.mem_cons.1 hy with e | e; exact e ▸ a.2; exact b.2 y e⟩
  ·cases h
theorem GP {S : Nat → Prop} {w : World} {μ : Mu} {v : Value} {x : AV} (h : JQ v = some x) : VR S w μ v x ∧ x.ok = true := by
 unfold JQ at h
 split at h
 ·rename_i cs
  cases hl : Zq cs.toList with
  | none => rw [hl] at h; cases h
  | some xs =>
   rw [hl] at h
   cases h
   have a := Wv (S := S) (w := w) (μ := μ) hl
   exact ⟨.agg cs xs (by simpa using a.1.1) a.2 (fun i v x h1 h2 => a.1.2 i v x (by simpa using h1) h2), rfl⟩
 ·have a := Wx (S := S) (w := w) (μ := μ) h
  exact ⟨a.1, by simp [AV.ok, a.2]⟩
theorem AV.DQ {x : AV} : x.ok = true ↔ x.one = true ∨ x.isAgg = true := by simp [AV.ok]

section
variable {P : Program} {E : Env} {S : Nat → Prop} {w : World} {μ : Mu} {hp : Hp} {fr : Nat → AV} {ρ : Operand → Value}

theorem Fits.one {x : Operand} {ix : AF} {xs : List Operand} (h : Fits S w μ fr ρ xs) (hx : x ∈ xs) (hl : AG x = some ix) : VR S w μ (ρ x) (ix.ev fr) := h x hx ix hl
theorem Fits.args {xs : List Operand} : ∀ {l : List Operand} {is : List AF}, Fits S w μ fr ρ xs → (∀ x ∈ l, x ∈ xs) → B6 l = some is → VRs S w μ (l.map ρ) (is.map fun x => x.ev fr)
 | [], is, h, hs, hl => by cases hl; exact VRs.nil
 | x :: l, is, h, hs, hl => by
  unfold B6 at hl
  split at hl
  ·rename_i y ys h1 h2
   cases hl
   exact VRs.cons (h x (hs x (by simp)) y h1) (Fits.args h (fun z hz => hs z (by simp [hz])) h2)
  ·cases hl

def QOk (P : Program) (E : Env) (fr : Nat → AV) (hp : Hp) (o : Oper) (K : AV → Prop) : Prop :=
 ∃ x, K x ∧ ∀ S w μ ρ, WI E S w μ hp → Fits S w μ fr ρ o.op.operands.toList → (∀ v, ρ (.const v) = v) → (∀ f, ρ (.func f) = .func (.func f) #[] #[]) → Bb P ρ o w (B1 E S μ w hp x)

theorem Abb {o : Oper} {x : Operand} {ix : AF} {K : AV → Prop} (ho : o.op = .move x ∨ o.op = .assign x) (hl : AG x = some ix) (h : K (ix.ev fr)) : QOk P E fr hp o K := by
 refine ⟨_, h, fun S w μ ρ hw hf _ _ => ?_⟩
 have hv := hf.one (x := x) (by rcases ho with ho | ho <;> simp [ho, Op.operands]) hl
 exact Bb.val (v := ρ x) (w' := w) (by rcases ho with ho | ho <;> simp [execOp, ho]) (B1.here hw hv)

theorem Abv {o : Oper} {c a b : Operand} {ic ia ib : AF} {K : AV → Prop} (ho : o.op = .pick c a b) (hc : AG c = some ic) (ha : AG a = some ia) (hb : AG b = some ib)
  (h : TU (ic.ev fr) (ia.ev fr) (ib.ev fr) K) : QOk P E fr hp o K := by
 unfold TU at h
 split at h
 ·rename_i t ht
  have key : ∀ (x : AV), (t = true → x = ia.ev fr) → (t = false → x = ib.ev fr) → ∀ S w μ ρ, WI E S w μ hp → Fits S w μ fr ρ o.op.operands.toList → Bb P ρ o w (B1 E S μ w hp x) := by
   intro x h1 h2 S w μ ρ hw hf
   have hcv := hf.one (x := c) (by simp [ho, Op.operands]) hc
   have hav := hf.one (x := a) (by simp [ho, Op.operands]) ha
   have hbv := hf.one (x := b) (by simp [ho, Op.operands]) hb
   rw [ht] at hcv
   generalize hcc : ρ c = vc at hcv
   cases hcv
   refine Bb.val (v := if t then ρ a else ρ b) (w' := w) (by simp [execOp, ho, hcc, asBool]) (B1.here hw ?_)
   cases t
   ·rw [h2 rfl]; exact hbv
   ·rw [h1 rfl]; exact hav
  cases t
  ·exact ⟨_, h.2 rfl, fun S w μ ρ hw hf _ _ => key _ (by simp) (fun _ => rfl) S w μ ρ hw hf⟩
  ·exact ⟨_, h.1 rfl, fun S w μ ρ hw hf _ _ => key _ (fun _ => rfl) (by simp) S w μ ρ hw hf⟩
 ·exact h.elim

end

end Go.Proofs.YtoffpbehgncakaaGreat.Av

namespace Go.Proofs.YtoffpbehgncakaaGreat.Av
open Go.RowKit

theorem F8 (k : IntKind) (n : Int) (h : inR k n) : k.wrap n = n := by
 obtain ⟨h1, h2⟩ := h
 cases k <;> simp only [IntKind.min, IntKind.max, IntKind.signed, IntKind.bits] at h1 h2 <;> simp only [IntKind.wrap, IntKind.signed, IntKind.bits] <;> simp at h1 h2 ⊢ <;> omega
theorem Dh (k : IntKind) (n : Int) : inR k (k.wrap n) := by
 unfold inR
 cases k <;> simp only [IntKind.min, IntKind.max, IntKind.signed, IntKind.bits, IntKind.wrap] <;> simp <;> omega

def Vv (P : Program) (t : TypeId) (op : BinOp) (a b : Value) (v : Value) : Prop := ∀ w, (binOp op t a b).run P w = .ok v w

theorem ZX {P : Program} {t : TypeId} {op : BinOp} {k : IntKind} {a b : Int} {K : AV → Prop} (h : Hb op k a b K) (hs : op ≠ .shl ∧ op ≠ .shr) :
  ∃ x v, K x ∧ Vv P t op (.int k a) (.int k b) v ∧ ∀ S w μ, VR S w μ v x := by
 unfold Hb at h
 cases op <;> simp only at h <;> try exact h.elim
 case add => exact ⟨_, .int k (a + b), h.2, fun w => by simp [binOp, Op.intArith, F8 k _ h.1], fun _ _ _ => .int _ _ h.1.1 h.1.2⟩
 case sub => exact ⟨_, .int k (a - b), h.2, fun w => by simp [binOp, Op.intArith, F8 k _ h.1], fun _ _ _ => .int _ _ h.1.1 h.1.2⟩
 case mul => exact ⟨_, .int k (a * b), h.2, fun w => by simp [binOp, Op.intArith, F8 k _ h.1], fun _ _ _ => .int _ _ h.1.1 h.1.2⟩
 case quo => exact ⟨_, .int k (a.tdiv b), h.2, fun w => by simp [binOp, Op.intDiv, h.1.1, F8 k _ h.1.2], fun _ _ _ => .int _ _ h.1.2.1 h.1.2.2⟩
 case rem => exact ⟨_, .int k (a.tmod b), h.2, fun w => by simp [binOp, Op.intDiv, h.1.1], fun _ _ _ => .int _ _ h.1.2.1 h.1.2.2⟩
 case eql => exact ⟨_, .bool (decide (a = b)), h, fun w => by simp [binOp, Op.intCmp]; rfl, fun _ _ _ => .bool _⟩
 case neq => exact ⟨_, .bool (!decide (a = b)), h, fun w => by simp [binOp, Op.intCmp, bne]; rfl, fun _ _ _ => .bool _⟩
 case lss => exact ⟨_, .bool (decide (a < b)), h, fun w => by simp [binOp, Op.intCmp], fun _ _ _ => .bool _⟩
 case leq => exact ⟨_, .bool (decide (a ≤ b)), h, fun w => by simp [binOp, Op.intCmp], fun _ _ _ => .bool _⟩
 case gtr => exact ⟨_, .bool (decide (b < a)), h, fun w => by simp [binOp, Op.intCmp], fun _ _ _ => .bool _⟩
 case geq => exact ⟨_, .bool (decide (b ≤ a)), h, fun w => by simp [binOp, Op.intCmp], fun _ _ _ => .bool _⟩

theorem bytes_inj {a b : ByteArray} (h : a.toList = b.toList) : a = b := by
 rw [ByteArray.toList_eq, ByteArray.toList_eq] at h
 exact ByteArray.ext (Array.toList_inj.1 h)
theorem Aau (a b : ByteArray) : (a.toList == b.toList) = decide (a = b) := by
 by_cases h : a = b
 ·subst h; simp
 ·rw [beq_eq_false_iff_ne.2 fun e => h (bytes_inj e)]; simp [h]

theorem ZV {P : Program} {t : TypeId} {op : BinOp} {a b : ByteArray} {K : AV → Prop} (h : TR op a b K) :
  ∃ x v, K x ∧ Vv P t op (.string a) (.string b) v ∧ ∀ S w μ, VR S w μ v x := by
 unfold TR at h
 cases op <;> simp only at h <;> try exact h.elim
 case add =>
  refine ⟨_, .string (a ++ b), h.2, fun w => ?_, fun _ _ _ => .str _ (by simpa using h.1)⟩
  have : ¬ (IntKind.i64.max < ((a.size + b.size : Nat) : Int)) := by
   have := h.1; unfold maxLen at this; show ¬ ((9223372036854775807 : Int) < _); omega
  simp only [binOp, Op.stringOp, gt_iff_lt, if_neg this]
  rfl
 case eql => exact ⟨_, .bool (decide (a = b)), h, fun w => by simp [binOp, Op.stringOp, Aau], fun _ _ _ => .bool _⟩
 case neq => exact ⟨_, .bool (!decide (a = b)), h, fun w => by simp [binOp, Op.stringOp, Aau], fun _ _ _ => .bool _⟩
 case lss => exact ⟨_, .bool (Op.bytesLess a.toList b.toList), h, fun w => by simp [binOp, Op.stringOp], fun _ _ _ => .bool _⟩

theorem Yq {P : Program} {t : TypeId} {op : BinOp} {x : Bool} {K : AV → Prop} {va vb : Value} (h : De op x K)
  (he : ∀ w, (binOp .eql t va vb).run P w = .ok (.bool x) w) (hn : ∀ w, (binOp .neq t va vb).run P w = .ok (.bool (!x)) w) :
  ∃ x v, K x ∧ Vv P t op va vb v ∧ ∀ S w μ, VR S w μ v x := by
 unfold De at h
 cases op <;> simp only at h <;> try exact h.elim
 case eql => exact ⟨_, .bool x, h, he, fun _ _ _ => .bool _⟩
 case neq => exact ⟨_, .bool (!x), h, hn, fun _ _ _ => .bool _⟩

theorem Ta {P : Program} {t : TypeId} (h : E2 P t = .bool) : P.underlying t = some .bool := by
 unfold E2 at h
 split at h
 ·assumption
 ·cases h
 ·cases h
 ·split at h
  ·split at h <;> cases h
  ·cases h
 ·cases h
theorem U9 {P : Program} {t : TypeId} (h : E2 P t = .ptr) : ∃ e, P.underlying t = some (.pointer e) := by
 unfold E2 at h
 split at h
 ·cases h
 ·exact ⟨_, by assumption⟩
 ·cases h
 ·split at h
  ·split at h <;> cases h
  ·cases h
 ·cases h
theorem KI {P : Program} {t : TypeId} (h : E2 P t = .slice) : ∃ e, P.underlying t = some (.slice e) := by
 unfold E2 at h
 split at h
 ·cases h
 ·cases h
 ·exact ⟨_, by assumption⟩
 ·split at h
  ·split at h <;> cases h
  ·cases h
 ·cases h
theorem S9 {P : Program} {t : TypeId} {ks : List Nat} (h : E2 P t = .flat ks) : ∃ fs, P.underlying t = some (.struct fs) ∧ P.stoodInHeld t = false ∧ Gw P fs.toList 0 = some ks := by
 unfold E2 at h
 split at h
 ·cases h
 ·cases h
 ·cases h
 ·rename_i fs hu
  split at h
  ·rename_i hs
   split at h
   ·rename_i ks' hk; cases h; exact ⟨fs, hu, hs, hk⟩
   ·cases h
  ·cases h
 ·cases h
theorem PE {P : Program} {S : Nat → Prop} {w0 : World} {μ : Mu} {cs ds : Array Value} (w : World) : ∀ {fs : List Field} {i : Nat} {ks : List Nat} {xs ys : List AV} {r : Bool}, Gw P fs i = some ks → DC ks xs ys = some r →
  (∀ (j : Nat) (x : AV), xs[j]? = some x → ∃ v, cs[i + j]? = some v ∧ VR S w0 μ v x) → (∀ (j : Nat) (y : AV), ys[j]? = some y → ∃ v, ds[i + j]? = some v ∧ VR S w0 μ v y) → (Op.eqFields 9999 cs ds fs).run P w = .ok r w
 | [], i, ks, xs, ys, r, hk, hr, _, _ => by
  obtain rfl : ks = [] := by simpa [Gw] using hk.symm
  have : r = true := by
   unfold DC at hr
   split at hr <;> first | (cases hr; rfl) | (simp at *; done)
  subst this
  simp [Op.eqFields]
 | f :: fs, i, ks, xs, ys, r, hk, hr, hx, hy => by
  unfold Gw at hk
  split at hk
  ·rename_i k ks' h1 h2
   split at hk
   ·rename_i h3
    obtain ⟨h3, h4⟩ := h3
    obtain rfl : ks = k :: ks' := by simpa using hk.symm
    have step : ∀ (x y : AV) (xs' ys' : List AV) (b : Bool) (r' : Bool), xs = x :: xs' → ys = y :: ys' → DC ks' xs' ys' = some r' → r = (b && r') →
      (∀ v u, VR S w0 μ v x → VR S w0 μ u y → v.oneCell' = true ∧ u.oneCell' = true ∧ (Op.equalIn 9999 f.type v u).run P w = .ok b w) → (Op.eqFields 9999 cs ds (f :: fs)).run P w = .ok r w := by
     intro x y xs' ys' b r' e1 e2 hf hb heq
     subst e1 e2
     obtain ⟨v, hv, hvr⟩ := hx 0 x rfl
     obtain ⟨u, hu, hur⟩ := hy 0 y rfl
     obtain ⟨_, _, he⟩ := heq v u hvr hur
     rw [Nat.add_zero] at hv hu
     have hagg : ∀ w, (isAgg f.type).run P w = .ok false w := fun w => by
      unfold QR at h1
      split at h1
      ·rename_i hu; simp [isAgg, run_underlying hu]
      ·rename_i hu; simp [isAgg, run_underlying hu]
      ·rename_i hu; simp [isAgg, run_underlying hu]
      ·cases h1
     have p1 : (part f.type cs f.offset).run P w = .ok v w := by simp [part, hagg, h3, hv]
     have p2 : (part f.type ds f.offset).run P w = .ok u w := by simp [part, hagg, h3, hu]
     have ih := PE (cs := cs) (ds := ds) (S := S) (w0 := w0) (μ := μ) w h2 hf (fun j z hj => by
      obtain ⟨v', a1, a2⟩ := hx (j + 1) z (by simpa using hj)
      exact ⟨v', by rw [← a1]; congr 1; omega, a2⟩) (fun j z hj => by
      obtain ⟨v', a1, a2⟩ := hy (j + 1) z (by simpa using hj)
      exact ⟨v', by rw [← a1]; congr 1; omega, a2⟩)
     simp only [Op.eqFields, ne_eq, h4, not_false_eq_true, if_true, Sem.run_bind, p1, p2, he, Result.andThen_ok]
     cases b
     ·simp [hb]
     ·simp [hb, ih]
    unfold QR at h1
    unfold DC at hr
    split at hr
    ·rename_i h; cases h
    ·rename_i k' a xs' k'' b ys' e
     cases e
     split at hr
     ·rename_i hkk
      subst hkk
      obtain ⟨r', hf, hb⟩ := Option.map_eq_some_iff.1 hr
      refine step _ _ xs' ys' (decide (a = b)) r' rfl rfl hf hb.symm fun v u hv hu => ?_
      cases hv; cases hu
      refine ⟨rfl, rfl, ?_⟩
      split at h1
      ·cases h1
      ·rename_i kk hu
       rw [run_equalIn_int w 9998 f.type k' kk a b hu]
       congr 1
      ·cases h1
      ·cases h1
     ·cases hr
    ·rename_i a xs' b ys' e
     cases e
     obtain ⟨r', hf, hb⟩ := Option.map_eq_some_iff.1 hr
     refine step _ _ xs' ys' (decide (a = b)) r' rfl rfl hf hb.symm fun v u hv hu => ?_
     cases hv; cases hu
     refine ⟨rfl, rfl, ?_⟩
     split at h1
     ·rename_i hu
      rw [run_equalIn_bool' w 9998 f.type a b hu]
      congr 1
     ·cases h1
     ·cases h1
     ·cases h1
    ·rename_i a xs' b ys' e
     cases e
     obtain ⟨r', hf, hb⟩ := Option.map_eq_some_iff.1 hr
     refine step _ _ xs' ys' (decide (a = b)) r' rfl rfl hf hb.symm fun v u hv hu => ?_
     cases hv; cases hu
     refine ⟨rfl, rfl, ?_⟩
     split at h1
     ·cases h1
     ·cases h1
     ·rename_i hu
      rw [run_equalIn_string w 9998 f.type a b hu, Aau]
     ·cases h1
    ·cases hr
   ·cases hk
  ·cases hk
theorem LM {P : Program} : ∀ {fs : List Field} {i : Nat} {ks : List Nat}, Gw P fs i = some ks → ∀ f ∈ fs, ∀ d, P.eqGuardType (d + 1) f.type = false
 | [], _, _, _, f, hf => by cases hf
 | g :: r, i, ks, h, f, hf => by
  unfold Gw at h
  split at h
  ·rename_i k ks' h1 h2
   rcases List.mem_cons.1 hf with rfl | hf
   ·intro d
    unfold QR at h1
    rw [Program.eqGuardType]
    split at h1 <;> first | (cases h1; done) | (rename_i hu; rw [hu])
   ·exact LM h2 f hf
  ·cases h
theorem U7 {P : Program} {t : TypeId} {fs : Array Field} (ht : P.underlying t = some (.struct fs)) {ks : List Nat} (h : Gw P fs.toList 0 = some ks) : P.eqGuardType P.depth t = false := by
 obtain ⟨d, hd⟩ : ∃ d, P.depth = d + 1 + 1 := ⟨2 * (P.types.size + Made.depth), rfl⟩
 rw [hd, Program.eqGuardType, ht]
 simp only
 rw [Array.any_eq_false']
 intro f hf
 rw [LM h f (Array.mem_def.1 hf) d, Bool.and_false]
 simp

theorem E1 {P : Program} {t : TypeId} {va vb : Value} {x : Bool} (h : ∀ w, (Op.equalIn Op.maxDepth t va vb).run P w = .ok x w) (h1 : ∀ op, binOp op t va vb = match op with | .eql => (do pure (.bool (← Op.equal t va vb))) | .neq => (do pure (.bool (!(← Op.equal t va vb)))) | _ => binOp op t va vb) :
  (∀ w, (binOp .eql t va vb).run P w = .ok (.bool x) w) ∧ (∀ w, (binOp .neq t va vb).run P w = .ok (.bool (!x)) w) := by
 refine ⟨fun w => ?_, fun w => ?_⟩ <;> rw [h1] <;> simp [Op.equal, h]

theorem AaT {P : Program} {t : TypeId} (ht : P.underlying t = some .bool) (a b : Bool) : ∀ w, (Op.equalIn Op.maxDepth t (.bool a) (.bool b)).run P w = .ok (a == b) w := fun w => by
 show (Op.equalIn (9999 + 1) _ _ _).run P w = _; rw [Op.equalIn]; simp [run_underlying ht]
theorem ZI {P : Program} {t e : TypeId} (ht : P.underlying t = some (.pointer e)) (a b : Option Addr) (h : a = none ∨ b = none) : ∀ w, (Op.equalIn Op.maxDepth t (.pointer a) (.pointer b)).run P w = .ok (a.isNone && b.isNone) w := fun w => by
 rcases h with h | h <;> subst h
 ·show (Op.equalIn (9999 + 1) _ _ _).run P w = _; rw [Op.equalIn]; simp [run_underlying ht]
 ·show (Op.equalIn (9999 + 1) _ _ _).run P w = _; rw [Op.equalIn]; cases a <;> simp [run_underlying ht]
theorem Nw {P : Program} {t e : TypeId} (ht : P.underlying t = some (.slice e)) (a b : Option Addr) (n c m d : Nat) (h : a = none ∨ b = none) : ∀ w, (Op.equalIn Op.maxDepth t (.slice a n c) (.slice b m d)).run P w = .ok (a.isNone && b.isNone) w := fun w => by
 rcases h with h | h <;> subst h
 ·show (Op.equalIn (9999 + 1) _ _ _).run P w = _; rw [Op.equalIn]; simp [run_underlying ht]
 ·show (Op.equalIn (9999 + 1) _ _ _).run P w = _; rw [Op.equalIn]; cases a <;> simp [run_underlying ht]

theorem ZW {P : Program} {t e : TypeId} {op : BinOp} {x : Bool} {K : AV → Prop} (ht : P.underlying t = some (.pointer e)) (h : De op x K) :
  ∃ z, K z ∧ ∀ (a b : Option Addr), (a = none ∨ b = none) → (a.isNone && b.isNone) = x → ∃ v, Vv P t op (.pointer a) (.pointer b) v ∧ ∀ S w μ, VR S w μ v z := by
 unfold De at h
 cases op <;> simp only at h <;> try exact h.elim
 case eql => exact ⟨_, h, fun a b h1 h2 => ⟨.bool _, (E1 (ZI ht a b h1) (fun op => by cases op <;> rfl)).1, fun _ _ _ => by rw [h2]; exact .bool _⟩⟩
 case neq => exact ⟨_, h, fun a b h1 h2 => ⟨.bool _, (E1 (ZI ht a b h1) (fun op => by cases op <;> rfl)).2, fun _ _ _ => by rw [h2]; exact .bool _⟩⟩
theorem Vh {P : Program} {t e : TypeId} {op : BinOp} {x : Bool} {K : AV → Prop} (ht : P.underlying t = some (.slice e)) (h : De op x K) :
  ∃ z, K z ∧ ∀ (a b : Option Addr) (n c m d : Nat), (a = none ∨ b = none) → (a.isNone && b.isNone) = x → ∃ v, Vv P t op (.slice a n c) (.slice b m d) v ∧ ∀ S w μ, VR S w μ v z := by
 unfold De at h
 cases op <;> simp only at h <;> try exact h.elim
 case eql => exact ⟨_, h, fun a b n c m d h1 h2 => ⟨.bool _, (E1 (Nw ht a b n c m d h1) (fun op => by cases op <;> rfl)).1, fun _ _ _ => by rw [h2]; exact .bool _⟩⟩
 case neq => exact ⟨_, h, fun a b n c m d h1 h2 => ⟨.bool _, (E1 (Nw ht a b n c m d h1) (fun op => by cases op <;> rfl)).2, fun _ _ _ => by rw [h2]; exact .bool _⟩⟩

section
variable {P : Program} {E : Env} {hp : Hp} {fr : Nat → AV}

theorem Eh {o : Oper} {op : BinOp} {t ty : TypeId} {x y : Operand} {K : AV → Prop} (ho : o.op = .binOp op t x y ty)
  (h : ∃ z, K z ∧ ∀ S w μ (ρ : Operand → Value), WI E S w μ hp → Fits S w μ fr ρ [x, y] → ∃ v, Vv P t op (ρ x) (ρ y) v ∧ VR S w μ v z)
  (hg : ∀ S w μ (ρ : Operand → Value), WI E S w μ hp → Fits S w μ fr ρ [x, y] → ∀ w, (eqGuard op t x y (ρ x) (ρ y)).run P w = .ok () w) : QOk P E fr hp o K := by
 obtain ⟨z, hz, h⟩ := h
 refine ⟨z, hz, fun S w μ ρ hw hf _ _ => ?_⟩
 have hf' : Fits S w μ fr ρ [x, y] := fun u hu => hf u (by simp [ho, Op.operands] at *; exact hu)
 obtain ⟨v, hb, hv⟩ := h S w μ ρ hw hf'
 refine Bb.val (v := v) (w' := w) ?_ (B1.here hw hv)
 have hg' := hg S w μ ρ hw hf' w
 simp [execOp, ho, hg', hb w]

def Qz : Value → Bool
 | .nilIface | .agg _ => false
 | _ => true
theorem Dv {op : BinOp} {t : TypeId} {x y : Operand} {a b : Value} (h : Qz a = true ∨ Qz b = true) (w : World) : (eqGuard op t x y a b).run P w = .ok () w := by
 unfold eqGuard
 cases op <;> cases a <;> cases b <;> first | rfl | (simp [Qz] at h)

theorem Ab4 {o : Oper} {op : BinOp} {t ty : TypeId} {x y : Operand} {ix iy : AF} {K : AV → Prop} (ho : o.op = .binOp op t x y ty) (hx : AG x = some ix) (hy : AG y = some iy)
  (hs : op ≠ .shl ∧ op ≠ .shr) (h : FE op (E2 P t) (ix.ev fr) (iy.ev fr) K) : QOk P E fr hp o K := by
 have inv : ∀ {S w μ} {ρ : Operand → Value}, Fits S w μ fr ρ [x, y] → VR S w μ (ρ x) (ix.ev fr) ∧ VR S w μ (ρ y) (iy.ev fr) := fun hf => ⟨hf.one (by simp) hx, hf.one (by simp) hy⟩
 unfold FE at h
 split at h
 ·rename_i k a k' b e1 e2
  obtain ⟨rfl, h⟩ := h
  obtain ⟨z, v, hz, hb, hv⟩ := ZX (P := P) (t := t) h hs
  refine Eh ho ⟨z, hz, fun S w μ ρ hw hf => ?_⟩ (fun S w μ ρ hw hf => ?_)
  ·obtain ⟨h1, h2⟩ := inv hf
   rw [e1] at h1; rw [e2] at h2
   generalize ρ x = vx at h1 ⊢; generalize ρ y = vy at h2 ⊢
   cases h1; cases h2
   exact ⟨v, hb, hv _ _ _⟩
  ·obtain ⟨h1, h2⟩ := inv hf
   rw [e1] at h1
   generalize ρ x = vx at h1 ⊢
   cases h1
   exact Dv (.inl rfl)
 ·rename_i a b e1 e2
  obtain ⟨z, v, hz, hb, hv⟩ := ZV (P := P) (t := t) h
  refine Eh ho ⟨z, hz, fun S w μ ρ hw hf => ?_⟩ (fun S w μ ρ hw hf => ?_)
  ·obtain ⟨h1, h2⟩ := inv hf
   rw [e1] at h1; rw [e2] at h2
   generalize ρ x = vx at h1 ⊢; generalize ρ y = vy at h2 ⊢
   cases h1; cases h2
   exact ⟨v, hb, hv _ _ _⟩
  ·obtain ⟨h1, h2⟩ := inv hf
   rw [e1] at h1
   generalize ρ x = vx at h1 ⊢
   cases h1
   exact Dv (.inl rfl)
 ·rename_i a b e1 e2
  obtain ⟨hk, h⟩ := h
  obtain ⟨he, hn⟩ := E1 (AaT (Ta hk) a b) (fun op => by cases op <;> rfl)
  obtain ⟨z, v, hz, hb, hv⟩ := Yq (P := P) (t := t) h he hn
  refine Eh ho ⟨z, hz, fun S w μ ρ hw hf => ?_⟩ (fun S w μ ρ hw hf => ?_)
  ·obtain ⟨h1, h2⟩ := inv hf
   rw [e1] at h1; rw [e2] at h2
   generalize ρ x = vx at h1 ⊢; generalize ρ y = vy at h2 ⊢
   cases h1; cases h2
   exact ⟨v, hb, hv _ _ _⟩
  ·obtain ⟨h1, h2⟩ := inv hf
   rw [e1] at h1
   generalize ρ x = vx at h1 ⊢
   cases h1
   exact Dv (.inl rfl)
 iterate 5
  ·rename_i e1 e2
   obtain ⟨hk, h⟩ := h
   obtain ⟨e, ht⟩ := U9 hk
   obtain ⟨z, hz, hb⟩ := ZW ht h
   refine Eh ho ⟨z, hz, fun S w μ ρ hw hf => ?_⟩ (fun S w μ ρ hw hf => ?_)
   ·obtain ⟨h1, h2⟩ := inv hf
    rw [e1] at h1; rw [e2] at h2
    generalize ρ x = vx at h1 ⊢; generalize ρ y = vy at h2 ⊢
    cases h1 <;> cases h2 <;> (refine (hb _ _ ?_ ?_).imp (fun v h => ⟨h.1, h.2 _ _ _⟩) <;> first | rfl | simp)
   ·obtain ⟨h1, h2⟩ := inv hf
    rw [e1] at h1
    generalize ρ x = vx at h1 ⊢
    cases h1
    exact Dv (.inl rfl)
 iterate 3
  ·rename_i e1 e2
   have hk := h.1
   have h := h.2
   have hk' : E2 P t = .slice := by first | exact hk | exact hk.1
   obtain ⟨e, ht⟩ := KI hk'
   obtain ⟨z, hz, hb⟩ := Vh ht h
   refine Eh ho ⟨z, hz, fun S w μ ρ hw hf => ?_⟩ (fun S w μ ρ hw hf => ?_)
   ·obtain ⟨h1, h2⟩ := inv hf
    rw [e1] at h1; rw [e2] at h2
    generalize ρ x = vx at h1 ⊢; generalize ρ y = vy at h2 ⊢
    cases h1 <;> cases h2 <;> first | (exact absurd rfl hk.2) | (refine (hb _ _ _ _ _ _ ?_ ?_).imp (fun v h => ⟨h.1, h.2 _ _ _⟩) <;> first | rfl | simp)
   ·obtain ⟨h1, h2⟩ := inv hf
    rw [e1] at h1
    generalize ρ x = vx at h1 ⊢
    cases h1 <;> exact Dv (.inl rfl)
 ·rename_i xs ys e1 e2
  unfold Z6 at h
  split at h
  ·rename_i ks hk
   obtain ⟨fs, ht, hst, hks⟩ := S9 hk
   unfold Q3 at h
   split at h
   ·rename_i r hr
    have hag : ∀ {S w μ v} {zs : List AV}, VR S w μ v (.agg zs) → ∃ cs : Array Value, v = .agg cs ∧ ∀ (j : Nat) (x : AV), zs[j]? = some x → ∃ u, cs[0 + j]? = some u ∧ VR S w μ u x := fun h => by
     cases h with
     | agg cs _ hl h1 hh =>
      refine ⟨cs, rfl, fun j x hj => ?_⟩
      have hlt := (List.getElem?_eq_some_iff.1 hj).1
      exact ⟨cs[j]'(by omega), by simp [show j < cs.size by omega], hh j _ x (by simp [show j < cs.size by omega]) hj⟩
    have hfo : P.fieldsOf t = fs := by simp [Program.fieldsOf, ht]
    have ht' : P.underlying t = some (.struct (P.fieldsOf t)) := by rw [hfo]; exact ht
    have hks' : Gw P (P.fieldsOf t).toList 0 = some ks := by rw [hfo]; exact hks
    have hg : ∀ S w μ (ρ : Operand → Value), WI E S w μ hp → Fits S w μ fr ρ [x, y] → ∀ w, (eqGuard op t x y (ρ x) (ρ y)).run P w = .ok () w := fun S w μ ρ hw hf w' => by
     obtain ⟨h1, h2⟩ := inv hf
     rw [e1] at h1; rw [e2] at h2
     obtain ⟨cs, hcs, _⟩ := hag h1
     obtain ⟨ds, hds, _⟩ := hag h2
     rw [hcs, hds]
     exact run_eqGuard_agg w' op t x y cs ds (U7 ht hks)
    have hrun : ∀ S w μ (ρ : Operand → Value), Fits S w μ fr ρ [x, y] → ∃ cs ds : Array Value, ρ x = .agg cs ∧ ρ y = .agg ds ∧ ∀ w, (Op.equalIn 10000 t (.agg cs) (.agg ds)).run P w = .ok r w := fun S w μ ρ hf => by
     obtain ⟨h1, h2⟩ := inv hf
     rw [e1] at h1; rw [e2] at h2
     obtain ⟨cs, hcs, hc⟩ := hag h1
     obtain ⟨ds, hds, hd⟩ := hag h2
     refine ⟨cs, ds, hcs, hds, fun w => ?_⟩
     rw [run_equalIn_agg w 9999 t cs ds ht' hst]
     exact PE w hks' hr hc hd
    cases op <;> simp only [De] at h <;> try exact h.elim
    case eql =>
     refine Eh ho ⟨.bool r, h, fun S w μ ρ hw hf => ?_⟩ hg
     obtain ⟨cs, ds, hcs, hds, hr'⟩ := hrun S w μ ρ hf
     rw [hcs, hds]
     exact ⟨.bool r, fun w => by rw [run_eql_struct, hr']; rfl, .bool _⟩
    case neq =>
     refine Eh ho ⟨.bool (!r), h, fun S w μ ρ hw hf => ?_⟩ hg
     obtain ⟨cs, ds, hcs, hds, hr'⟩ := hrun S w μ ρ hf
     rw [hcs, hds]
     exact ⟨.bool (!r), fun w => by rw [run_neq_struct, hr']; rfl, .bool _⟩
   ·exact h.elim
  ·exact h.elim
 ·exact h.elim

theorem AbB {o : Oper} {op : BinOp} {t ty : TypeId} {x y : Operand} {ix iy : AF} {K : AV → Prop} (ho : o.op = .binOp op t x y ty) (hx : AG x = some ix) (hy : AG y = some iy)
  (h : EO op (ix.ev fr) (iy.ev fr) K) : QOk P E fr hp o K := by
 have inv : ∀ {S w μ} {ρ : Operand → Value}, Fits S w μ fr ρ [x, y] → VR S w μ (ρ x) (ix.ev fr) ∧ VR S w μ (ρ y) (iy.ev fr) := fun hf => ⟨hf.one (by simp) hx, hf.one (by simp) hy⟩
 unfold EO at h
 split at h
 ·rename_i k a k' b e1 e2
  obtain ⟨hkk, h⟩ := h
  have hz : ∃ z v, K z ∧ Vv P t op (.int k a) (.int k' b) v ∧ ∀ S w μ, VR S w μ v z := by
   cases op <;> simp only at h <;> try exact h.elim
   case add =>
    obtain rfl : k = k' := by simpa using hkk
    exact ⟨_, .int k _, h, fun w => by simp [binOp, Op.intArith], fun _ _ _ => .int _ _ (Dh _ _).1 (Dh _ _).2⟩
   case sub =>
    obtain rfl : k = k' := by simpa using hkk
    exact ⟨_, .int k _, h, fun w => by simp [binOp, Op.intArith], fun _ _ _ => .int _ _ (Dh _ _).1 (Dh _ _).2⟩
   case mul =>
    obtain rfl : k = k' := by simpa using hkk
    exact ⟨_, .int k _, h, fun w => by simp [binOp, Op.intArith], fun _ _ _ => .int _ _ (Dh _ _).1 (Dh _ _).2⟩
   case and =>
    obtain rfl : k = k' := by simpa using hkk
    exact ⟨_, .int k _, h, fun w => by simp only [binOp, Op.intBits, ne_eq, not_true_eq_false, if_false]; rfl, fun _ _ _ => .int _ _ (Dh _ _).1 (Dh _ _).2⟩
   case or =>
    obtain rfl : k = k' := by simpa using hkk
    exact ⟨_, .int k _, h, fun w => by simp only [binOp, Op.intBits, ne_eq, not_true_eq_false, if_false]; rfl, fun _ _ _ => .int _ _ (Dh _ _).1 (Dh _ _).2⟩
   case xor =>
    obtain rfl : k = k' := by simpa using hkk
    exact ⟨_, .int k _, h, fun w => by simp only [binOp, Op.intBits, ne_eq, not_true_eq_false, if_false]; rfl, fun _ _ _ => .int _ _ (Dh _ _).1 (Dh _ _).2⟩
   case shl => exact ⟨_, .int k _, h.2, fun w => by simp only [binOp, Op.shift, if_neg (Int.not_lt.2 h.1)]; rfl, fun _ _ _ => .int _ _ (Dh _ _).1 (Dh _ _).2⟩
   case shr => exact ⟨_, .int k _, h.2, fun w => by simp only [binOp, Op.shift, if_neg (Int.not_lt.2 h.1.1)]; rfl, fun _ _ _ => .int _ _ h.1.2.1 h.1.2.2⟩
  obtain ⟨z, v, hz, hb, hv⟩ := hz
  refine Eh ho ⟨z, hz, fun S w μ ρ hw hf => ?_⟩ (fun S w μ ρ hw hf => ?_)
  ·obtain ⟨h1, h2⟩ := inv hf
   rw [e1] at h1; rw [e2] at h2
   generalize ρ x = vx at h1 ⊢; generalize ρ y = vy at h2 ⊢
   cases h1; cases h2
   exact ⟨v, hb, hv _ _ _⟩
  ·obtain ⟨h1, h2⟩ := inv hf
   rw [e1] at h1
   generalize ρ x = vx at h1 ⊢
   cases h1
   exact Dv (.inl rfl)
 ·exact h.elim

theorem AcA {o : Oper} {op : UnOp} {t : TypeId} {x : Operand} {ix : AF} {K : AV → Prop} (ho : o.op = .unOp op t x) (hx : AG x = some ix) (h : aUn op (ix.ev fr) K) : QOk P E fr hp o K := by
 have hf' : ∀ {S w μ} {ρ : Operand → Value}, Fits S w μ fr ρ o.op.operands.toList → VR S w μ (ρ x) (ix.ev fr) := fun hf => hf.one (by simp [ho, Op.operands]) hx
 unfold aUn at h
 split at h
 ·rename_i b e1
  cases op <;> simp only at h <;> try exact h.elim
  refine ⟨_, h, fun S w μ ρ hw hf _ _ => ?_⟩
  have h1 := hf' hf
  rw [e1] at h1
  generalize hv : ρ x = vx at h1
  cases h1
  exact Bb.val (v := .bool (!b)) (w' := w) (by simp [execOp, ho, hv, Op.unary]) (B1.here hw (.bool _))
 ·rename_i k n e1
  cases op <;> simp only at h <;> try exact h.elim
  refine ⟨_, h.2, fun S w μ ρ hw hf _ _ => ?_⟩
  have h1 := hf' hf
  rw [e1] at h1
  generalize hv : ρ x = vx at h1
  cases h1
  exact Bb.val (v := .int k (-n)) (w' := w) (by simp [execOp, ho, hv, Op.unary, Op.intArith, F8 k _ h.1]) (B1.here hw (.int _ _ h.1.1 h.1.2))
 ·exact h.elim

theorem Aby {o : Oper} {s d : TypeId} {x : Operand} {ix : AF} {sk k : IntKind} {K : AV → Prop} (ho : o.op = .convert s d x) (hs : P.underlying s = some (.int sk)) (hd : P.underlying d = some (.int k)) (hx : AG x = some ix)
  (h : TZ k (ix.ev fr) K) : QOk P E fr hp o K := by
 unfold TZ at h
 split at h
 ·rename_i k0 n e1
  refine ⟨_, h.2, fun S w μ ρ hw hf _ _ => ?_⟩
  have h1 := hf.one (x := x) (by simp [ho, Op.operands]) hx
  rw [e1] at h1
  generalize hv : ρ x = vx at h1
  cases h1
  exact Bb.val (v := .int k n) (w' := w) (by simp [execOp, ho, hv, convert, run_underlying hs, run_underlying hd, Conv.intToInt, F8 k _ h.1]) (B1.here hw (.int _ _ h.1.1 h.1.2))
 ·exact h.elim

theorem XL {o : Oper} {i : Nat} {x : Operand} {ix : AF} {K : AV → Prop} (ho : o.op = .extract x i) (hx : AG x = some ix) (h : F1 i (ix.ev fr) K) : QOk P E fr hp o K := by
 unfold F1 at h
 split at h
 ·rename_i xs e1
  refine ⟨_, h.2, fun S w μ ρ hw hf _ _ => ?_⟩
  have h1 := hf.one (x := x) (by simp [ho, Op.operands]) hx
  rw [e1] at h1
  generalize hv : ρ x = vx at h1
  cases h1 with
  | tup cs _ hl hh =>
   have hi : i < cs.size := by rw [hl]; exact h.1
   refine Bb.val (v := cs[i]) (w' := w) (by simp [execOp, ho, hv, Instr.extract, hi]) (B1.here hw ?_)
   exact hh i _ _ (by simp [hi]) (by simp [List.getD_eq_getElem?_getD, h.1])
 ·exact h.elim

theorem Ab1 {o : Oper} {mx : Bool} {is : List AF} {c : Call} {K : AV → Prop} (ho : o.op = .call c) (hc : c.callee = .builtin (if mx then .max else .min)) (hx : B6 c.args.toList = some is)
  (h : aMm mx (is.map fun x => x.ev fr) K) : QOk P E fr hp o K := by
 unfold aMm at h
 split at h
 ·rename_i k a k' b e1
  obtain ⟨rfl, h⟩ := h
  refine ⟨_, h, fun S w μ ρ hw hf _ _ => ?_⟩
  have h1 := hf.args (l := c.args.toList) (is := is) (fun x hx => by cases mx <;> simp [ho, Op.operands, Call.operands, hc] <;> exact Array.mem_def.2 hx) hx
  rw [e1] at h1
  obtain ⟨hl, hh⟩ := h1
  obtain ⟨callee, args, argTypes⟩ := c
  simp only at hc hl hh ho
  subst hc
  obtain ⟨l⟩ := args
  match l, hl, hh with
  | [x, y], _, hh =>
   have ha := hh 0 (ρ x) (.int k a) rfl rfl
   have hb := hh 1 (ρ y) (.int k b) rfl rfl
   generalize hv : ρ x = vx at ha
   generalize hv' : ρ y = vy at hb
   cases ha with | int _ _ a1 a2 =>
   cases hb with | int _ _ b1 b2 =>
   cases mx
   ·refine Bb.val (v := .int k (min a b)) (w' := w) ?_ (B1.here hw (by simp only [Bool.false_eq_true, if_false]; exact .int _ _ (by omega) (by omega)))
    simp [execOp, ho, resolve, invoke, builtin, Builtin.min_, Builtin.min2, hv, hv']
    omega
   ·refine Bb.val (v := .int k (max a b)) (w' := w) ?_ (B1.here hw (by simp only [if_true]; exact .int _ _ (by omega) (by omega)))
    simp [execOp, ho, resolve, invoke, builtin, Builtin.max_, Builtin.max2, hv, hv']
    omega
 ·exact h.elim
end

end Go.Proofs.YtoffpbehgncakaaGreat.Av
