/-
  ABSTRACT STATES AND OPERATIONS: a frame of abstract values and the own rows; what an operation asks and yields. Conditions: none; definitions.
-/
import Derived.Test.YtlpapmofmdgllaaAv
set_option linter.unusedVariables false
namespace Go.Proofs.Ytlpapmofmdgllaa.Av
open Go.RowKit

/-- a string, by its bytes -/
def bs (l : List Nat) : ByteArray := ⟨(l.map UInt8.ofNat).toArray⟩

/-- an own row: its version, whether it may no more be written, its element type, the cells of an element, its elements -/
structure Box where
  ver : Nat
  frz : Bool
  ty : TypeId
  esz : Nat
  es : List AV
abbrev Hp := List (Nat × Box)
def hget : Hp → Nat → Option Box
  | [], _ => none
  | (k, b) :: r, j => if k = j then some b else hget r j
def fget : List (Nat × AV) → Nat → AV
  | [], _ => .top
  | (i, x) :: r, j => if i = j then x else fget r j

inductive IArg where
  | t (i : Nat)
  | c (x : AV)
  deriving Inhabited
def IArg.ev (fr : Nat → AV) : IArg → AV
  | .t i => fr i
  | .c x => x

/-- what operands of an equality are -/
inductive EqK where
  | other | bool | ptr | slice
  | flat (ks : List Nat)
  deriving DecidableEq, Inhabited

inductive IOp where
  | mov (x : IArg)
  | pick (c a b : IArg)
  | bin (op : BinOp) (kd : EqK) (x y : IArg)
  | binw (op : BinOp) (x y : IArg)
  | un (op : UnOp) (x : IArg)
  | boxP (x : IArg)
  | boxO (k : Nat) (ty : TypeId) (n : Nat) (x : IArg)
  | build (zero : List AV) (parts : List (Nat × Nat × IArg))
  | slP (len : Nat) (zero : AV) (parts : List (Nat × IArg))
  | slO (k : Nat) (ty : TypeId) (len : Nat) (zero : AV) (parts : List (Nat × IArg))
  | load (agg : Bool) (n : Nat) (a : IArg)
  | store (n : Nat) (a x : IArg)
  | faddr (off : Nat) (x : IArg)
  | fld (agg : Bool) (off n : Nat) (x : IArg)
  | iaddr (esz : Nat) (x i : IArg)
  | sidx (x i : IArg)
  | slice (esz : Nat) (x : IArg) (lo hi : Option IArg)
  | len (str : Bool) (x : IArg)
  | append (k : Nat) (ty : TypeId) (esz bytes : Nat) (s x : IArg)
  | mkSlice (k : Nat) (ty : TypeId) (bytes : Nat) (zero : AV) (len : IArg)
  | conv (dst : IntKind) (x : IArg)
  | b2s (x : IArg)
  | extract (i : Nat) (x : IArg)
  | call (f : FuncId) (args : List IArg)
  | callv (f : IArg) (args : List IArg)
  | callH (f : FuncId) (args : List IArg)
  | callvH (f : IArg) (args : List IArg)
  | mkfn (f : FuncId) (caps : List IArg)
  | nilchk (x : IArg)
  | mm (max : Bool) (xs : List IArg)
  | bad
  deriving Inhabited

structure IOper where
  dst : Option Nat
  guard : Option (Nat × Bool)
  op : IOp
  deriving Inhabited

def inR (k : IntKind) (n : Int) : Prop := k.min ≤ n ∧ n ≤ k.max

def aInt (op : BinOp) (k : IntKind) (a b : Int) (K : AV → Prop) : Prop :=
  match op with
  | .add => inR k (a + b) ∧ K (.int k (a + b))
  | .sub => inR k (a - b) ∧ K (.int k (a - b))
  | .mul => inR k (a * b) ∧ K (.int k (a * b))
  | .quo => (b ≠ 0 ∧ inR k (a.tdiv b)) ∧ K (.int k (a.tdiv b))
  | .rem => (b ≠ 0 ∧ inR k (a.tmod b)) ∧ K (.int k (a.tmod b))
  | .eql => K (.bool (decide (a = b)))
  | .neq => K (.bool (!decide (a = b)))
  | .lss => K (.bool (decide (a < b)))
  | .leq => K (.bool (decide (a ≤ b)))
  | .gtr => K (.bool (decide (b < a)))
  | .geq => K (.bool (decide (b ≤ a)))
  | _ => False

def aStr (op : BinOp) (a b : ByteArray) (K : AV → Prop) : Prop :=
  match op with
  | .add => a.size + b.size ≤ maxLen ∧ K (.str (a ++ b))
  | .eql => K (.bool (decide (a = b)))
  | .neq => K (.bool (!decide (a = b)))
  | .lss => K (.bool (Op.bytesLess a.toList b.toList))
  | _ => False

def aBool (op : BinOp) (a : Bool) (K : AV → Prop) : Prop :=
  match op with
  | .eql => K (.bool a)
  | .neq => K (.bool (!a))
  | _ => False

/-- the equality of two flat structs: their cells' kinds (0 a truth value, 1 a number, 2 a string) -/
def flatEq : List Nat → List AV → List AV → Option Bool
  | [], [], [] => some true
  | 1 :: ks, .int k a :: xs, .int k' b :: ys => if k = k' then (flatEq ks xs ys).map (decide (a = b) && ·) else none
  | 0 :: ks, .bool a :: xs, .bool b :: ys => (flatEq ks xs ys).map (decide (a = b) && ·)
  | 2 :: ks, .str a :: xs, .str b :: ys => (flatEq ks xs ys).map (decide (a = b) && ·)
  | _, _, _ => none
def aFlatO (op : BinOp) (r : Option Bool) (K : AV → Prop) : Prop :=
  match r with
  | some b => aBool op b K
  | none => False
def aFlat (op : BinOp) (kd : EqK) (xs ys : List AV) (K : AV → Prop) : Prop :=
  match kd with
  | .flat ks => aFlatO op (flatEq ks xs ys) K
  | _ => False

def aBin (op : BinOp) (kd : EqK) (x y : AV) (K : AV → Prop) : Prop :=
  match x, y with
  | .int k a, .int k' b => k = k' ∧ aInt op k a b K
  | .str a, .str b => aStr op a b K
  | .bool a, .bool b => kd = .bool ∧ aBool op (a == b) K
  | .nilp, .nilp => kd = .ptr ∧ aBool op true K
  | .nilp, .obj _ => kd = .ptr ∧ aBool op false K
  | .obj _, .nilp => kd = .ptr ∧ aBool op false K
  | .nilp, .ptr _ _ _ _ => kd = .ptr ∧ aBool op false K
  | .ptr _ _ _ _, .nilp => kd = .ptr ∧ aBool op false K
  | .nils, .nils => kd = .slice ∧ aBool op true K
  | .sl es, .nils => (kd = .slice ∧ es ≠ []) ∧ aBool op false K
  | .nils, .sl es => (kd = .slice ∧ es ≠ []) ∧ aBool op false K
  | .agg xs, .agg ys => aFlat op kd xs ys K
  | _, _ => False

def aBinw (op : BinOp) (x y : AV) (K : AV → Prop) : Prop :=
  match x, y with
  | .int k a, .int k' b => k = k' ∧ (match op with
      | .add => K (.int k (k.wrap (a + b)))
      | .sub => K (.int k (k.wrap (a - b)))
      | .mul => K (.int k (k.wrap (a * b)))
      | .and => K (.int k (k.wrap (BitVec.ofInt k.bits a &&& BitVec.ofInt k.bits b).toNat))
      | .or => K (.int k (k.wrap (BitVec.ofInt k.bits a ||| BitVec.ofInt k.bits b).toNat))
      | .xor => K (.int k (k.wrap (BitVec.ofInt k.bits a ^^^ BitVec.ofInt k.bits b).toNat))
      | .shl => 0 ≤ b ∧ K (.int k (k.wrap (a * 2 ^ (min b.toNat k.bits))))
      | .shr => (0 ≤ b ∧ inR k (a.fdiv (2 ^ (min b.toNat k.bits)))) ∧ K (.int k (a.fdiv (2 ^ (min b.toNat k.bits))))
      | _ => False)
  | _, _ => False

def aUn (op : UnOp) (x : AV) (K : AV → Prop) : Prop :=
  match x with
  | .bool b => match op with | .not => K (.bool (!b)) | _ => False
  | .int k n => match op with | .neg => inR k (-n) ∧ K (.int k (-n)) | _ => False
  | _ => False

/-- x may lie in cells -/
def AV.ok (x : AV) : Bool := x.one || x.isAgg

def aPick (x a b : AV) (K : AV → Prop) : Prop :=
  match x with
  | .bool t => (t = true → K a) ∧ (t = false → K b)
  | _ => False

/-- cells xs laid over cs from off on -/
def lay (cs : List AV) (off : Nat) (xs : List AV) : List AV := cs.take off ++ xs ++ cs.drop (off + xs.length)
def aBuild (fr : Nat → AV) : List AV → List (Nat × Nat × IArg) → (List AV → Prop) → Prop
  | cs, [], K => K cs
  | cs, (off, n, x) :: r, K => ((x.ev fr).ok = true ∧ (x.ev fr).cells.length = n ∧ off + n ≤ cs.length) ∧ aBuild fr (lay cs off (x.ev fr).cells) r K
def aElems (fr : Nat → AV) (esz : Nat) : List AV → List (Nat × IArg) → (List AV → Prop) → Prop
  | es, [], K => K es
  | es, (i, x) :: r, K => ((x.ev fr).ok = true ∧ (x.ev fr).cells.length = esz ∧ i < es.length) ∧ aElems fr esz (es.set i (x.ev fr)) r K

def aPart (agg : Bool) (cs : List AV) (off n : Nat) (K : AV → Prop) : Prop :=
  match agg with
  | true => off + n ≤ cs.length ∧ K (.agg ((cs.drop off).take n))
  | false => off < cs.length ∧ K (cs.getD off .top)

def aLoad (hp : Hp) (agg : Bool) (n : Nat) (x : AV) (K : AV → Prop) : Prop :=
  match x with
  | .obj cs => aPart agg cs 0 n K
  | .ptr k v i off => match hget hp k with
      | some b => (b.ver = v ∧ i < b.es.length) ∧ aPart agg (b.es.getD i .top).cells off n K
      | none => False
  | _ => False

/-- an element with new cells from off on -/
def AV.setc (e : AV) (off : Nat) (xs : List AV) : AV :=
  match e with
  | .agg cs => .agg (lay cs off xs)
  | _ => match xs with
    | [x] => x
    | _ => e
def aStore (hp : Hp) (n : Nat) (a x : AV) (K : Hp → Prop) : Prop :=
  match a, x with
  | .ptr k v i off, x => match hget hp k with
      | some b => (b.ver = v ∧ b.frz = false ∧ i < b.es.length ∧ x.ok = true ∧ x.cells.length = n ∧ off + n ≤ (b.es.getD i .top).cells.length) ∧
          K ((k, { b with es := b.es.set i ((b.es.getD i .top).setc off x.cells) }) :: hp)
      | none => False
  | _, _ => False

def aFaddr (off : Nat) (x : AV) (K : AV → Prop) : Prop :=
  match x with
  | .obj cs => K (.obj (cs.drop off))
  | .ptr k v i o => K (.ptr k v i (o + off))
  | _ => False
def aFld (agg : Bool) (off n : Nat) (x : AV) (K : AV → Prop) : Prop :=
  match x with
  | .agg cs => aPart agg cs off n K
  | _ => False
def aIaddr (hp : Hp) (esz : Nat) (x i : AV) (K : AV → Prop) : Prop :=
  match x, i with
  | .sl es, .int _ i => (0 ≤ i ∧ i < es.length ∧ (es.getD i.toNat .top).cells.length = esz) ∧ K (.obj (es.getD i.toNat .top).cells)
  | .row k v n, .int _ i => match hget hp k with
      | some b => (b.ver = v ∧ b.esz = esz ∧ 0 ≤ i ∧ i < n) ∧ K (.ptr k v i.toNat 0)
      | none => False
  | _, _ => False
def byteAt (s : ByteArray) (i : Nat) : UInt8 := s.data.getD i 0
def aSidx (x i : AV) (K : AV → Prop) : Prop :=
  match x, i with
  | .str s, .int _ i => (0 ≤ i ∧ i < s.size) ∧ K (.int .u8 (byteAt s i.toNat).toNat)
  | _, _ => False
def AV.num (d : Int) : AV → Int
  | .int _ n => n
  | _ => d
def AV.isInt : AV → Bool
  | .int _ _ => true
  | _ => false
def optInt (fr : Nat → AV) : Option IArg → Bool
  | none => true
  | some x => (x.ev fr).isInt
def optNum (fr : Nat → AV) (d : Int) : Option IArg → Int
  | none => d
  | some x => (x.ev fr).num d
def aSlice (fr : Nat → AV) (esz : Nat) (lo hi : Option IArg) (x : AV) (K : AV → Prop) : Prop :=
  match x with
  | .str s => (esz = 0 ∧ optInt fr lo = true ∧ optInt fr hi = true ∧ 0 ≤ optNum fr 0 lo ∧ optNum fr 0 lo ≤ optNum fr s.size hi ∧ optNum fr s.size hi ≤ s.size) ∧
      K (.str (s.extract (optNum fr 0 lo).toNat (optNum fr s.size hi).toNat))
  | .sl es => (esz ≠ 0 ∧ optInt fr lo = true ∧ optInt fr hi = true ∧ 0 ≤ optNum fr 0 lo ∧ optNum fr 0 lo ≤ optNum fr es.length hi ∧ optNum fr es.length hi ≤ es.length ∧ (lo = none ∨ ∀ e ∈ es, e.cells.length = esz)) ∧
      K (.sl ((es.drop (optNum fr 0 lo).toNat).take ((optNum fr es.length hi).toNat - (optNum fr 0 lo).toNat)))
  | .row k v n => (esz ≠ 0 ∧ lo = none ∧ optInt fr hi = true ∧ 0 ≤ optNum fr n hi ∧ optNum fr n hi ≤ n) ∧ K (.row k v (optNum fr n hi).toNat)
  | _ => False
def aLen (str : Bool) (x : AV) (K : AV → Prop) : Prop :=
  match x with
  | .str s => str = true ∧ K (.int .i64 s.size)
  | .sl es => str = false ∧ K (.int .i64 es.length)
  | .row _ _ n => str = false ∧ K (.int .i64 n)
  | .nils => str = false ∧ K (.int .i64 0)
  | _ => False

/-- own rows that may no more be written, told by their elements -/
def AV.pur1 (hp : Hp) : AV → AV
  | .row k v n => match hget hp k with
      | some b => if b.ver = v ∧ b.frz = true ∧ n ≤ b.es.length then .sl (b.es.take n) else .row k v n
      | none => .row k v n
  | .ptr k v i off => match hget hp k with
      | some b => if b.ver = v ∧ b.frz = true ∧ i < b.es.length then .obj ((b.es.getD i .top).cells.drop off) else .ptr k v i off
      | none => .ptr k v i off
  | x => x
def AV.pur (hp : Hp) : AV → AV
  | .agg cs => .agg (cs.map (AV.pur1 hp))
  | .tup cs => .tup (cs.map (AV.pur1 hp))
  | x => x.pur1 hp
def AV.purA (hp : Hp) : AV → AV
  | .fn f cs => .fn f (cs.map (AV.pur1 hp))
  | x => x.pur hp

/-- what is appended, as elements -/
def aTail (hp : Hp) : AV → Option (List AV)
  | .sl es => some es
  | .nils => some []
  | .row k v n => match hget hp k with
      | some b => if b.ver = v ∧ n ≤ b.es.length then some (b.es.take n) else none
      | none => none
  | _ => none
def aApp (hp : Hp) (k : Nat) (ty : TypeId) (esz bytes : Nat) (s : AV) (x : Option (List AV)) (K : AV → Hp → Prop) : Prop :=
  match s, x with
  | .nils, some es => ((∀ e ∈ es, e.cells.length = esz) ∧ es.length * bytes ≤ 140737488355328 ∧ es.length ≤ maxLen) ∧
      ∀ v, K (.row k v es.length) ((k, ⟨v, false, ty, esz, es⟩) :: hp)
  | .row j v n, some es => match hget hp j with
      | some b => (b.ver = v ∧ b.frz = false ∧ b.ty = ty ∧ b.esz = esz ∧ n ≤ b.es.length ∧ (∀ e ∈ es, e.cells.length = esz) ∧ (n + es.length) * bytes ≤ 140737488355328 ∧ n + es.length ≤ maxLen) ∧
          ∀ v', K (.row j v' (n + es.length)) ((j, ⟨v', false, ty, esz, b.es.take n ++ es⟩) :: hp)
      | none => False
  | _, _ => False

def aConv (dst : IntKind) (x : AV) (K : AV → Prop) : Prop :=
  match x with
  | .int _ n => inR dst n ∧ K (.int dst n)
  | _ => False
def aExtract (i : Nat) (x : AV) (K : AV → Prop) : Prop :=
  match x with
  | .tup xs => i < xs.length ∧ K (xs.getD i .top)
  | _ => False
def aNilchk (x : AV) (K : AV → Prop) : Prop :=
  match x with
  | .obj _ | .ptr _ _ _ _ | .fn _ _ => K x
  | _ => False
def aMm (mx : Bool) (xs : List AV) (K : AV → Prop) : Prop :=
  match xs with
  | [.int k a, .int k' b] => k = k' ∧ K (.int k (if mx then max a b else min a b))
  | _ => False
/-- the bytes of a row -/
def aBytes : List AV → Option (List UInt8)
  | [] => some []
  | .int .u8 n :: r => (aBytes r).map (UInt8.ofNat n.toNat :: ·)
  | _ => none
def aB2s (x : Option (List AV)) (K : AV → Prop) : Prop :=
  match x with
  | some es => ∃ l : List UInt8, es = l.map (fun b : UInt8 => AV.int .u8 b.toNat) ∧ K (.str ⟨l.toArray⟩)
  | none => False

/-- the world that a call began in, what may be read of it for good, what it may write -/
structure Env where
  w0 : World
  S : Nat → Prop
  own : Nat → Prop
  mu : Mu

structure Ext (E : Env) (w : World) : Prop where
  os : w.os = E.w0.os
  tape : w.tape = E.w0.tape
  output : w.output = E.w0.output
  size : E.w0.heap.size ≤ w.heap.size
  block : ∀ b, b < E.w0.heap.size → ¬ E.own b → w.heap[b]? = E.w0.heap[b]?

/-- the elements es lie in the cells cur, esz cells each -/
def Lies (S : Nat → Prop) (w : World) (μ : Mu) (cur : Array Value) (esz : Nat) (es : List AV) : Prop :=
  (∀ e ∈ es, e.cells.length = esz ∧ ∀ x ∈ e.cells, x.one = true) ∧
  ∀ i j e x, es[i]? = some e → e.cells[j]? = some x → ∃ v, cur[i * esz + j]? = some v ∧ VR S w μ v x

def BoxOk (E : Env) (S : Nat → Prop) (w : World) (μ : Mu) (k : Nat) (bx : Box) : Prop :=
  ∃ B : Bk, μ k bx.ver = some B ∧ B.esz = bx.esz ∧
    match B.blk with
    | none => bx.es = []
    | some b => (bx.frz = false → E.w0.heap.size ≤ b ∨ E.own b) ∧ (bx.frz = true → S b) ∧ (bx.frz = false → ¬ S b) ∧
        ∃ cur, w.heap[b]? = some (.cells cur bx.ty (0, 0)) ∧ cur.size = B.cap * B.esz ∧ B.cap ≤ maxLen ∧ bx.es.length ≤ B.cap ∧ Lies S w μ cur B.esz bx.es

structure WI (E : Env) (S : Nat → Prop) (w : World) (μ : Mu) (hp : Hp) : Prop where
  ext : Ext E w
  lt : ∀ b, S b → b < w.heap.size
  base : ∀ b, E.S b → S b
  new : ∀ b, S b → E.S b ∨ E.w0.heap.size ≤ b ∨ E.own b
  fresh : ∃ N, ∀ k v, N ≤ v → μ k v = none
  box : ∀ k bx, hget hp k = some bx → BoxOk E S w μ k bx
  apart : ∀ k k' bx bx' B B' b, hget hp k = some bx → hget hp k' = some bx' → k ≠ k' → bx.frz = false → bx'.frz = false →
    μ k bx.ver = some B → μ k' bx'.ver = some B' → B.blk = some b → B'.blk ≠ some b
  le : Mu.le E.mu μ

def callable (P : Program) (f : FuncId) : Bool :=
  match P.funcs[f]? with
  | some fn => fn.body.isSome && fn.name != "runtime.NumGoroutine"
  | none => false
/-- the contract: called with values that stand for args, in whatever world, f returns a value that stands for res; what was there stays as it was -/
def CallsF (P : Program) (f : FuncId) (args : List AV) (res : AV) : Prop :=
  callable P f = true ∧ (∀ x ∈ args, AvPure x) ∧ ∀ (S : Nat → Prop) (w : World) (vs : List Value), (∀ b, S b → b < w.heap.size) → VRs S w mu0 vs args →
    Calls P f vs.toArray w fun e w' => ∃ v, e = .returned v ∧ VR (fun b => S b ∨ (w.heap.size ≤ b ∧ b < w'.heap.size)) w' mu0 v res ∧ Below w.heap.size w w'

/-- the blocks of own rows that may be written -/
def ownOf (μ : Mu) (hp : Hp) : Nat → Prop := fun b => ∃ k bx B, hget hp k = some bx ∧ bx.frz = false ∧ μ k bx.ver = some B ∧ B.blk = some b
/-- the contract of a function that is handed own rows: what it returns, and how it leaves them -/
def CallsH (P : Program) (f : FuncId) (args : List AV) (hp : Hp) (Post : AV → Hp → Prop) : Prop :=
  callable P f = true ∧ ∀ (S : Nat → Prop) (w : World) (μ : Mu) (vs : List Value), WI ⟨w, S, ownOf μ hp, μ⟩ S w μ hp → VRs S w μ vs args →
    Calls P f vs.toArray w fun e w' => ∃ v r hp' S' μ', e = .returned v ∧ Post r hp' ∧ VR S' w' μ' v r ∧ WI ⟨w, S, ownOf μ hp, μ⟩ S' w' μ' hp'
/-- the own rows of these names; the others -/
def hsel (hs : List Nat) (hp : Hp) : Hp := hs.filterMap fun k => (hget hp k).map fun b => (k, b)
def hrest (hs : List Nat) (hp : Hp) : Hp := hp.filter fun p => !hs.contains p.1
def aCallH (P : Program) (f : FuncId) (args : List AV) (hp : Hp) (K : AV → Hp → Prop) : Prop := ∃ hs Post, CallsH P f args (hsel hs hp) Post ∧ ∀ r hp', Post r hp' → K r (hp' ++ hrest hs hp)
def aCallvH (P : Program) (x : AV) (args : List AV) (hp : Hp) (K : AV → Hp → Prop) : Prop :=
  match x with
  | .fn f caps => aCallH P f (args ++ caps) hp K
  | _ => False
def aCall (P : Program) (f : FuncId) (args : List AV) (K : AV → Prop) : Prop := ∃ r, CallsF P f args r ∧ K r
def aCallv (P : Program) (x : AV) (args : List AV) (K : AV → Prop) : Prop :=
  match x with
  | .fn f caps => ∃ r, CallsF P f (args ++ caps) r ∧ K r
  | _ => False
/-- an own row may from here on be read for good, and no more be written -/
def hfrz (hp : Hp) (k : Nat) : Hp :=
  match hget hp k with
  | some b => (k, { b with frz := true, es := b.es.map (AV.pur hp) }) :: hp
  | none => hp

def IOp.sem (P : Program) (fr : Nat → AV) (hp : Hp) (K : AV → Hp → Prop) : IOp → Prop
  | .mov x => K (x.ev fr) hp
  | .pick c a b => aPick (c.ev fr) (a.ev fr) (b.ev fr) fun v => K v hp
  | .bin op kd x y => aBin op kd (x.ev fr) (y.ev fr) fun v => K v hp
  | .binw op x y => aBinw op (x.ev fr) (y.ev fr) fun v => K v hp
  | .un op x => aUn op (x.ev fr) fun v => K v hp
  | .boxP x => (x.ev fr).ok = true ∧ K (.obj ((x.ev fr).pur hp).cells) hp
  | .boxO k ty n x => ((x.ev fr).ok = true ∧ (x.ev fr).cells.length = n) ∧ ∀ v, K (.ptr k v 0 0) ((k, ⟨v, false, ty, n, [x.ev fr]⟩) :: hp)
  | .build zero parts => aBuild fr zero parts fun cs => K (.agg cs) hp
  | .slP m zero parts => aElems fr zero.cells.length (List.replicate m zero) parts fun es => K (.sl (es.map (AV.pur hp))) hp
  | .slO k ty m zero parts => aElems fr zero.cells.length (List.replicate m zero) parts fun es => ∀ v, K (.row k v m) ((k, ⟨v, false, ty, zero.cells.length, es⟩) :: hp)
  | .load agg n a => aLoad hp agg n (a.ev fr) fun v => K v hp
  | .store n a x => aStore hp n (a.ev fr) (x.ev fr) fun hp => K (.tup []) hp
  | .faddr off x => aFaddr off (x.ev fr) fun v => K v hp
  | .fld agg off n x => aFld agg off n (x.ev fr) fun v => K v hp
  | .iaddr esz x i => aIaddr hp esz (x.ev fr) (i.ev fr) fun v => K v hp
  | .sidx x i => aSidx (x.ev fr) (i.ev fr) fun v => K v hp
  | .slice esz x lo hi => aSlice fr esz lo hi (x.ev fr) fun v => K v hp
  | .len g x => aLen g (x.ev fr) fun v => K v hp
  | .append k ty esz bytes s x => aApp hp k ty esz bytes (s.ev fr) ((aTail hp (x.ev fr)).map (·.map (AV.pur hp))) K
  | .mkSlice k ty bytes zero m => match m.ev fr with
      | .int _ n => (0 ≤ n ∧ n * bytes ≤ 140737488355328) ∧ ∀ v, K (.row k v n.toNat) ((k, ⟨v, false, ty, zero.cells.length, List.replicate n.toNat zero⟩) :: hp)
      | _ => False
  | .conv dst x => aConv dst (x.ev fr) fun v => K v hp
  | .b2s x => aB2s (aTail hp (x.ev fr)) fun v => K v hp
  | .extract i x => aExtract i (x.ev fr) fun v => K v hp
  | .call f args => aCall P f (args.map fun x => (x.ev fr).purA hp) fun v => K v hp
  | .callv f args => aCallv P ((f.ev fr).purA hp) (args.map fun x => (x.ev fr).purA hp) fun v => K v hp
  | .callH f args => aCallH P f (args.map fun x => (x.ev fr).purA hp) hp K
  | .callvH f args => aCallvH P ((f.ev fr).purA hp) (args.map fun x => (x.ev fr).purA hp) hp K
  | .mkfn f caps => K (.fn f (caps.map fun x => x.ev fr)) hp
  | .nilchk x => aNilchk (x.ev fr) fun v => K v hp
  | .mm mx xs => aMm mx (xs.map fun x => x.ev fr) fun v => K v hp
  | .bad => False

/-- an abstract state -/
structure St where
  fr : List (Nat × AV)
  hp : Hp
def St.put (s : St) (d : Option Nat) (x : AV) (hp : Hp) : St :=
  match d with
  | some d => ⟨(d, x) :: s.fr, hp⟩
  | none => ⟨s.fr, hp⟩

def hnames : Hp → List Nat
  | [] => []
  | (k, _) :: r => if (hnames r).contains k then hnames r else k :: hnames r
def frzL : List Nat → Hp → Hp
  | [], hp => hp
  | k :: r, hp => frzL r (hfrz hp k)
/-- behind a return no own row is written any more -/
def frzAll (hp : Hp) : Hp := frzL (hnames hp) (frzL (hnames hp) hp)

/-- the operations that leave own rows alone -/
def IOp.quiet : IOp → Bool
  | .boxO .. | .slO .. | .store .. | .append .. | .mkSlice .. | .callH .. | .callvH .. => false
  | _ => true

def awpOps (P : Program) (Q : St → Prop) : List IOper → St → Prop
  | [], s => Q s
  | o :: rest, s =>
    match o.guard with
    | none => o.op.sem P (fget s.fr) s.hp fun v hp => awpOps P Q rest (s.put o.dst v hp)
    | some (t, want) =>
      match fget s.fr t with
      | .bool b => (b = want → o.op.sem P (fget s.fr) s.hp fun v hp => awpOps P Q rest (s.put o.dst v hp)) ∧ (b = (!want) → awpOps P Q rest (s.put o.dst (.tup []) s.hp))
      | .tup _ => awpOps P Q rest (s.put o.dst (.tup []) s.hp)
      | _ => False

end Go.Proofs.Ytlpapmofmdgllaa.Av
