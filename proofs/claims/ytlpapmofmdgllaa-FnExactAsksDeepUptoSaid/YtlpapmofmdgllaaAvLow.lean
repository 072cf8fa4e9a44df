/-
  FROM THE MODEL'S OPERATIONS TO THE ABSTRACT ONES: a function that the kernel carries out. Conditions: none.
-/
import Derived.Test.YtlpapmofmdgllaaAvOp
set_option linter.unusedVariables false
namespace Go.Proofs.Ytlpapmofmdgllaa.Av
open Go.RowKit

def low1 : Value → Option AV
  | .bool b => some (.bool b)
  | .int k n => if k.min ≤ n ∧ n ≤ k.max then some (.int k n) else none
  | .string s => if s.size ≤ maxLen then some (.str s) else none
  | .pointer none => some .nilp
  | .slice none 0 0 => some .nils
  | .nilFunc => some .nilf
  | _ => none
def lowL : List Value → Option (List AV)
  | [] => some []
  | v :: r => match low1 v, lowL r with
      | some x, some xs => some (x :: xs)
      | _, _ => none
def lowVal : Value → Option AV
  | .agg cs => (lowL cs.toList).map .agg
  | v => low1 v
def lowArg : Operand → Option IArg
  | .tmp t => some (.t t)
  | .const v => (lowVal v).map .c
  | .func f => some (.c (.fn f []))
  | .global _ => none
def lowArgs : List Operand → Option (List IArg)
  | [] => some []
  | x :: r => match lowArg x, lowArgs r with
      | some x, some xs => some (x :: xs)
      | _, _ => none

def tySize (P : Program) (t : TypeId) : Option Nat := (P.info? t).map (·.size)
def tyAgg (P : Program) (t : TypeId) : Option Bool :=
  match P.underlying t with
  | some (.struct _) | some (.array _ _) => some true
  | some _ => some false
  | none => none
/-- the kinds of the cells of a flat type: fields one behind the other -/
def flatFs (g : TypeId → Option (List Nat)) : List Field → Nat → Option (List Nat)
  | [], _ => some []
  | f :: r, off => match g f.type, flatFs g r (off + ((g f.type).getD []).length) with
      | some ks, some ls => if f.offset = off ∧ f.name ≠ "_" then some (ks ++ ls) else none
      | _, _ => none
def flatN (P : Program) : Nat → TypeId → Option (List Nat)
  | 0, _ => none
  | d + 1, t => match P.underlying t with
      | some .bool => some [0]
      | some (.int _) => some [1]
      | some .string => some [2]
      | some (.struct fs) => if P.stoodInHeld t = false ∧ (fs.toList.all fun f => (tySize P f.type == (flatN P d f.type).map (·.length)) && (tyAgg P f.type).isSome) then flatFs (flatN P d) fs.toList 0 else none
      | _ => none
def eqKind (P : Program) (t : TypeId) : EqK :=
  match P.underlying t with
  | some .bool => .bool
  | some (.pointer e) => .ptr
  | some (.slice _) => .slice
  | _ => .other

def tyElem (P : Program) (t : TypeId) : Option TypeId :=
  match P.underlying t with
  | some (.slice e) => some e
  | _ => none
def tyZero (P : Program) (t : TypeId) : Option AV := ((P.info? t).bind (·.zero)).bind lowVal
def lowBuild (P : Program) (fs : Array Field) : List (Nat × Operand) → Option (List (Nat × Nat × IArg))
  | [] => some []
  | (i, x) :: r => match fs[i]?, lowArg x, lowBuild P fs r with
      | some f, some x, some r => (tySize P f.type).map fun n => (f.offset, n, x) :: r
      | _, _, _ => none
def lowElems : List (Nat × Operand) → Option (List (Nat × IArg))
  | [] => some []
  | (i, x) :: r => match lowArg x, lowElems r with
      | some x, some r => some ((i, x) :: r)
      | _, _ => none
def sameOpd : Operand → Operand → Bool
  | .tmp a, .tmp b => a == b
  | .const (.int k a), .const (.int k' b) => k == k' && a == b
  | _, _ => false

def slEsz (P : Program) (t : TypeId) : Option Nat :=
  match P.underlying t with
  | some .string => some 0
  | some (.slice e) => match tySize P e with
      | some (n + 1) => some (n + 1)
      | _ => none
  | _ => none

/-- own: for a slot that an operation writes, the name of the own row that it makes (an arithmetic operation that stands there may wrap) -/
def lowOp0 (P : Program) (own : List (Nat × Nat)) (o : Oper) : Option IOp :=
  let mk := o.dst.bind fun d => own.lookup d
  let mkA : Option Nat := if mk = some 9999 then none else if mk = none then o.dst else mk
  match o.op with
  | .move x | .assign x => (lowArg x).map .mov
  | .pick c a b => match lowArg c, lowArg a, lowArg b with
      | some c, some a, some b => some (.pick c a b)
      | _, _, _ => none
  | .binOp op t x y _ => match lowArg x, lowArg y with
      | some x, some y => match op, mk with
        | .shl, _ | .shr, _ | .and, _ | .or, _ | .xor, _ | _, some _ => some (.binw op x y)
        | _, none => some (.bin op (eqKind P t) x y)
      | _, _ => none
  | .unOp op _ x => (lowArg x).map (.un op)
  | .alloc e => match tyZero P e, tySize P e, mkA with
      | some z, some _, none => some (.boxP (.c z))
      | some z, some n, some k => some (.boxO k e n (.c z))
      | _, _, _ => none
  | .box e x => match lowArg x, tySize P e, mk with
      | some x, some _, none => some (.boxP x)
      | some x, some n, some k => some (.boxO k e n x)
      | _, _, _ => none
  | .build t ps => match P.underlying t with
      | some (.struct fs) => match tyZero P t, lowBuild P fs ps.toList with
        | some z, some ps => if z.isAgg ∧ (fs.toList.all fun f => (tySize P f.type).isSome) then some (.build z.cells ps) else none
        | _, _ => none
      | _ => none
  | .buildSlice t n ps => match tyElem P t with
      | some e => match tySize P e, tyZero P e, lowElems ps.toList with
        | some sz, some z, some ps => if z.cells.length = sz ∧ 0 < sz ∧ n * sz ≤ 2 ^ 24 then
            (match (if n = 0 then mkA else mk) with
              | none => some (.slP n z ps)
              | some k => some (.slO k e n z ps)) else none
        | _, _, _ => none
      | none => none
  | .load t a => match tyAgg P t, tySize P t, lowArg a with
      | some g, some n, some a => some (.load g n a)
      | _, _, _ => none
  | .store t a x => match tySize P t, lowArg a, lowArg x with
      | some n, some a, some x => some (.store n a x)
      | _, _, _ => none
  | .fieldAddr s x f => match P.underlying s with
      | some (.struct fs) => match fs[f]?, lowArg x with
        | some fd, some x => match tySize P fd.type with
          | some (n + 1) => some (.faddr fd.offset x)
          | _ => none
        | _, _ => none
      | _ => none
  | .field s x f => match P.underlying s with
      | some (.struct fs) => match fs[f]?, lowArg x with
        | some fd, some x => match tySize P fd.type, tyAgg P fd.type with
          | some n, some g => some (.fld g fd.offset n x)
          | _, _ => none
        | _, _ => none
      | _ => none
  | .indexAddr t x i => match tyElem P t with
      | some e => match tySize P e, lowArg x, lowArg i with
        | some (n + 1), some x, some i => some (.iaddr (n + 1) x i)
        | _, _, _ => none
      | none => none
  | .index t x i => match P.underlying t, lowArg x, lowArg i with
      | some .string, some x, some i => some (.sidx x i)
      | _, _, _ => none
  | .slice t x lo hi none => match slEsz P t, lowArg x with
      | some n, some x => match lo.map lowArg, hi.map lowArg with
        | none, none => some (.slice n x none none)
        | some (some lo), none => some (.slice n x (some lo) none)
        | none, some (some hi) => some (.slice n x none (some hi))
        | some (some lo), some (some hi) => some (.slice n x (some lo) (some hi))
        | _, _ => none
      | _, _ => none
  | .makeSlice t l c => match tyElem P t with
      | some e => match P.info? e, tyZero P e, lowArg l with
        | some i, some z, some l' => if sameOpd l c ∧ z.cells.length = i.size ∧ 0 < i.size ∧ 0 < i.bytes then (match mkA with | some k => some (.mkSlice k e i.bytes z l') | none => none) else none
        | _, _, _ => none
      | none => none
  | .convert s d x => match P.underlying s, P.underlying d, lowArg x with
      | some (.int _), some (.int k), some x => some (.conv k x)
      | some (.slice e), some .string, some x => match P.underlying e with
        | some (.int .u8) => if tySize P e = some 1 then some (.b2s x) else none
        | _ => none
      | _, _, _ => none
  | .extract x i => (lowArg x).map (.extract i)
  | .makeFunc (.func f) first caps => if first.isEmpty then (lowArgs caps.toList).map (.mkfn f) else none
  | .nilCheck x => (lowArg x).map .nilchk
  | .call c => match c.callee with
    | .builtin .len => match c.args.toList, c.argTypes.toList with
      | [x], [t] => match P.underlying t, lowArg x with
        | some .string, some x => some (.len true x)
        | some (.slice _), some x => some (.len false x)
        | _, _ => none
      | _, _ => none
    | .builtin .append => match c.args.toList, c.argTypes.toList, mkA with
      | [s, x], [t, t'], some k => if t == t' then match tyElem P t with
          | some e => match P.info? e, tyZero P e, lowArg s, lowArg x with
            | some i, some z, some s, some x => if z.cells.length = i.size ∧ 0 < i.size then some (.append k e i.size i.bytes s x) else none
            | _, _, _, _ => none
          | none => none
        else none
      | _, _, _ => none
    | .builtin .max => (lowArgs c.args.toList).map (.mm true)
    | .builtin .min => (lowArgs c.args.toList).map (.mm false)
    | .value (.func f) => if callable P f then (lowArgs c.args.toList).map (if own.contains (o.dst.getD 100000, 7777) then .callH f else .call f) else none
    | .value f => match lowArg f, lowArgs c.args.toList with
      | some f, some xs => if own.contains (o.dst.getD 100000, 7777) then some (.callvH f xs) else some (.callv f xs)
      | _, _ => none
    | _ => none
  | _ => none

/-- what is not covered must not be reached -/
def lowOp (P : Program) (own : List (Nat × Nat)) (o : Oper) : Option IOp :=
  match lowOp0 P own o with
  | some x => some x
  | none => some .bad

def lowGuard (ops : Array Oper) : Option (Nat × Bool) → Option (Option (Nat × Bool))
  | none => some none
  | some (j, want) => match (ops[j]?).bind (·.dst) with
      | some t => some (some (t, want))
      | none => none
def dstOk (nt : Nat) : Option Nat → Bool
  | some d => decide (d < nt)
  | none => true
def lowOper (P : Program) (nt : Nat) (own : List (Nat × Nat)) (ops : Array Oper) (o : Oper) : Option IOper :=
  match lowGuard ops o.guard, lowOp P own o with
  | some g, some io => if dstOk nt o.dst then some ⟨o.dst, g, io⟩ else none
  | _, _ => none

def lowOpers (P : Program) (nt : Nat) (own : List (Nat × Nat)) (ops : Array Oper) : List Oper → Option (List IOper)
  | [] => some []
  | o :: r => match lowOper P nt own ops o, lowOpers P nt own ops r with
      | some x, some xs => some (x :: xs)
      | _, _ => none

inductive ICode where
  | skip
  | region (ops : List IOper)
  | draw (ops : List IOper)
  | seq (a b : ICode)
  | cond (c : IArg) (a b : ICode)
  | block (id : Nat) (a : ICode)
  | loop (a : ICode)
  | exit (id : Nat)
  | scope (a : ICode)
  | ret
  | retK
  | ghost (a : ICode)
  deriving Inhabited

end Go.Proofs.Ytlpapmofmdgllaa.Av
