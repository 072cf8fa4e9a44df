/-
  THE ABSTRACT TEXTS OF FUNCTIONS (Ops), printed by irgen.py, and that they are the functions' own. Conditions: none.
-/
import Derived.Test.YtjbcnilllfaipaaGreatProg
import Derived.Test.YtjbcnilllfaipaaGreatYAvDraw
import Derived.Test.YtjbcnilllfaipaaGreatYJ06
import Derived.Test.YtjbcnilllfaipaaGreatYWords
import Derived.Test.YtjbcnilllfaipaaGreatYJ10
import Derived.Test.YtjbcnilllfaipaaGreatYJ12
import Derived.Test.YtjbcnilllfaipaaGreatYGProg
set_option linter.unusedVariables false
set_option maxRecDepth 100000
namespace Go.Proofs.YtjbcnilllfaipaaGreat
open Go.Proofs.YtjbcnilllfaipaaGreat.Av

theorem Ns : Tryz.prog.follows .mixedOrders = true := by kernel_rfl

def Jx : Ir Tryz.prog 124 [] [] 0 := ⟨_, _, Tryz.func124, Ns, by kernel_rfl, Ag [] Tryz.progTables (by conv => lhs; cbv) (by kernel_rfl)⟩
def Jk : Ir Tryz.prog 71 [] [] 1 := ⟨_, _, Tryz.func71, Ns, by kernel_rfl, Ag [] Tryz.progTables (by conv => lhs; cbv) (by kernel_rfl)⟩
end Go.Proofs.YtjbcnilllfaipaaGreat
set_option linter.unusedVariables false
set_option linter.unusedSimpArgs false
set_option maxRecDepth 100000
namespace Go.Proofs.YtjbcnilllfaipaaGreat
open Go.RowKit Go.Proofs.YtjbcnilllfaipaaGreat.Av Go.Proofs.YtjbcnilllfaipaaGreat.Ml
open Go.Proofs.YtjbcnilllfaipaaGreat.Av.AVal (av)

def opsL : List ByteArray := [bs [43], bs [45], bs [42], bs [47], bs [37], bs [94], bs [61], bs [60, 62], bs [60], bs [60, 61]]
theorem XQ : opsL.map av = [.str (bs [43]), .str (bs [45]), .str (bs [42]), .str (bs [47]), .str (bs [37]), .str (bs [94]), .str (bs [61]), .str (bs [60, 62]), .str (bs [60]), .str (bs [60, 61])] := rfl
theorem Wi : Ap Tryz.prog 124 [] (.sl (opsL.map av)) := by
 refine Jx.F rfl (by simp) (Aq opsL) ?_
 simp +contextual -dsimp only [↓SD, SU, simprocAttr, Jx, XQ]
theorem Ch (s : ByteArray) : Ap Tryz.prog 71 [.str s] (.bool (opsL.any (fun x => decide (s = x)))) := by
 refine Jk.F rfl (by simp; exact Ac.str _) (Ac.bool _) ?_
 simp +contextual -dsimp only [↓SD, SU, simprocAttr, Jk]
 refine Al (X := Nat) (fun k => ⟨[(0, .str s), (5, .sl (opsL.map av)), (6, .int .i64 opsL.length), (7, .int .i64 k)], []⟩) (fun k => k ≤ opsL.length ∧ (opsL.take k).all (fun x => !decide (s = x)) = true) (fun k => opsL.length - k) 0 ⟨Nat.zero_le _, rfl⟩ (by simp +contextual -dsimp only [↓SD, SU, simprocAttr, XQ]; rfl) trivial ?_
 intro k ⟨hk, hpk⟩
 have hk10 : opsL.length = 10 := rfl
 by_cases hlt : k < opsL.length
 ·have e := getD_map (av (α := ByteArray)) opsL k .top hlt
  simp +contextual -dsimp only [↓SD, SU, simprocAttr, Aa, e, B7, hlt]
  refine ⟨fun h1 => ?_, fun h1 => ⟨by omega, ?_⟩⟩
  ·rw [List.any_eq_true.2 ⟨opsL[k], List.getElem_mem hlt, by simp [h1]⟩]
  ·exact Af.le ⟨k + 1, ⟨⟨hlt, by rw [A5 _ hlt hpk]; simp [h1]⟩, (by first | omega | (simp only; omega))⟩, rfl⟩ (by simp +contextual -dsimp only [↓SD, SU, simprocAttr, Int.natCast_add]) trivial
 ·obtain rfl : k = opsL.length := by omega
  rw [List.take_length] at hpk
  have : opsL.any (fun x => decide (s = x)) = false := by
   rw [List.any_eq_false]; intro x hx; simpa using List.all_eq_true.1 hpk x hx
  simp +contextual -dsimp only [↓SD, SU, simprocAttr, Aa, Nat.lt_irrefl, this]
end Go.Proofs.YtjbcnilllfaipaaGreat
set_option linter.unusedVariables false
namespace Go.Proofs.YtjbcnilllfaipaaGreat
open Go.RowKit Go.Proofs.YtjbcnilllfaipaaGreat.Av Go.Proofs.YtjbcnilllfaipaaGreat.Ml
open Go.Proofs.YtjbcnilllfaipaaGreat.Av.AVal (av)

def FH : Nat → List Nat → Option (List Nat)
 | 0, l => some l
 | _ + 1, [] => none
 | c + 1, a :: l => FH (a + c) l
termination_by _ l => l.length
theorem Fp (l : List Nat) : FH 0 l = some l := by rw [FH]
theorem Ia (c : Nat) : FH (c + 1) [] = none := by rw [FH]
theorem G2 (c a : Nat) (l : List Nat) : FH (c + 1) (a :: l) = FH (a + c) l := by rw [FH]
theorem Zn : ∀ (l : List Nat) (a c : Nat), FH (a + c) l = (FH a l).bind (FH c) := by
 intro l
 induction l with
 | nil =>
  intro a c
  cases a with
  | zero => rw [Nat.zero_add, Fp]; rfl
  | succ a => rw [show a + 1 + c = (a + c) + 1 by omega, Ia, Ia]; rfl
 | cons x l ih =>
  intro a c
  cases a with
  | zero => rw [Nat.zero_add, Fp]; rfl
  | succ a => rw [show a + 1 + c = (a + c) + 1 by omega, G2, G2, ← Nat.add_assoc, ih]
theorem Qn : ∀ (l : List Nat) (c : Nat) (r : List Nat), FH c l = some r → r.length ≤ l.length ∧ r = l.drop (l.length - r.length) ∧ (0 < c → r.length < l.length) := by
 intro l
 induction l with
 | nil =>
  intro c r h
  cases c with
  | zero => rw [Fp] at h; cases h; simp
  | succ c => rw [Ia] at h; cases h
 | cons x l ih =>
  intro c r h
  cases c with
  | zero => rw [Fp] at h; cases h; simp
  | succ c =>
   rw [G2] at h
   obtain ⟨h1, h2, h3⟩ := ih _ _ h
   refine ⟨by simp; omega, ?_, fun _ => by simp; omega⟩
   rw [List.length_cons, show l.length + 1 - r.length = (l.length - r.length) + 1 by omega, List.drop_succ_cons]
   exact h2
def Io (e : Nat → Option Nat) : Nat → Nat → Option Nat
 | 0, p => some p
 | c + 1, p => (e p).bind (Io e c)
def HV (A : List Nat) : Nat → Nat → Option Nat
 | 0, _ => none
 | f + 1, p => if p < A.length then Io (HV A f) (A.getD p 0) (p + 1) else none
theorem Rh (A : List Nat) : ∀ (f p : Nat), A.length - p < f → HV A f p = (FH 1 (A.drop p)).map (fun r => A.length - r.length)
 | 0, p, h => by omega
 | f + 1, p, h => by
  -- c types behind p
  have hit : ∀ c q, p < q → q ≤ A.length → Io (HV A f) c q = (FH c (A.drop q)).map (fun r => A.length - r.length) := by
   intro c
   induction c with
   | zero => intro q _ hq; rw [Fp]; simp [Io]; omega
   | succ c ih =>
    intro q hpq hq
    rw [Io, Rh A f q (by omega), Nat.add_comm c 1, Zn]
    cases hs : FH 1 (A.drop q) with
    | none => rfl
    | some r =>
     obtain ⟨h1, h2, h3⟩ := Qn _ _ _ hs
     have h4 := h3 (by omega)
     rw [List.length_drop] at h1 h2 h4
     simp only [Option.map_some, Option.bind_some]
     rw [ih _ (by omega) (by omega)]
     congr 1
     rw [List.drop_drop] at h2
     rw [h2, List.length_drop]
     congr 1; congr 1; omega
  unfold HV
  by_cases hp : p < A.length
  ·rw [if_pos hp, hit _ _ (by omega) (by omega), List.drop_eq_getElem_cons hp, G2, Nat.add_zero]
   simp [List.getD_eq_getElem?_getD, hp]
  ·rw [if_neg hp, List.drop_of_length_le (by omega), Ia]; rfl

def F1 (x : Bw) : Bool :=
 if x.name = bs [] then (decide (0 ≤ x.var) && decide (x.var ≤ 9999)) && decide (x.arity = 0)
 else if x.var = 0 then
  if x.name = bs [45, 62] ∨ x.name = bs [42] then decide (x.arity = 2)
  else if x.name = bs [114, 101, 102] then decide (x.arity = 1)
  else F0 x.name && (decide (0 ≤ x.arity) && decide (x.arity ≤ 2))
 else false
theorem Up {x : Bw} (h : F1 x = true) : 0 ≤ x.arity ∧ x.arity ≤ 2 := by
 unfold F1 at h
 split at h
 ·simp only [Bool.and_eq_true, decide_eq_true_eq] at h; omega
 ·split at h
  ·split at h
   ·simp only [decide_eq_true_eq] at h; omega
   ·split at h
    ·simp only [decide_eq_true_eq] at h; omega
    ·simp only [Bool.and_eq_true, decide_eq_true_eq] at h; omega
  ·cases h
def arL (l : List Bw) : List Nat := l.map fun x => x.arity.toNat
def FG (l : List Bw) : Bool := l.all F1 && decide (FH 1 (arL l) = some [])
def tyB (l : List Bw) : Bool := decide ((l.length : Int) ≤ 200) && FG l
end Go.Proofs.YtjbcnilllfaipaaGreat
set_option linter.unusedVariables false
namespace Go.Proofs.YtjbcnilllfaipaaGreat
open Go.RowKit Go.Proofs.YtjbcnilllfaipaaGreat.Av Go.Proofs.YtjbcnilllfaipaaGreat.Ml
open Go.Proofs.YtjbcnilllfaipaaGreat.Av.AVal (av)

def AJ (k : Int) : Int :=
 if k = 1 ∨ k = 2 ∨ k = 3 ∨ k = 12 then 0
 else if k = 5 ∨ k = 14 ∨ k = 16 ∨ k = 17 then 1
 else if k = 6 ∨ k = 7 ∨ k = 8 ∨ k = 10 ∨ k = 11 ∨ k = 15 ∨ k = 18 ∨ k = 19 then 2
 else if k = 9 then 3
 else -1
def AE (l : List Node) (kids : List Int) (d : Int) : Bool :=
 match kids with
 | k :: _ => decide (0 ≤ k) && decide (k < l.length) && decide ((l.getD k.toNat default).kind = d)
 | [] => false
def AP (nm : Node → Bool) (l : List Node) (n : Node) : Bool :=
 if n.pos < 0 ∨ (0 ≤ AJ n.kind ∧ (n.kids.length : Int) ≠ AJ n.kind) ∨ (n.kind ≠ 13 ∧ n.As ≠ []) ∨ (n.kind ≠ 1 ∧ n.kind ≠ 3 ∧ n.n ≠ 0) then false
 else if n.kind = 1 then (decide (0 ≤ n.n) && decide (n.n ≤ 4611686018427387903)) && decide (n.s = bs [])
 else if n.kind = 2 then true
 else if n.kind = 3 ∨ n.kind = 5 ∨ n.kind = 7 ∨ n.kind = 15 then nm n
 else if n.kind = 8 then nm n && AE l n.kids 5
 else if n.kind = 10 then opsL.any fun x => decide (n.s = x)
 else if n.kind = 4 then JK n.s n.kids.length (AG Node.kind l n.kids 11)
 else if n.kind = 6 ∨ n.kind = 9 ∨ n.kind = 11 ∨ n.kind = 12 ∨ n.kind = 14 ∨ n.kind = 16 ∨ n.kind = 17 ∨ n.kind = 18 ∨ n.kind = 19 then decide (n.s = bs [])
 else if n.kind = 13 then decide (n.s = bs []) && decide (1 ≤ (n.As.length : Int)) && decide ((n.kids.length : Int) = n.As.length + 1)
 else false
def BK (n : Node) : Bool := F0 n.s && decide (n.n = 0)
def AF (l : List Node) (i : Nat) : List Int := (l.getD i default).kids
def EY (c : Con) (m : Int) : Bool :=
 SN c.name && (if c.has then tyB c.arg.items else decide (c.arg.items = [])) && c.arg.items.all fun x => !(decide (x.name = bs []) && decide (m ≤ x.var))
def Hn (t : BP) : Bool :=
 F0 t.name && (decide (0 ≤ t.params) && decide (t.params ≤ 2)) && (decide (1 ≤ (t.cons.length : Int)) && decide ((t.cons.length : Int) ≤ 8)) && t.cons.all fun c => EY c t.params
def K0 (nm : Node → Bool) (p : Program) : Bool :=
 (decide (1 ≤ (p.nodes.length : Int)) && decide ((p.nodes.length : Int) ≤ 600)) && decide ((p.types.length : Int) ≤ 8) && Fw (AF p.nodes) p.nodes.length && p.nodes.all (AP nm p.nodes) && p.types.all Hn
def FJ (p : Program) : Bool := K0 BK p && p.nodes.all fun n => n.As.all fun q => Ft q.nodes
theorem Du {l : List Node} (hx : Ad.bulk l ≤ 1099511627776) {n : Node} (hn : n ∈ l) : n.kids.length ≤ 1099511627776 ∧ n.s.size ≤ 1099511627776 ∧ Ad.bulk n.As ≤ 1099511627776 ∧ n.As.length ≤ 1099511627776 := by
 have h1 := AW hn
 have h2 : Ad.bulk n = Ad.bulk n.kind + Ad.bulk n.pos + Ad.bulk n.n + Ad.bulk n.s + Ad.bulk n.kids + Ad.bulk n.As + 1 := rfl
 have h3 := Ao n.kids
 have h4 : Ad.bulk n.s = n.s.size + 1 := rfl
 have h5 := Ao n.As
 omega
end Go.Proofs.YtjbcnilllfaipaaGreat
set_option linter.unusedVariables false
namespace Go.Proofs.YtjbcnilllfaipaaGreat
open Go.RowKit Go.Proofs.YtjbcnilllfaipaaGreat.Av Go.Proofs.YtjbcnilllfaipaaGreat.Ml
open Go.Proofs.YtjbcnilllfaipaaGreat.Av.AVal (av)

inductive Tr where
 | mk (n : Node) (ks : List Tr)
theorem Tr.ind {P : Tr → Prop} (h : ∀ n ks, (∀ k ∈ ks, P k) → P (.mk n ks)) : ∀ t, P t
 | .mk n ks => h n ks fun k hk => Tr.ind h k
termination_by t => SizeOf.sizeOf t
decreasing_by
 have := List.sizeOf_lt_of_mem hk
 simp only [Tr.mk.sizeOf_spec]
 omega

mutual
def exA : Tr → AV
 | .mk n ks => .obj [.int .i64 n.kind, .int .i64 n.pos, .int .i64 n.n, .str n.s, .sl (Abp ks), .sl (n.As.map av)]
def Abp : List Tr → List AV
 | [] => []
 | t :: ts => exA t :: Abp ts
end
mutual
def Wa : Tr → AV
 | .mk n ks => .agg [.int .i64 n.kind, .int .i64 n.pos, .int .i64 n.n, .str n.s, .sl (n.kids.map av), .sl (n.As.map av), .sl (Ta ks)]
def Ta : List Tr → List AV
 | [] => []
 | t :: ts => Wa t :: Ta ts
end
theorem UT : ∀ ks, Abp ks = ks.map exA
 | [] => by rw [Abp]; rfl
 | t :: ts => by rw [Abp, UT ts]; rfl
theorem Qj : ∀ ks, Ta ks = ks.map Wa
 | [] => by rw [Ta]; rfl
 | t :: ts => by rw [Ta, Qj ts]; rfl
theorem Kq (n : Node) (ks : List Tr) : exA (.mk n ks) = .obj [.int .i64 n.kind, .int .i64 n.pos, .int .i64 n.n, .str n.s, .sl (ks.map exA), .sl (n.As.map av)] := by rw [exA, UT]
theorem Lt (n : Node) (ks : List Tr) : Wa (.mk n ks) = .agg [.int .i64 n.kind, .int .i64 n.pos, .int .i64 n.n, .str n.s, .sl (n.kids.map av), .sl (n.As.map av), .sl (ks.map Wa)] := by rw [Wa, Qj]
theorem ZK : ∀ t, Ac (exA t) := Tr.ind fun n ks ih => by
 rw [Kq]
 refine Ac.obj ?_
 simp only [List.mem_cons, List.not_mem_nil, or_false]
 rintro x (rfl | rfl | rfl | rfl | rfl | rfl)
 ·exact BL _
 ·exact BL _
 ·exact BL _
 ·exact Ac.str _
 ·refine Ac.sl fun e he y hy => ?_
  obtain ⟨k, hk, rfl⟩ := List.mem_map.1 he
  have h := ih k hk
  cases k with | mk m js =>
  rw [Kq] at hy h
  simp only [AV.cells, List.mem_cons, List.not_mem_nil, or_false] at hy
  subst hy
  exact h
 ·exact Aq n.As
theorem V9 : ∀ t, ∀ y ∈ (Wa t).cells, Ac y := Tr.ind fun n ks ih => by
 rw [Lt]
 simp only [AV.cells, List.mem_cons, List.not_mem_nil, or_false]
 rintro x (rfl | rfl | rfl | rfl | rfl | rfl | rfl)
 ·exact BL _
 ·exact BL _
 ·exact BL _
 ·exact Ac.str _
 ·exact Aq n.kids
 ·exact Aq n.As
 ·refine Ac.sl fun e he y hy => ?_
  obtain ⟨k, hk, rfl⟩ := List.mem_map.1 he
  exact ih k hk y hy
instance : AVal Tr := ⟨exA, 1, fun x => (by cases x; rw [Kq]; rfl), fun x => (by cases x; rw [Kq]; rfl), fun x y hy => (by
 have h := ZK x
 cases x with | mk n ks =>
 rw [Kq] at hy h
 simp only [AV.cells, List.mem_cons, List.not_mem_nil, or_false] at hy
 subst hy
 exact h), fun x hp => (by cases x; rw [Kq]; rfl), fun x y hy => (by
 cases x with | mk n ks =>
 rw [Kq] at hy
 simp only [AV.cells, List.mem_cons, List.not_mem_nil, or_false] at hy
 subst hy
 rfl)⟩
structure Sub where
 t : Tr
instance : AVal Sub := ⟨fun x => Wa x.t, 7, fun x => (by obtain ⟨⟨n, ks⟩⟩ := x; simp only [Lt]; rfl), fun x => (by obtain ⟨⟨n, ks⟩⟩ := x; simp only [Lt]; rfl), fun x y hy => V9 x.t y hy, fun x hp => (by obtain ⟨⟨n, ks⟩⟩ := x; simp only [Lt]; rfl), fun x y hy => (by
 obtain ⟨⟨n, ks⟩⟩ := x
 simp only [Lt, AV.cells, List.mem_cons, List.not_mem_nil, or_false] at hy
 rcases hy with rfl | rfl | rfl | rfl | rfl | rfl | rfl <;> rfl)⟩
theorem DU (n : Node) (ks : List Tr) : av (Tr.mk n ks) = .obj [.int .i64 n.kind, .int .i64 n.pos, .int .i64 n.n, .str n.s, .sl (ks.map av), .sl (n.As.map av)] := Kq n ks
mutual
def Tr.size : Tr → Nat
 | .mk _ ks => Tr.Lx ks + 1
def Tr.Lx : List Tr → Nat
 | [] => 0
 | t :: ts => t.size + Tr.Lx ts
end
def Aa0 (n : Node) (m : Nat) : Prop := (n.kind = 3 → m = 0) ∧ (n.kind = 13 → m = n.As.length + 1) ∧ Ad.bulk n ≤ 1099511627776
mutual
def Tr.ok : Tr → Prop
 | .mk n ks => Aa0 n ks.length ∧ Tr.oks ks
def Tr.oks : List Tr → Prop
 | [] => True
 | t :: ts => t.ok ∧ Tr.oks ts
end
def Hf (l : List Node) : Nat → Nat → Tr
 | 0, _ => .mk default []
 | f + 1, i => .mk (l.getD i default) ((AF l i).map fun k => Hf l f k.toNat)
theorem UE (l : List Node) (hk : ∀ i, i < l.length → ∀ k ∈ AF l i, (i : Int) < k ∧ k < l.length) : ∀ (f g i : Nat), i < l.length → l.length - i ≤ f → l.length - i ≤ g → Hf l f i = Hf l g i
 | 0, g, i, hi, hf, _ => by omega
 | f + 1, 0, i, hi, _, hg => by omega
 | f + 1, g + 1, i, hi, hf, hg => by
  rw [Hf, Hf]
  congr 1
  refine List.map_congr_left fun k hk' => ?_
  have := hk i hi k hk'
  exact UE l hk f g k.toNat (by omega) (by omega) (by omega)
def AD (l : List Node) (i : Nat) : Tr := Hf l l.length i
theorem B3 {l : List Node} (hk : ∀ i, i < l.length → ∀ k ∈ AF l i, (i : Int) < k ∧ k < l.length) {i : Nat} (hi : i < l.length) : AD l i = .mk (l.getD i default) ((AF l i).map fun k => AD l k.toNat) := by
 unfold AD
 obtain ⟨m, hm⟩ : ∃ m, l.length = m + 1 := ⟨l.length - 1, by omega⟩
 rw [hm, Hf]
 congr 1
 refine List.map_congr_left fun k hk' => ?_
 have := hk i hi k hk'
 rw [UE l hk m (m + 1) k.toNat (by omega) (by omega) (by omega)]
end Go.Proofs.YtjbcnilllfaipaaGreat
set_option linter.unusedVariables false
set_option linter.unusedSimpArgs false
namespace Go.Proofs.YtjbcnilllfaipaaGreat
open Go.RowKit Go.Proofs.YtjbcnilllfaipaaGreat.Av Go.Proofs.YtjbcnilllfaipaaGreat.Ml
open Go.Proofs.YtjbcnilllfaipaaGreat.Av.AVal (av)

mutual
inductive EV where
 | int (n : Int)
 | str (s : ByteArray)
 | unit
 | EZ (s : ByteArray)
 | Gl (s : ByteArray) (v : EV)
 | pair (a b : EV)
 | fn (i : Nat) (nm : ByteArray) (e : EE)
 | ref (j : Nat)
 | given (s : ByteArray)
inductive EE where
 | nil
 | cons (s : ByteArray) (v : EV) (up : EE)
end
instance : Inhabited EV := ⟨.unit⟩
structure ES where
 steps : Nat
 inp : List Int
 tr : List ByteArray
 refs : List EV
 stop : Int
 n : Int
def ES.bad (st : ES) : ES := { st with stop := 4, n := 0 }
def ES.raise (st : ES) (m : Int) : ES := { st with stop := 2, n := m }
def ES.out (st : ES) : ES := { st with stop := 3, n := 0 }
def ES.tick (st : ES) : ES := { st with steps := st.steps + 1 }
def EE.look (s : ByteArray) : EE → Option EV
 | .nil => none
 | .cons t v up => if t = s then some v else up.look s
def Ko : List ByteArray := [bs [112, 114, 105, 110, 116], bs [115, 97, 121], bs [114, 101, 97, 100], bs [115, 105, 122, 101]]
def DR (s : ByteArray) (e : EE) : Option EV :=
 match e.look s with
 | some v => some v
 | none => if Ko.any (fun x => decide (s = x)) = true then some (.given s) else none
def DD (h : Hd) (m : Nat) (v : EV) : Option (List EV) :=
 if h.kind = 3 then (match v with
  | .int n => if n = h.n then some [] else none
  | _ => none)
 else if h.kind = 6 then (match v with
  | .unit => some []
  | _ => none)
 else if h.kind = 5 then (match v with
  | .pair a b => some [a, b]
  | _ => none)
 else (match v with
  | .EZ s => if s = h.s ∧ m = 0 then some [] else none
  | .Gl s a => if s = h.s ∧ m = 1 then some [a] else none
  | _ => none)
mutual
def EL : Px → EV → EE → EE × Bool
 | .mk h ks, v, e =>
  if h.kind = 1 then (e, true)
  else if h.kind = 2 then (.cons h.s v e, true)
  else match DD h ks.length v with
   | some vs => Cn ks vs e
   | none => (e, false)
def Cn : List Px → List EV → EE → EE × Bool
 | [], _, e => (e, true)
 | k :: ks, vs, e => if (EL k (vs.headD default) e).2 = true then Cn ks vs.tail (EL k (vs.headD default) e).1 else ((EL k (vs.headD default) e).1, false)
end
def NL (q : Px) (v : EV) (e : EE) : Option EE := if (EL q v e).2 = true then some (EL q v e).1 else none
def Gr : List Px → EV → EE → Nat → Option (Nat × EE)
 | [], _, _, _ => none
 | q :: r, v, e, i => match NL q v e with
  | some e' => some (i, e')
  | none => Gr r v e (i + 1)
def Bm (s : ByteArray) (v : EV) (st : ES) : Option EV × ES :=
 match v with
 | .int n => if s = bs [112, 114, 105, 110, 116] then (some .unit, { st with tr := st.tr ++ [HR n] }) else (none, st.bad)
 | .str t => if s = bs [115, 97, 121] then (some .unit, { st with tr := st.tr ++ [t] }) else if s = bs [115, 105, 122, 101] then (some (.int t.size), st) else (none, st.bad)
 | .unit => if s = bs [114, 101, 97, 100] then (match st.inp with
  | [] => (none, st.raise (-3))
  | x :: r => (some (.int (wr x)), { st with inp := r })) else (none, st.bad)
 | _ => (none, st.bad)
def Ce (s : ByteArray) (a b : EV) (st : ES) : Option EV × ES :=
 if s = bs [94] then (match a, b with
  | .str x, .str y => if 1000 < x.size + y.size then (none, st.raise (-4)) else (some (.str (x ++ y)), st)
  | _, _ => (none, st.bad))
 else (match a, b with
  | .int x, .int y => if (ET s x y).2.2 = true then (if (ET s x y).2.1 = true then (some (.EZ (PV (ET s x y).1)), st) else (some (.int (ET s x y).1), st)) else (none, st.raise (-2))
  | _, _ => (none, st.bad))
def kd (l : List Node) (i j : Nat) : Nat := ((AF l i).getD j 0).toNat
def DY (q : Pat) : Px := Dc (phd q.nodes) (B8 q.nodes) q.nodes.length 0
def Cp (r : Option EV × ES) (k : EV → ES → Option EV × ES) : Option EV × ES :=
 match r with
 | (some v, st) => k v st
 | (none, st) => (none, st)
abbrev GoE := EE → ES → Option EV × ES
def DO (l : List Node) (n : Node) (app : Nat → GoE) (a b : EV) (st : ES) : Option EV × ES :=
 if n.kind = 6 then (match a with
  | .fn i' nm env => app i' (.cons (l.getD i' default).s b (if nm = bs [] then env else .cons nm a env)) st
  | .given s => Bm s b st
  | _ => (none, st.bad))
 else if n.kind = 10 then Ce n.s a b st
 else if n.kind = 11 then (some (.pair a b), st)
 else (match a with
  | .ref j => (some .unit, { st with refs := st.refs.set j b })
  | _ => (none, st.bad))
def Cf (l : List Node) (n : Node) (go app : Nat → GoE) (e : EE) (a : EV) (st : ES) : Option EV × ES :=
 if n.kind = 7 then go 1 (.cons n.s a e) st
 else if n.kind = 9 then (match a with
  | .EZ s => if s = bs [116, 114, 117, 101] then go 1 e st else if s = bs [102, 97, 108, 115, 101] then go 2 e st else (none, st.bad)
  | _ => (none, st.bad))
 else if n.kind = 13 then (match Gr (n.As.map DY) a e 0 with
  | some (j, e') => go (j + 1) e' st
  | none => (none, st.raise (-1)))
 else if n.kind = 19 then (match a with
  | .unit => go 1 e st
  | _ => (none, st.bad))
 else if n.kind = 14 then (match a with
  | .int m => (none, st.raise m)
  | _ => (none, st.bad))
 else if n.kind = 16 then (some (.ref st.refs.length), { st with refs := st.refs ++ [a] })
 else if n.kind = 17 then (match a with
  | .ref j => (some (st.refs.getD j default), st)
  | _ => (none, st.bad))
 else Cp (go 1 e st) fun b st2 => DO l n app a b st2
def Ho (l : List Node) (M : Nat) (n : Node) (i : Nat) (go app : Nat → GoE) (e : EE) (st : ES) : Option EV × ES :=
 if n.kind = 1 then (some (.int n.n), st)
 else if n.kind = 2 then (some (.str n.s), st)
 else if n.kind = 12 then (some .unit, st)
 else if n.kind = 3 then (match DR n.s e with
  | some v => (some v, st)
  | none => (none, st.bad))
 else if n.kind = 5 then (some (.fn i (bs []) e), st)
 else if n.kind = 8 then (if M ≤ st.steps then (none, st.out) else go 1 (.cons n.s (.fn (kd l i 0) n.s e) e) st.tick)
 else if n.kind = 15 then (match go 0 e st with
  | (some v, st1) => (some v, st1)
  | (none, st1) => if st1.stop = 2 then go 1 (.cons n.s (.int st1.n) e) { st1 with stop := 0 } else (none, st1))
 else if n.kind = 4 then (if n.kids.length = 0 then (some (.EZ n.s), st) else Cp (go 0 e st) fun v st1 => (some (.Gl n.s v), st1))
 else Cp (go 0 e st) fun a st1 => Cf l n go app e a st1
def An (l : List Node) (M : Nat) : Nat → Nat → GoE
 | 0, _, _, st => (none, st.out)
 | f + 1, i, e, st => if M ≤ st.steps then (none, st.out) else Ho l M (l.getD i default) i (fun j e st => An l M f (kd l i j) e st) (fun i' e st => An l M f (kd l i' 0) e st) e st.tick
end Go.Proofs.YtjbcnilllfaipaaGreat
set_option linter.unusedVariables false
set_option maxRecDepth 100000
namespace Go.Proofs.YtjbcnilllfaipaaGreat
open Go.Proofs.YtjbcnilllfaipaaGreat.Av

theorem Dp : Tryz.prog.follows .mixedOrders = true := by kernel_rfl

def LZ : Ir Tryz.prog 77 [] [] 2 := ⟨_, _, Tryz.func77, Dp, by kernel_rfl, Ag [] Tryz.progTables (by conv => lhs; cbv) (by kernel_rfl)⟩
def LV : Ir Tryz.prog 78 [] [] 2 := ⟨_, _, Tryz.func78, Dp, by kernel_rfl, Ag [] Tryz.progTables (by conv => lhs; cbv) (by kernel_rfl)⟩
def LX : Ir Tryz.prog 79 [] [] 2 := ⟨_, _, Tryz.func79, Dp, by kernel_rfl, Ag [] Tryz.progTables (by conv => lhs; cbv) (by kernel_rfl)⟩
def LY : Ir Tryz.prog 80 [] [] 2 := ⟨_, _, Tryz.func80, Dp, by kernel_rfl, Ag [] Tryz.progTables (by conv => lhs; cbv) (by kernel_rfl)⟩
def LW : Ir Tryz.prog 81 [] [] 2 := ⟨_, _, Tryz.func81, Dp, by kernel_rfl, Ag [] Tryz.progTables (by conv => lhs; cbv) (by kernel_rfl)⟩
def Jj : Ir Tryz.prog 82 [] [] 1 := ⟨_, _, Tryz.func82, Dp, by kernel_rfl, Ag [] Tryz.progTables (by conv => lhs; cbv) (by kernel_rfl)⟩
def Jh : Ir Tryz.prog 40 [] [9999] 3 := ⟨_, _, Tryz.func40, Dp, by kernel_rfl, Ag [] Tryz.progTables (by conv => lhs; cbv) (by kernel_rfl)⟩
def Bs : Ir Tryz.prog 46 [(133, 7777), (23, 7777), (35, 7777), (53, 7777)] [9999] 4 := ⟨_, _, Tryz.func46, Dp, by kernel_rfl, Ag [] Tryz.progTables (by conv => lhs; cbv) (by kernel_rfl)⟩
end Go.Proofs.YtjbcnilllfaipaaGreat
set_option linter.unusedVariables false
set_option maxRecDepth 100000
namespace Go.Proofs.YtjbcnilllfaipaaGreat
open Go.Proofs.YtjbcnilllfaipaaGreat.Av

theorem C6 : Tryz.prog.follows .mixedOrders = true := by kernel_rfl

def L4 : Ir Tryz.prog 147 [] [] 1 := ⟨_, _, Tryz.func147, C6, by kernel_rfl, Ag [] Tryz.progTables (by conv => lhs; cbv) (by kernel_rfl)⟩
def L9 : Ir Tryz.prog 149 [(7,0)] [] 2 := ⟨_, _, Tryz.func149, C6, by kernel_rfl, Ag [] Tryz.progTables (by conv => lhs; cbv) (by kernel_rfl)⟩
def L5 : Ir Tryz.prog 150 [(7,0)] [] 2 := ⟨_, _, Tryz.func150, C6, by kernel_rfl, Ag [] Tryz.progTables (by conv => lhs; cbv) (by kernel_rfl)⟩
def L7 : Ir Tryz.prog 151 [(7,0)] [] 2 := ⟨_, _, Tryz.func151, C6, by kernel_rfl, Ag [] Tryz.progTables (by conv => lhs; cbv) (by kernel_rfl)⟩
def L8 : Ir Tryz.prog 152 [] [] 2 := ⟨_, _, Tryz.func152, C6, by kernel_rfl, Ag [] Tryz.progTables (by conv => lhs; cbv) (by kernel_rfl)⟩
def L6 : Ir Tryz.prog 153 [] [] 2 := ⟨_, _, Tryz.func153, C6, by kernel_rfl, Ag [] Tryz.progTables (by conv => lhs; cbv) (by kernel_rfl)⟩
def Kg : Ir Tryz.prog 148 [] [] 1 := ⟨_, _, Tryz.func148, C6, by kernel_rfl, Ag [] Tryz.progTables (by conv => lhs; cbv) (by kernel_rfl)⟩
def CZ : Ir Tryz.prog 132 [] [] 3 := ⟨_, _, Tryz.func132, C6, by kernel_rfl, Ag [] Tryz.progTables (by conv => lhs; cbv) (by kernel_rfl)⟩
def FO : Ir Tryz.prog 133 [] [] 1 := ⟨_, _, Tryz.func133, C6, by kernel_rfl, Ag [] Tryz.progTables (by conv => lhs; cbv) (by kernel_rfl)⟩
end Go.Proofs.YtjbcnilllfaipaaGreat
