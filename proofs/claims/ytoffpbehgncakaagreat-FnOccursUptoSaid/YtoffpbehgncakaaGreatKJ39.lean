/-
  THE ABSTRACT TEXTS OF FUNCTIONS (Grow), printed by irgen.py, and that they are the functions' own. Conditions: none.
-/
import Derived.Test.YtoffpbehgncakaaGreatProg
import Derived.Test.YtoffpbehgncakaaGreatKAvDraw
import Derived.Test.YtoffpbehgncakaaGreatKJ06
import Derived.Test.YtoffpbehgncakaaGreatKWords
import Derived.Test.YtoffpbehgncakaaGreatKJ13
import Derived.Test.YtoffpbehgncakaaGreatKJ19
set_option linter.unusedVariables false
set_option maxRecDepth 100000
namespace Go.Proofs.YtoffpbehgncakaaGreat
open Go.Proofs.YtoffpbehgncakaaGreat.Av

theorem ED : Tryz.prog.follows .mixedOrders = true := by kernel_rfl

def Cj : Ir Tryz.prog 148 [(5,8)] [9999] 1 := ⟨_, _, Tryz.func148, ED, by kernel_rfl, AA [] Tryz.progTables (by conv => lhs; cbv) (by kernel_rfl)⟩
def Ej : Ir Tryz.prog 149 [(4,7776)] [] 1 := ⟨_, _, Tryz.func149, ED, by kernel_rfl, AA [] Tryz.progTables (by conv => lhs; cbv) (by kernel_rfl)⟩
def HX : Ir Tryz.prog 85 [(8, 7777)] [] 1 := ⟨_, _, Tryz.func85, ED, by kernel_rfl, AA [] Tryz.progTables (by conv => lhs; cbv) (by kernel_rfl)⟩
def G3 : Ir Tryz.prog 46 [] [] 1 := ⟨_, _, Tryz.func46, ED, by kernel_rfl, AA [] Tryz.progTables (by conv => lhs; cbv) (by kernel_rfl)⟩
def Kz : Ir Tryz.prog 19 [(25,25)] [] 2 := ⟨_, _, Tryz.func19, ED, by kernel_rfl, AA [] Tryz.progTables (by conv => lhs; cbv) (by kernel_rfl)⟩
end Go.Proofs.YtoffpbehgncakaaGreat
set_option linter.unusedVariables false
set_option maxRecDepth 100000
namespace Go.Proofs.YtoffpbehgncakaaGreat
open Go.Proofs.YtoffpbehgncakaaGreat.Av

theorem Ot : Tryz.prog.follows .mixedOrders = true := by kernel_rfl

def G1 : Ir Tryz.prog 39 [] [] 1 := ⟨_, _, Tryz.func39, Ot, by kernel_rfl, AA [] Tryz.progTables (by conv => lhs; cbv) (by kernel_rfl)⟩
end Go.Proofs.YtoffpbehgncakaaGreat
set_option linter.unusedVariables false
set_option maxRecDepth 100000
namespace Go.Proofs.YtoffpbehgncakaaGreat
open Go.Proofs.YtoffpbehgncakaaGreat.Av

theorem BL : Tryz.prog.follows .mixedOrders = true := by kernel_rfl

def Jy : Ir Tryz.prog 109 [] [] 1 := ⟨_, _, Tryz.func109, BL, by kernel_rfl, AA [] Tryz.progTables (by conv => lhs; cbv) (by kernel_rfl)⟩
def Cv : Ir Tryz.prog 65 [] [] 3 := ⟨_, _, Tryz.func65, BL, by kernel_rfl, AA [] Tryz.progTables (by conv => lhs; cbv) (by kernel_rfl)⟩
def DB : Ir Tryz.prog 68 [] [] 1 := ⟨_, _, Tryz.func68, BL, by kernel_rfl, AA [] Tryz.progTables (by conv => lhs; cbv) (by kernel_rfl)⟩
def D7 : Ir Tryz.prog 32 [] [] 2 := ⟨_, _, Tryz.func32, BL, by kernel_rfl, AA [] Tryz.progTables (by conv => lhs; cbv) (by kernel_rfl)⟩
def Gj : Ir Tryz.prog 64 [] [] 2 := ⟨_, _, Tryz.func64, BL, by kernel_rfl, AA [] Tryz.progTables (by conv => lhs; cbv) (by kernel_rfl)⟩
def Gi : Ir Tryz.prog 67 [] [] 1 := ⟨_, _, Tryz.func67, BL, by kernel_rfl, AA [] Tryz.progTables (by conv => lhs; cbv) (by kernel_rfl)⟩
def Gl : Ir Tryz.prog 12 [] [] 1 := ⟨_, _, Tryz.func12, BL, by kernel_rfl, AA [] Tryz.progTables (by conv => lhs; cbv) (by kernel_rfl)⟩
def Fs : Ir Tryz.prog 33 [] [] 1 := ⟨_, _, Tryz.func33, BL, by kernel_rfl, AA [] Tryz.progTables (by conv => lhs; cbv) (by kernel_rfl)⟩
def Fq : Ir Tryz.prog 36 [] [] 1 := ⟨_, _, Tryz.func36, BL, by kernel_rfl, AA [] Tryz.progTables (by conv => lhs; cbv) (by kernel_rfl)⟩
def HD : Ir Tryz.prog 105 [] [] 1 := ⟨_, _, Tryz.func105, BL, by kernel_rfl, AA [] Tryz.progTables (by conv => lhs; cbv) (by kernel_rfl)⟩
def AU : Ir Tryz.prog 58 [] [] 2 := ⟨_, _, Tryz.func58, BL, by kernel_rfl, AA [] Tryz.progTables (by conv => lhs; cbv) (by kernel_rfl)⟩
def Fe : Ir Tryz.prog 59 [] [] 2 := ⟨_, _, Tryz.func59, BL, by kernel_rfl, AA [] Tryz.progTables (by conv => lhs; cbv) (by kernel_rfl)⟩
def Ev : Ir Tryz.prog 57 [] [] 2 := ⟨_, _, Tryz.func57, BL, by kernel_rfl, AA [] Tryz.progTables (by conv => lhs; cbv) (by kernel_rfl)⟩
def Ey : Ir Tryz.prog 29 [] [] 1 := ⟨_, _, Tryz.func29, BL, by kernel_rfl, AA [] Tryz.progTables (by conv => lhs; cbv) (by kernel_rfl)⟩
end Go.Proofs.YtoffpbehgncakaaGreat
set_option linter.unusedVariables false
set_option maxRecDepth 100000
namespace Go.Proofs.YtoffpbehgncakaaGreat
open Go.Proofs.YtoffpbehgncakaaGreat.Av

theorem LO : Tryz.prog.follows .mixedOrders = true := by kernel_rfl

def HS : Ir Tryz.prog 110 [] [] 0 := ⟨_, _, Tryz.func110, LO, by kernel_rfl, AA [] Tryz.progTables (by conv => lhs; cbv) (by kernel_rfl)⟩
def HC : Ir Tryz.prog 102 [] [] 1 := ⟨_, _, Tryz.func102, LO, by kernel_rfl, AA [] Tryz.progTables (by conv => lhs; cbv) (by kernel_rfl)⟩
end Go.Proofs.YtoffpbehgncakaaGreat
set_option linter.unusedVariables false
set_option linter.unusedSimpArgs false
set_option maxRecDepth 100000
namespace Go.Proofs.YtoffpbehgncakaaGreat
open Go.RowKit Go.Proofs.YtoffpbehgncakaaGreat.Av Go.Proofs.YtoffpbehgncakaaGreat.Ml
open Go.Proofs.YtoffpbehgncakaaGreat.Av.AVal (av)

def opsL : List ByteArray := [bs [43], bs [45], bs [42], bs [47], bs [37], bs [94], bs [61], bs [60, 62], bs [60], bs [60, 61]]
theorem Wd : opsL.map av = [.str (bs [43]), .str (bs [45]), .str (bs [42]), .str (bs [47]), .str (bs [37]), .str (bs [94]), .str (bs [61]), .str (bs [60, 62]), .str (bs [60]), .str (bs [60, 61])] := rfl
theorem UF : AH Tryz.prog 110 [] (.sl (opsL.map av)) := by
 refine HS.F rfl (by simp) (AQ opsL) ?_
 simp +contextual -dsimp only [↓SD, SU, simprocAttr, HS, Wd]
theorem BT (s : ByteArray) : AH Tryz.prog 102 [.str s] (.bool (opsL.any (fun x => decide (s = x)))) := by
 refine HC.F rfl (by simp; exact Ap.str _) (Ap.bool _) ?_
 simp +contextual -dsimp only [↓SD, SU, simprocAttr, HC]
 refine AB (X := Nat) (fun k => ⟨[(0, .str s), (5, .sl (opsL.map av)), (6, .int .i64 opsL.length), (7, .int .i64 k)], []⟩) (fun k => k ≤ opsL.length ∧ (opsL.take k).all (fun x => !decide (s = x)) = true) (fun k => opsL.length - k) 0 ⟨Nat.zero_le _, rfl⟩ (by simp +contextual -dsimp only [↓SD, SU, simprocAttr, Wd]; rfl) trivial ?_
 intro k ⟨hk, hpk⟩
 have hk10 : opsL.length = 10 := rfl
 by_cases hlt : k < opsL.length
 ·have e := getD_map (av (α := ByteArray)) opsL k .top hlt
  simp +contextual -dsimp only [↓SD, SU, simprocAttr, Aa, e, Ec, hlt]
  refine ⟨fun h1 => ?_, fun h1 => ⟨by omega, ?_⟩⟩
  ·rw [List.any_eq_true.2 ⟨opsL[k], List.getElem_mem hlt, by simp [h1]⟩]
  ·exact Ai.le ⟨k + 1, ⟨⟨hlt, by rw [A5 _ hlt hpk]; simp [h1]⟩, (by first | omega | (simp only; omega))⟩, rfl⟩ (by simp +contextual -dsimp only [↓SD, SU, simprocAttr, Int.natCast_add]) trivial
 ·obtain rfl : k = opsL.length := by omega
  rw [List.take_length] at hpk
  have : opsL.any (fun x => decide (s = x)) = false := by
   rw [List.any_eq_false]; intro x hx; simpa using List.all_eq_true.1 hpk x hx
  simp +contextual -dsimp only [↓SD, SU, simprocAttr, Aa, Nat.lt_irrefl, this]
end Go.Proofs.YtoffpbehgncakaaGreat
set_option linter.unusedVariables false
namespace Go.Proofs.YtoffpbehgncakaaGreat
open Go.RowKit Go.Proofs.YtoffpbehgncakaaGreat.Av Go.Proofs.YtoffpbehgncakaaGreat.Ml
open Go.Proofs.YtoffpbehgncakaaGreat.Av.AVal (av)

def Ep : Nat → List Nat → Option (List Nat)
 | 0, l => some l
 | _ + 1, [] => none
 | c + 1, a :: l => Ep (a + c) l
termination_by _ l => l.length
theorem D9 (l : List Nat) : Ep 0 l = some l := by rw [Ep]
theorem GJ (c : Nat) : Ep (c + 1) [] = none := by rw [Ep]
theorem FL (c a : Nat) (l : List Nat) : Ep (c + 1) (a :: l) = Ep (a + c) l := by rw [Ep]
theorem XJ : ∀ (l : List Nat) (a c : Nat), Ep (a + c) l = (Ep a l).bind (Ep c) := by
 intro l
 induction l with
 | nil =>
  intro a c
  cases a with
  | zero => rw [Nat.zero_add, D9]; rfl
  | succ a => rw [show a + 1 + c = (a + c) + 1 by omega, GJ, GJ]; rfl
 | cons x l ih =>
  intro a c
  cases a with
  | zero => rw [Nat.zero_add, D9]; rfl
  | succ a => rw [show a + 1 + c = (a + c) + 1 by omega, FL, FL, ← Nat.add_assoc, ih]
theorem OI : ∀ (l : List Nat) (c : Nat) (r : List Nat), Ep c l = some r → r.length ≤ l.length ∧ r = l.drop (l.length - r.length) ∧ (0 < c → r.length < l.length) := by
 intro l
 induction l with
 | nil =>
  intro c r h
  cases c with
  | zero => rw [D9] at h; cases h; simp
  | succ c => rw [GJ] at h; cases h
 | cons x l ih =>
  intro c r h
  cases c with
  | zero => rw [D9] at h; cases h; simp
  | succ c =>
   rw [FL] at h
   obtain ⟨h1, h2, h3⟩ := ih _ _ h
   refine ⟨by simp; omega, ?_, fun _ => by simp; omega⟩
   rw [List.length_cons, show l.length + 1 - r.length = (l.length - r.length) + 1 by omega, List.drop_succ_cons]
   exact h2
def GR (e : Nat → Option Nat) : Nat → Nat → Option Nat
 | 0, p => some p
 | c + 1, p => (e p).bind (GR e c)
def Gx (A : List Nat) : Nat → Nat → Option Nat
 | 0, _ => none
 | f + 1, p => if p < A.length then GR (Gx A f) (A.getD p 0) (p + 1) else none
theorem PG (A : List Nat) : ∀ (f p : Nat), A.length - p < f → Gx A f p = (Ep 1 (A.drop p)).map (fun r => A.length - r.length)
 | 0, p, h => by omega
 | f + 1, p, h => by
  -- c types behind p
  have hit : ∀ c q, p < q → q ≤ A.length → GR (Gx A f) c q = (Ep c (A.drop q)).map (fun r => A.length - r.length) := by
   intro c
   induction c with
   | zero => intro q _ hq; rw [D9]; simp [GR]; omega
   | succ c ih =>
    intro q hpq hq
    rw [GR, PG A f q (by omega), Nat.add_comm c 1, XJ]
    cases hs : Ep 1 (A.drop q) with
    | none => rfl
    | some r =>
     obtain ⟨h1, h2, h3⟩ := OI _ _ _ hs
     have h4 := h3 (by omega)
     rw [List.length_drop] at h1 h2 h4
     simp only [Option.map_some, Option.bind_some]
     rw [ih _ (by omega) (by omega)]
     congr 1
     rw [List.drop_drop] at h2
     rw [h2, List.length_drop]
     congr 1; congr 1; omega
  unfold Gx
  by_cases hp : p < A.length
  ·rw [if_pos hp, hit _ _ (by omega) (by omega), List.drop_eq_getElem_cons hp, FL, Nat.add_zero]
   simp [List.getD_eq_getElem?_getD, hp]
  ·rw [if_neg hp, List.drop_of_length_le (by omega), GJ]; rfl

def EK (x : Bs) : Bool :=
 if x.name = bs [] then (decide (0 ≤ x.var) && decide (x.var ≤ 9999)) && decide (x.arity = 0)
 else if x.var = 0 then
  if x.name = bs [45, 62] ∨ x.name = bs [42] then decide (x.arity = 2)
  else if x.name = bs [114, 101, 102] then decide (x.arity = 1)
  else Eu x.name && (decide (0 ≤ x.arity) && decide (x.arity ≤ 2))
 else false
theorem SI {x : Bs} (h : EK x = true) : 0 ≤ x.arity ∧ x.arity ≤ 2 := by
 unfold EK at h
 split at h
 ·simp only [Bool.and_eq_true, decide_eq_true_eq] at h; omega
 ·split at h
  ·split at h
   ·simp only [decide_eq_true_eq] at h; omega
   ·split at h
    ·simp only [decide_eq_true_eq] at h; omega
    ·simp only [Bool.and_eq_true, decide_eq_true_eq] at h; omega
  ·cases h
def arL (l : List Bs) : List Nat := l.map fun x => x.arity.toNat
def Eo (l : List Bs) : Bool := l.all EK && decide (Ep 1 (arL l) = some [])
def tyB (l : List Bs) : Bool := decide ((l.length : Int) ≤ 200) && Eo l
end Go.Proofs.YtoffpbehgncakaaGreat
set_option linter.unusedVariables false
namespace Go.Proofs.YtoffpbehgncakaaGreat
open Go.RowKit Go.Proofs.YtoffpbehgncakaaGreat.Av Go.Proofs.YtoffpbehgncakaaGreat.Ml
open Go.Proofs.YtoffpbehgncakaaGreat.Av.AVal (av)

def A0 (k : Int) : Int :=
 if k = 1 ∨ k = 2 ∨ k = 3 ∨ k = 12 then 0
 else if k = 5 ∨ k = 14 ∨ k = 16 ∨ k = 17 then 1
 else if k = 6 ∨ k = 7 ∨ k = 8 ∨ k = 10 ∨ k = 11 ∨ k = 15 ∨ k = 18 ∨ k = 19 then 2
 else if k = 9 then 3
 else -1
def AK (l : List Node) (kids : List Int) (d : Int) : Bool :=
 match kids with
 | k :: _ => decide (0 ≤ k) && decide (k < l.length) && decide ((l.getD k.toNat default).kind = d)
 | [] => false
def A1 (nm : Node → Bool) (l : List Node) (n : Node) : Bool :=
 if n.pos < 0 ∨ (0 ≤ A0 n.kind ∧ (n.kids.length : Int) ≠ A0 n.kind) ∨ (n.kind ≠ 13 ∧ n.AL ≠ []) ∨ (n.kind ≠ 1 ∧ n.kind ≠ 3 ∧ n.n ≠ 0) then false
 else if n.kind = 1 then (decide (0 ≤ n.n) && decide (n.n ≤ 4611686018427387903)) && decide (n.s = bs [])
 else if n.kind = 2 then true
 else if n.kind = 3 ∨ n.kind = 5 ∨ n.kind = 7 ∨ n.kind = 15 then nm n
 else if n.kind = 8 then nm n && AK l n.kids 5
 else if n.kind = 10 then opsL.any fun x => decide (n.s = x)
 else if n.kind = 4 then Ik n.s n.kids.length (AM Node.kind l n.kids 11)
 else if n.kind = 6 ∨ n.kind = 9 ∨ n.kind = 11 ∨ n.kind = 12 ∨ n.kind = 14 ∨ n.kind = 16 ∨ n.kind = 17 ∨ n.kind = 18 ∨ n.kind = 19 then decide (n.s = bs [])
 else if n.kind = 13 then decide (n.s = bs []) && decide (1 ≤ (n.AL.length : Int)) && decide ((n.kids.length : Int) = n.AL.length + 1)
 else false
def BC (n : Node) : Bool := Eu n.s && decide (n.n = 0)
def BZ (l : List Node) (i : Nat) : List Int := (l.getD i default).kids
def DR (c : Con) (m : Int) : Bool :=
 NC c.name && (if c.has then tyB c.arg.items else decide (c.arg.items = [])) && c.arg.items.all fun x => !(decide (x.name = bs []) && decide (m ≤ x.var))
def F9 (t : Dm) : Bool :=
 Eu t.name && (decide (0 ≤ t.params) && decide (t.params ≤ 2)) && (decide (1 ≤ (t.cons.length : Int)) && decide ((t.cons.length : Int) ≤ 8)) && t.cons.all fun c => DR c t.params
def K3 (nm : Node → Bool) (p : Program) : Bool :=
 (decide (1 ≤ (p.nodes.length : Int)) && decide ((p.nodes.length : Int) ≤ 600)) && decide ((p.types.length : Int) ≤ 8) && Eg (BZ p.nodes) p.nodes.length && p.nodes.all (A1 nm p.nodes) && p.types.all F9
def Fo (p : Program) : Bool := K3 BC p && p.nodes.all fun n => n.AL.all fun q => F5 q.nodes
theorem Dy {l : List Node} (hx : AE.bulk l ≤ 1099511627776) {n : Node} (hn : n ∈ l) : n.kids.length ≤ 1099511627776 ∧ n.s.size ≤ 1099511627776 ∧ AE.bulk n.AL ≤ 1099511627776 ∧ n.AL.length ≤ 1099511627776 := by
 have h1 := CY hn
 have h2 : AE.bulk n = AE.bulk n.kind + AE.bulk n.pos + AE.bulk n.n + AE.bulk n.s + AE.bulk n.kids + AE.bulk n.AL + 1 := rfl
 have h3 := A2 n.kids
 have h4 : AE.bulk n.s = n.s.size + 1 := rfl
 have h5 := A2 n.AL
 omega
end Go.Proofs.YtoffpbehgncakaaGreat
set_option linter.unusedVariables false
set_option maxRecDepth 100000
namespace Go.Proofs.YtoffpbehgncakaaGreat
open Go.Proofs.YtoffpbehgncakaaGreat.Av

theorem E0 : Tryz.prog.follows .mixedOrders = true := by kernel_rfl

def Ky : Ir Tryz.prog 161 [] [] 1 := ⟨_, _, Tryz.func161, E0, by kernel_rfl, AA [] Tryz.progTables (by conv => lhs; cbv) (by kernel_rfl)⟩
def IM : Ir Tryz.prog 181 [] [] 1 := ⟨_, _, Tryz.func181, E0, by kernel_rfl, AA [] Tryz.progTables (by conv => lhs; cbv) (by kernel_rfl)⟩
def Hl : Ir Tryz.prog 114 [] [] 1 := ⟨_, _, Tryz.func114, E0, by kernel_rfl, AA [] Tryz.progTables (by conv => lhs; cbv) (by kernel_rfl)⟩
def D3 : Ir Tryz.prog 156 [] [] 1 := ⟨_, _, Tryz.func156, E0, by kernel_rfl, AA [] Tryz.progTables (by conv => lhs; cbv) (by kernel_rfl)⟩
def FQ : Ir Tryz.prog 157 [] [] 2 := ⟨_, _, Tryz.func157, E0, by kernel_rfl, AA [] Tryz.progTables (by conv => lhs; cbv) (by kernel_rfl)⟩
def Kx : Ir Tryz.prog 101 [] [] 1 := ⟨_, _, Tryz.func101, E0, by kernel_rfl, AA [] Tryz.progTables (by conv => lhs; cbv) (by kernel_rfl)⟩
end Go.Proofs.YtoffpbehgncakaaGreat
