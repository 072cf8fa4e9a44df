/-
  THE ABSTRACT TEXTS OF FUNCTIONS (MText), printed by irgen.py, and that they are the functions' own. Conditions: none.
-/
import Derived.Test.YteeiaaogmjbcjaaGreatProg
import Derived.Test.YteeiaaogmjbcjaaGreatKAvDraw
import Derived.Test.YteeiaaogmjbcjaaGreatKJ06
import Derived.Test.YteeiaaogmjbcjaaGreatKJ16
import Derived.Test.YteeiaaogmjbcjaaGreatRows
import Derived.Test.YteeiaaogmjbcjaaGreatKJ05
import Derived.Test.YteeiaaogmjbcjaaGreatKJ07
set_option linter.unusedVariables false
set_option maxRecDepth 100000
set_option linter.unusedVariables false
set_option linter.unusedSimpArgs false
namespace Go.Proofs.YteeiaaogmjbcjaaGreat
open Go.RowKit Go.Proofs.YteeiaaogmjbcjaaGreat.Av Go.Proofs.YteeiaaogmjbcjaaGreat.Ml
open Go.Proofs.YteeiaaogmjbcjaaGreat.Av.AVal (av)

def dig (k : Nat) : List UInt8 := if h : k < 10 then [UInt8.ofNat (48 + k)] else dig (k / 10) ++ [UInt8.ofNat (48 + k % 10)]
termination_by k
decreasing_by exact Nat.div_lt_self (by omega) (by decide)
def Na (k : Nat) : ByteArray := ⟨(dig k).toArray⟩
theorem QR {k : Nat} (h : k < 10) : dig k = [UInt8.ofNat (48 + k)] := by rw [dig, dif_pos h]
theorem QS {k : Nat} (h : ¬ k < 10) : dig k = dig (k / 10) ++ [UInt8.ofNat (48 + k % 10)] := by rw [dig, dif_neg h]

theorem Ys : ∀ (n k : Nat), 1 ≤ n → k < 10 ^ n → (dig k).length ≤ n
 | 0, _, h, _ => absurd h (by decide)
 | n + 1, k, _, hk => by
  by_cases h : k < 10
  ·rw [QR h]; simp
  ·rw [QS h]
   have h1 : 1 ≤ n := by
    rcases Nat.eq_zero_or_pos n with rfl | h1
    ·simp at hk; omega
    ·exact h1
   have := Ys n (k / 10) h1 (by rw [Nat.pow_succ] at hk; omega)
   simp; exact this

def J9 (n : Int) : ByteArray := if -4611686018427387904 ≤ n ∧ n ≤ 4611686018427387903 then (if n < 0 then ⟨#[45]⟩ ++ Na (-n).toNat else Na n.toNat) else ⟨#[]⟩
theorem Nl (k : Nat) (hk : k ≤ 9223372036854775808) : (Na k).size ≤ 64 := by
 have := Ys 20 k (by decide) (by omega)
 show (List.toArray _).size ≤ 64
 simp; omega
theorem Acs (n : Int) : (J9 n).size ≤ 65 := by
 unfold J9
 split
 ·split
  ·rw [ByteArray.size_append]; have := Nl (-n).toNat (by omega); have h : (⟨#[45]⟩ : ByteArray).size = 1 := rfl; omega
  ·have := Nl n.toNat (by omega); omega
 ·show (0 : Nat) ≤ 65; omega

theorem We {k : Nat} (h : k < 10) : Na k = ⟨[UInt8.ofNat (48 + k)].toArray⟩ := by unfold Na; rw [QR h]
theorem Wf {k : Nat} (h : ¬ k < 10) : Na k = Na (k / 10) ++ ⟨[UInt8.ofNat (48 + k % 10)].toArray⟩ := by
 unfold Na; rw [QS h]; first | (rw [ByteArray.mk_append_mk]; done) | (rw [ByteArray.mk_append_mk]; simp)
theorem YG (m : Nat) (h : m < 256) : AV.int .u8 ((UInt8.ofNat m).toNat : Int) = .int .u8 (m : Int) := by
 rw [UInt8.toNat_ofNat']; congr 1; omega

end Go.Proofs.YteeiaaogmjbcjaaGreat
set_option linter.unusedVariables false
set_option linter.unusedSimpArgs false
set_option maxRecDepth 100000
namespace Go.Proofs.YteeiaaogmjbcjaaGreat
open Go.RowKit Go.Proofs.YteeiaaogmjbcjaaGreat.Av Go.Proofs.YteeiaaogmjbcjaaGreat.Ml
open Go.Proofs.YteeiaaogmjbcjaaGreat.Av.AVal (av)
open OVal (ov oh on)

def AaP (k : Int) : ByteArray := ⟨#[109]⟩ ++ Na k.toNat
class Mk (α : Type) where
 mkv : Int → α → α
 cnt : α → Nat
open Mk (mkv cnt)
instance : Mk Int := ⟨fun k _ => k, fun _ => 1⟩
instance : Mk ByteArray := ⟨fun k _ => AaP k, fun _ => 1⟩
section
variable {α : Type} [Mk α]
def mkL : Int → List α → List α
 | _, [] => []
 | k, x :: r => mkv k x :: mkL (k + (cnt x : Int)) r
def HU : List α → Nat
 | [] => 0
 | x :: r => cnt x + HU r
instance : Mk (List α) := ⟨mkL, HU⟩
theorem Abo (l : List α) : cnt l = HU l := rfl
end
class MkB (α : Type) [Mk α] [AB α] : Prop where
 le : ∀ x : α, cnt x ≤ AB.bulk x
instance : MkB Int := ⟨fun _ => Nat.le_refl _⟩
instance : MkB ByteArray := ⟨fun s => by show 1 ≤ s.size + 1; omega⟩
theorem Gi {α : Type} [Mk α] [AB α] [MkB α] : ∀ l : List α, HU l + 1 ≤ AB.bulk l
 | [] => by simp [HU, AB.bulk]
 | x :: r => by
  have h1 := MkB.le x
  have h2 := Gi r
  simp only [HU, AB.bulk, List.map_cons, List.sum_cons] at h1 h2 ⊢
  omega
instance {α : Type} [Mk α] [AB α] [MkB α] : MkB (List α) := ⟨fun l => by have := Gi l; rw [Abo]; omega⟩
/-! lending -/
section
variable {α : Type} [AVal α] [OVal α]
end
section
variable {α β : Type} [AVal α] [OVal α] [AVal β] [OVal β]
end
structure TS where
 m : Nat
 s : ByteArray
end Go.Proofs.YteeiaaogmjbcjaaGreat
set_option linter.unusedVariables false
set_option linter.unusedVariables false
set_option maxRecDepth 100000
set_option linter.unusedVariables false
set_option linter.unusedSimpArgs false
set_option maxRecDepth 100000
set_option linter.unusedVariables false
set_option maxRecDepth 100000
set_option linter.unusedVariables false
set_option maxRecDepth 100000
set_option linter.unusedVariables false
set_option linter.unusedSimpArgs false
set_option maxRecDepth 100000
set_option linter.unusedVariables false
set_option linter.unusedSimpArgs false
set_option maxRecDepth 100000
namespace Go.Proofs.YteeiaaogmjbcjaaGreat
open Go.RowKit Go.Proofs.YteeiaaogmjbcjaaGreat.Av Go.Proofs.YteeiaaogmjbcjaaGreat.Ml
open Go.Proofs.YteeiaaogmjbcjaaGreat.Av.AVal (av)
open OVal (ov oh on)
open Mk (mkv cnt)

instance : OVal AU where
 ty := 36
 ov nm vs x := .agg [.int .i64 x.kind, .int .i64 x.n, .str x.s, ov (sub nm 0) vs x.kids]
 oh nm vs x := oh (sub nm 0) vs x.kids
 on nm x := on (sub nm 0) x.kids
 names nm vs x := OVal.names _ _ _
 inn nm x k h := (OVal.inn _ _ _ h).up
 self nm vs x := OVal.self _ _ _
 LS nm vs vs' x h := by
  obtain ⟨a0, b0⟩ := OVal.LS (sub nm 0) vs vs' x.kids (fun k hk => h k hk.up)
  simp only [a0, b0, and_self]
 L0 nm vs x hp h := by
  have h0 := OVal.L0 (sub nm 0) vs x.kids hp h
  show AV.agg [.int .i64 x.kind, .int .i64 x.n, .str x.s, (ov (sub nm 0) vs x.kids).pur (Cr (on (sub nm 0) x.kids) hp)] = av x
  rw [h0]; rfl
 dep nm vs x hp hp' h := by
  have h0 := OVal.dep (sub nm 0) vs x.kids hp hp' (fun k hk => h k hk.up)
  show AV.agg [.int .i64 x.kind, .int .i64 x.n, .str x.s, (ov (sub nm 0) vs x.kids).pur hp] = AV.agg [.int .i64 x.kind, .int .i64 x.n, .str x.s, (ov (sub nm 0) vs x.kids).pur hp']
  rw [h0]
 free nm vs x p h := by exact OVal.free _ _ _ p h
 QT nm vs x y hx := by
  simp only [AV.cells, List.mem_cons, List.not_mem_nil, or_false] at hx
  rcases hx with rfl | rfl | rfl | rfl <;> rfl
 ok _ _ _ := rfl
 agg _ _ _ := rfl
 len _ _ _ := rfl
theorem NP (nm : Nat) (vs : Nat → Nat) (x : AU) : ov nm vs x = .agg [.int .i64 x.kind, .int .i64 x.n, .str x.s, .row (sub nm 0) (vs (sub nm 0)) x.kids.length] := eqq rfl
theorem Tk (nm : Nat) (vs : Nat → Nat) (x : AU) : oh nm vs x = oh (sub nm 0) vs x.kids := rfl

instance : Mk AU := ⟨fun k x => ⟨k, k + 1, AaP (k + 1 + 1), mkL (k + 1 + 1 + 1) x.kids⟩, fun x => 3 + HU x.kids⟩
theorem ZI (x : AU) : cnt x = 3 + HU x.kids := rfl
instance : MkB AU := ⟨fun x => by
 have hbx : AB.bulk x = AB.bulk x.kind + AB.bulk x.n + AB.bulk x.s + AB.bulk x.kids + 1 := rfl
 have hbx_0 : AB.bulk x.kind = 1 := rfl
 have hbx_1 : AB.bulk x.n = 1 := rfl
 have hbx_2 : AB.bulk x.s = x.s.size + 1 := rfl
 have hbx_3 := Gi x.kids
 rw [ZI]
 omega⟩

instance : OVal Pat where
 ty := 25
 ov nm vs x := .agg [ov (sub nm 0) vs x.nodes]
 oh nm vs x := oh (sub nm 0) vs x.nodes
 on nm x := on (sub nm 0) x.nodes
 names nm vs x := OVal.names _ _ _
 inn nm x k h := (OVal.inn _ _ _ h).up
 self nm vs x := OVal.self _ _ _
 LS nm vs vs' x h := by
  obtain ⟨a0, b0⟩ := OVal.LS (sub nm 0) vs vs' x.nodes (fun k hk => h k hk.up)
  simp only [a0, b0, and_self]
 L0 nm vs x hp h := by
  have h0 := OVal.L0 (sub nm 0) vs x.nodes hp h
  show AV.agg [(ov (sub nm 0) vs x.nodes).pur (Cr (on (sub nm 0) x.nodes) hp)] = av x
  rw [h0]; rfl
 dep nm vs x hp hp' h := by
  have h0 := OVal.dep (sub nm 0) vs x.nodes hp hp' (fun k hk => h k hk.up)
  show AV.agg [(ov (sub nm 0) vs x.nodes).pur hp] = AV.agg [(ov (sub nm 0) vs x.nodes).pur hp']
  rw [h0]
 free nm vs x p h := by exact OVal.free _ _ _ p h
 QT nm vs x y hx := by
  simp only [AV.cells, List.mem_cons, List.not_mem_nil, or_false] at hx
  subst hx <;> rfl
 ok _ _ _ := rfl
 agg _ _ _ := rfl
 len _ _ _ := rfl
theorem VK (nm : Nat) (vs : Nat → Nat) (x : Pat) : ov nm vs x = .agg [.row (sub nm 0) (vs (sub nm 0)) x.nodes.length] := eqq rfl
theorem Adl (nm : Nat) (vs : Nat → Nat) (x : Pat) : oh nm vs x = oh (sub nm 0) vs x.nodes := rfl

instance : Mk Pat := ⟨fun k x => ⟨mkL (k) x.nodes⟩, fun x => HU x.nodes⟩
theorem AcG (x : Pat) : cnt x = HU x.nodes := rfl
instance : MkB Pat := ⟨fun x => by
 have hbx : AB.bulk x = AB.bulk x.nodes + 1 := rfl
 have hbx_0 := Gi x.nodes
 rw [AcG]
 omega⟩

end Go.Proofs.YteeiaaogmjbcjaaGreat
set_option linter.unusedVariables false
set_option maxRecDepth 100000
namespace Go.Proofs.YteeiaaogmjbcjaaGreat
open Go.Proofs.YteeiaaogmjbcjaaGreat.Av

theorem Hk : Tryz.prog.follows .mixedOrders = true := by kernel_rfl

def HD : Ir Tryz.prog 164 [(116, 7777), (14, 7777), (157, 7777), (170, 7777), (172, 7777), (188, 7777), (201, 7777), (203, 7777), (21, 7777), (214, 7777), (221, 7777), (224, 7777), (23, 7777), (74, 7777)] [9999] 2 := ⟨_, _, Tryz.func164, Hk, by kernel_rfl, Ay [] Tryz.progTables (by conv => lhs; cbv) (by kernel_rfl)⟩
def Eh : Ir Tryz.prog 155 [(18, 7777), (19, 7777), (22, 7777), (28, 7777), (29, 7777), (33, 7777), (35, 7777), (48, 7777)] [9999] 2 := ⟨_, _, Tryz.func155, Hk, by kernel_rfl, Ay [] Tryz.progTables (by conv => lhs; cbv) (by kernel_rfl)⟩
def FQ : Ir Tryz.prog 24 [(13,29), (36, 7777)] [9999] 2 := ⟨_, _, Tryz.func24, Hk, by kernel_rfl, Ay [] Tryz.progTables (by conv => lhs; cbv) (by kernel_rfl)⟩
end Go.Proofs.YteeiaaogmjbcjaaGreat
set_option linter.unusedVariables false
namespace Go.Proofs.YteeiaaogmjbcjaaGreat
open Go.RowKit Go.Proofs.YteeiaaogmjbcjaaGreat.Ml

structure CV where
 var : Int
 name : ByteArray
 arity : Int
 deriving DecidableEq, Inhabited

def CV.rep (S : Nat → Prop) (w : World) (cs : List Value) (x : CV) : Prop := cs = [Value.int .i64 x.var, Value.string x.name, Value.int .i64 x.arity] ∧ (-9223372036854775808 ≤ x.var ∧ x.var ≤ 9223372036854775807) ∧ x.name.size ≤ maxLen ∧ (-9223372036854775808 ≤ x.arity ∧ x.arity ≤ 9223372036854775807)
instance : Rep CV where
 n := 3
 rep := CV.rep
 len := by rintro _ _ _ _ ⟨rfl, _⟩; rfl
 carry := by rintro _ _ _ _ _ _ ⟨rfl, h0, h1, h2⟩ hS hw; exact ⟨rfl, h0, h1, h2⟩
instance : AB CV := ⟨fun x => AB.bulk x.var + AB.bulk x.name + AB.bulk x.arity + 1, fun _ => by omega⟩

structure Ty where
 items : List CV
 deriving DecidableEq, Inhabited

def Ty.rep (S : Nat → Prop) (w : World) (cs : List Value) (x : Ty) : Prop := ∃ v0, cs = [v0] ∧ En S w v0 x.items
instance : Rep Ty where
 n := 1
 rep := Ty.rep
 len := by rintro _ _ _ _ ⟨v0, rfl, _⟩; rfl
 carry := by rintro _ _ _ _ _ _ ⟨v0, rfl, h0⟩ hS hw; exact ⟨v0, rfl, h0.carry hS hw⟩
instance : AB Ty := ⟨fun x => AB.bulk x.items + 1, fun _ => by omega⟩

end Go.Proofs.YteeiaaogmjbcjaaGreat
set_option linter.unusedVariables false
namespace Go.Proofs.YteeiaaogmjbcjaaGreat
open Go.RowKit Go.Proofs.YteeiaaogmjbcjaaGreat.Ml

structure Con where
 name : ByteArray
 has : Bool
 arg : Ty
 deriving DecidableEq, Inhabited

def Con.rep (S : Nat → Prop) (w : World) (cs : List Value) (x : Con) : Prop := ∃ v2, cs = [Value.string x.name, Value.bool x.has, v2] ∧ x.name.size ≤ maxLen ∧ En S w v2 x.arg.items
instance : Rep Con where
 n := 3
 rep := Con.rep
 len := by rintro _ _ _ _ ⟨v2, rfl, _⟩; rfl
 carry := by rintro _ _ _ _ _ _ ⟨v2, rfl, h0, h1⟩ hS hw; exact ⟨v2, rfl, h0, h1.carry hS hw⟩
instance : AB Con := ⟨fun x => AB.bulk x.name + AB.bulk x.has + AB.bulk x.arg + 1, fun _ => by omega⟩

structure M3 where
 name : ByteArray
 params : Int
 cons : List Con
 deriving DecidableEq, Inhabited

def M3.rep (S : Nat → Prop) (w : World) (cs : List Value) (x : M3) : Prop := ∃ v2, cs = [Value.string x.name, Value.int .i64 x.params, v2] ∧ x.name.size ≤ maxLen ∧ (-9223372036854775808 ≤ x.params ∧ x.params ≤ 9223372036854775807) ∧ En S w v2 x.cons
instance : Rep M3 where
 n := 3
 rep := M3.rep
 len := by rintro _ _ _ _ ⟨v2, rfl, _⟩; rfl
 carry := by rintro _ _ _ _ _ _ ⟨v2, rfl, h0, h1, h2⟩ hS hw; exact ⟨v2, rfl, h0, h1, h2.carry hS hw⟩
instance : AB M3 := ⟨fun x => AB.bulk x.name + AB.bulk x.params + AB.bulk x.cons + 1, fun _ => by omega⟩

structure Node where
 kind : Int
 pos : Int
 n : Int
 s : ByteArray
 kids : List Int
 Ach : List Pat
 deriving DecidableEq, Inhabited

def Node.rep (S : Nat → Prop) (w : World) (cs : List Value) (x : Node) : Prop := ∃ v4 v5, cs = [Value.int .i64 x.kind, Value.int .i64 x.pos, Value.int .i64 x.n, Value.string x.s, v4, v5] ∧ (-9223372036854775808 ≤ x.kind ∧ x.kind ≤ 9223372036854775807) ∧ (-9223372036854775808 ≤ x.pos ∧ x.pos ≤ 9223372036854775807) ∧ (-9223372036854775808 ≤ x.n ∧ x.n ≤ 9223372036854775807) ∧ x.s.size ≤ maxLen ∧ En S w v4 x.kids ∧ En S w v5 x.Ach
instance : Rep Node where
 n := 6
 rep := Node.rep
 len := by rintro _ _ _ _ ⟨v4, v5, rfl, _⟩; rfl
 carry := by rintro _ _ _ _ _ _ ⟨v4, v5, rfl, h0, h1, h2, h3, h4, h5⟩ hS hw; exact ⟨v4, v5, rfl, h0, h1, h2, h3, h4.carry hS hw, h5.carry hS hw⟩
instance : AB Node := ⟨fun x => AB.bulk x.kind + AB.bulk x.pos + AB.bulk x.n + AB.bulk x.s + AB.bulk x.kids + AB.bulk x.Ach + 1, fun _ => by omega⟩

structure Program where
 types : List M3
 nodes : List Node
 deriving DecidableEq, Inhabited

def Program.rep (S : Nat → Prop) (w : World) (cs : List Value) (x : Program) : Prop := ∃ v0 v1, cs = [v0, v1] ∧ En S w v0 x.types ∧ En S w v1 x.nodes
instance : Rep Program where
 n := 2
 rep := Program.rep
 len := by rintro _ _ _ _ ⟨v0, v1, rfl, _⟩; rfl
 carry := by rintro _ _ _ _ _ _ ⟨v0, v1, rfl, h0, h1⟩ hS hw; exact ⟨v0, v1, rfl, h0.carry hS hw, h1.carry hS hw⟩
instance : AB Program := ⟨fun x => AB.bulk x.types + AB.bulk x.nodes + 1, fun _ => by omega⟩

end Go.Proofs.YteeiaaogmjbcjaaGreat
set_option linter.unusedVariables false
set_option maxRecDepth 100000
set_option linter.unusedVariables false
set_option linter.unusedSimpArgs false
set_option maxRecDepth 100000
namespace Go.Proofs.YteeiaaogmjbcjaaGreat
open Go.RowKit Go.Proofs.YteeiaaogmjbcjaaGreat.Av Go.Proofs.YteeiaaogmjbcjaaGreat.Ml
open Go.Proofs.YteeiaaogmjbcjaaGreat.Av.AVal (av)

instance : AVal CV := ⟨fun x => .agg [.int .i64 x.var, .str x.name, .int .i64 x.arity], 3, fun _ => rfl, fun _ => rfl, fun x y hy => by
 simp only [AV.cells, List.mem_cons, List.not_mem_nil, or_false] at hy
 rcases hy with rfl | rfl | rfl <;> first | exact Aj.int _ _ | exact Aj.str _ | exact Aj.bool _, fun _ _ => rfl, fun x y hy => by
 simp only [AV.cells, List.mem_cons, List.not_mem_nil, or_false] at hy
 rcases hy with rfl | rfl | rfl <;> rfl⟩
instance : EB CV := ⟨fun {S w cs y} h => by
 obtain ⟨rfl, h0, h1, h2⟩ := h
 exact VRs.cons (.int _ _ h0.1 h0.2) (VRs.cons (.str _ h1) (VRs.cons (.int _ _ h2.1 h2.2) (VRs.nil)))⟩

instance : AVal Ty := ⟨fun x => .agg [.sl (x.items.map av)], 1, fun _ => rfl, fun _ => rfl, fun x y hy => by
 simp only [AV.cells, List.mem_cons, List.not_mem_nil, or_false] at hy
 subst hy; first | exact Aj.int _ _ | exact Aj.str _ | exact Aj.bool _ | exact Aw x.items, fun _ _ => rfl, fun x y hy => by
 simp only [AV.cells, List.mem_cons, List.not_mem_nil, or_false] at hy
 subst hy; rfl⟩
theorem Q7 (x : Ty) : av x = .agg [.sl (x.items.map av)] := eqq rfl
instance : EB Ty := ⟨fun {S w cs y} h => by
 obtain ⟨v0, rfl, r0⟩ := h
 exact VRs.cons (C6 r0) (VRs.nil)⟩

end Go.Proofs.YteeiaaogmjbcjaaGreat
set_option linter.unusedVariables false
set_option maxRecDepth 100000
