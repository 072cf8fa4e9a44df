/-
  THE ABSTRACT TEXTS OF FUNCTIONS (MText), printed by irgen.py, and that they are the functions' own. Conditions: none.
-/
import Derived.Test.YteeiaaogmjbcjaaGreatProg
import Derived.Test.YteeiaaogmjbcjaaGreatHAvDraw
import Derived.Test.YteeiaaogmjbcjaaGreatHJ06
import Derived.Test.YteeiaaogmjbcjaaGreatHJ19
import Derived.Test.YteeiaaogmjbcjaaGreatRows
import Derived.Test.YteeiaaogmjbcjaaGreatHJ05
import Derived.Test.YteeiaaogmjbcjaaGreatHJ07
set_option linter.unusedVariables false
set_option maxRecDepth 100000
set_option linter.unusedVariables false
set_option linter.unusedSimpArgs false
namespace Go.Proofs.YteeiaaogmjbcjaaGreat
open Go.RowKit Go.Proofs.YteeiaaogmjbcjaaGreat.Av Go.Proofs.YteeiaaogmjbcjaaGreat.Ml
open Go.Proofs.YteeiaaogmjbcjaaGreat.Av.AVal (av)

def dig (k : Nat) : List UInt8 := if h : k < 10 then [UInt8.ofNat (48 + k)] else dig (k / 10) ++ [UInt8.ofNat (48 + k % 10)]
termination_by k
decreasing_by exact Nat.div_lt_self (by omega) (by decide)
def digS (k : Nat) : ByteArray := ⟨(dig k).toArray⟩
theorem dig_small {k : Nat} (h : k < 10) : dig k = [UInt8.ofNat (48 + k)] := by rw [dig, dif_pos h]
theorem dig_great {k : Nat} (h : ¬ k < 10) : dig k = dig (k / 10) ++ [UInt8.ofNat (48 + k % 10)] := by rw [dig, dif_neg h]

theorem dig_len : ∀ (n k : Nat), 1 ≤ n → k < 10 ^ n → (dig k).length ≤ n
 | 0, _, h, _ => absurd h (by decide)
 | n + 1, k, _, hk => by
  by_cases h : k < 10
  ·rw [dig_small h]; simp
  ·rw [dig_great h]
   have h1 : 1 ≤ n := by
    rcases Nat.eq_zero_or_pos n with rfl | h1
    ·simp at hk; omega
    ·exact h1
   have := dig_len n (k / 10) h1 (by rw [Nat.pow_succ] at hk; omega)
   simp; exact this

def numS (n : Int) : ByteArray := if -4611686018427387904 ≤ n ∧ n ≤ 4611686018427387903 then (if n < 0 then ⟨#[45]⟩ ++ digS (-n).toNat else digS n.toNat) else ⟨#[]⟩
theorem digS_le (k : Nat) (hk : k ≤ 9223372036854775808) : (digS k).size ≤ 64 := by
 have := dig_len 20 k (by decide) (by omega)
 show (List.toArray _).size ≤ 64
 simp; omega
theorem numS_le (n : Int) : (numS n).size ≤ 65 := by
 unfold numS
 split
 ·split
  ·rw [ByteArray.size_append]; have := digS_le (-n).toNat (by omega); have h : (⟨#[45]⟩ : ByteArray).size = 1 := rfl; omega
  ·have := digS_le n.toNat (by omega); omega
 ·show (0 : Nat) ≤ 65; omega

theorem digS_small {k : Nat} (h : k < 10) : digS k = ⟨[UInt8.ofNat (48 + k)].toArray⟩ := by unfold digS; rw [dig_small h]
theorem digS_great {k : Nat} (h : ¬ k < 10) : digS k = digS (k / 10) ++ ⟨[UInt8.ofNat (48 + k % 10)].toArray⟩ := by
 unfold digS; rw [dig_great h]; first | (rw [ByteArray.mk_append_mk]; done) | (rw [ByteArray.mk_append_mk]; simp)
theorem av_byte (m : Nat) (h : m < 256) : AV.int .u8 ((UInt8.ofNat m).toNat : Int) = .int .u8 (m : Int) := by
 rw [UInt8.toNat_ofNat']; congr 1; omega

end Go.Proofs.YteeiaaogmjbcjaaGreat
set_option linter.unusedVariables false
set_option linter.unusedSimpArgs false
set_option maxRecDepth 100000
namespace Go.Proofs.YteeiaaogmjbcjaaGreat
open Go.RowKit Go.Proofs.YteeiaaogmjbcjaaGreat.Av Go.Proofs.YteeiaaogmjbcjaaGreat.Ml
open Go.Proofs.YteeiaaogmjbcjaaGreat.Av.AVal (av)
open OVal (ov oh on)

def markS (k : Int) : ByteArray := ⟨#[109]⟩ ++ digS k.toNat
class Mk (α : Type) where
 mkv : Int → α → α
 cnt : α → Nat
open Mk (mkv cnt)
instance : Mk Int := ⟨fun k _ => k, fun _ => 1⟩
instance : Mk ByteArray := ⟨fun k _ => markS k, fun _ => 1⟩
section
variable {α : Type} [Mk α]
def mkL : Int → List α → List α
 | _, [] => []
 | k, x :: r => mkv k x :: mkL (k + (cnt x : Int)) r
def cntL : List α → Nat
 | [] => 0
 | x :: r => cnt x + cntL r
instance : Mk (List α) := ⟨mkL, cntL⟩
theorem cnt_list (l : List α) : cnt l = cntL l := rfl
end
class MkB (α : Type) [Mk α] [Bulk α] : Prop where
 le : ∀ x : α, cnt x ≤ Bulk.bulk x
instance : MkB Int := ⟨fun _ => Nat.le_refl _⟩
instance : MkB ByteArray := ⟨fun s => by show 1 ≤ s.size + 1; omega⟩
theorem cntL_bulk {α : Type} [Mk α] [Bulk α] [MkB α] : ∀ l : List α, cntL l + 1 ≤ Bulk.bulk l
 | [] => by simp [cntL, Bulk.bulk]
 | x :: r => by
  have h1 := MkB.le x
  have h2 := cntL_bulk r
  simp only [cntL, Bulk.bulk, List.map_cons, List.sum_cons] at h1 h2 ⊢
  omega
instance {α : Type} [Mk α] [Bulk α] [MkB α] : MkB (List α) := ⟨fun l => by have := cntL_bulk l; rw [cnt_list]; omega⟩
/-! lending -/
section
variable {α : Type} [AVal α] [OVal α]
end
section
variable {α β : Type} [AVal α] [OVal α] [AVal β] [OVal β]
end
structure TS where
 m : Nat
 s : ByteArray
end Go.Proofs.YteeiaaogmjbcjaaGreat
set_option linter.unusedVariables false
set_option linter.unusedVariables false
set_option maxRecDepth 100000
set_option linter.unusedVariables false
set_option linter.unusedSimpArgs false
set_option maxRecDepth 100000
set_option linter.unusedVariables false
set_option maxRecDepth 100000
set_option linter.unusedVariables false
set_option maxRecDepth 100000
set_option linter.unusedVariables false
set_option linter.unusedSimpArgs false
set_option maxRecDepth 100000
set_option linter.unusedVariables false
set_option linter.unusedSimpArgs false
set_option maxRecDepth 100000
namespace Go.Proofs.YteeiaaogmjbcjaaGreat
open Go.RowKit Go.Proofs.YteeiaaogmjbcjaaGreat.Av Go.Proofs.YteeiaaogmjbcjaaGreat.Ml
open Go.Proofs.YteeiaaogmjbcjaaGreat.Av.AVal (av)
open OVal (ov oh on)
open Mk (mkv cnt)

instance : OVal PNode where
 ty := 36
 ov nm vs x := .agg [.int .i64 x.kind, .int .i64 x.n, .str x.s, ov (sub nm 0) vs x.kids]
 oh nm vs x := oh (sub nm 0) vs x.kids
 on nm x := on (sub nm 0) x.kids
 names nm vs x := OVal.names _ _ _
 inn nm x k h := (OVal.inn _ _ _ h).up
 self nm vs x := OVal.self _ _ _
 vdep nm vs vs' x h := by
  obtain ⟨a0, b0⟩ := OVal.vdep (sub nm 0) vs vs' x.kids (fun k hk => h k hk.up)
  simp only [a0, b0, and_self]
 lend nm vs x hp h := by
  have h0 := OVal.lend (sub nm 0) vs x.kids hp h
  show AV.agg [.int .i64 x.kind, .int .i64 x.n, .str x.s, (ov (sub nm 0) vs x.kids).pur (frzL (on (sub nm 0) x.kids) hp)] = av x
  rw [h0]; rfl
 dep nm vs x hp hp' h := by
  have h0 := OVal.dep (sub nm 0) vs x.kids hp hp' (fun k hk => h k hk.up)
  show AV.agg [.int .i64 x.kind, .int .i64 x.n, .str x.s, (ov (sub nm 0) vs x.kids).pur hp] = AV.agg [.int .i64 x.kind, .int .i64 x.n, .str x.s, (ov (sub nm 0) vs x.kids).pur hp']
  rw [h0]
 free nm vs x p h := by exact OVal.free _ _ _ p h
 cfree nm vs x y hx := by
  simp only [AV.cells, List.mem_cons, List.not_mem_nil, or_false] at hx
  rcases hx with rfl | rfl | rfl | rfl <;> rfl
 ok _ _ _ := rfl
 agg _ _ _ := rfl
 len _ _ _ := rfl
theorem ov_PNode (nm : Nat) (vs : Nat → Nat) (x : PNode) : ov nm vs x = .agg [.int .i64 x.kind, .int .i64 x.n, .str x.s, .row (sub nm 0) (vs (sub nm 0)) x.kids.length] := eqq rfl
theorem oh_PNode (nm : Nat) (vs : Nat → Nat) (x : PNode) : oh nm vs x = oh (sub nm 0) vs x.kids := rfl

instance : Mk PNode := ⟨fun k x => ⟨k, k + 1, markS (k + 1 + 1), mkL (k + 1 + 1 + 1) x.kids⟩, fun x => 3 + cntL x.kids⟩
theorem cnt_PNode (x : PNode) : cnt x = 3 + cntL x.kids := rfl
instance : MkB PNode := ⟨fun x => by
 have hbx : Bulk.bulk x = Bulk.bulk x.kind + Bulk.bulk x.n + Bulk.bulk x.s + Bulk.bulk x.kids + 1 := rfl
 have hbx_0 : Bulk.bulk x.kind = 1 := rfl
 have hbx_1 : Bulk.bulk x.n = 1 := rfl
 have hbx_2 : Bulk.bulk x.s = x.s.size + 1 := rfl
 have hbx_3 := cntL_bulk x.kids
 rw [cnt_PNode]
 omega⟩

instance : OVal Pat where
 ty := 25
 ov nm vs x := .agg [ov (sub nm 0) vs x.nodes]
 oh nm vs x := oh (sub nm 0) vs x.nodes
 on nm x := on (sub nm 0) x.nodes
 names nm vs x := OVal.names _ _ _
 inn nm x k h := (OVal.inn _ _ _ h).up
 self nm vs x := OVal.self _ _ _
 vdep nm vs vs' x h := by
  obtain ⟨a0, b0⟩ := OVal.vdep (sub nm 0) vs vs' x.nodes (fun k hk => h k hk.up)
  simp only [a0, b0, and_self]
 lend nm vs x hp h := by
  have h0 := OVal.lend (sub nm 0) vs x.nodes hp h
  show AV.agg [(ov (sub nm 0) vs x.nodes).pur (frzL (on (sub nm 0) x.nodes) hp)] = av x
  rw [h0]; rfl
 dep nm vs x hp hp' h := by
  have h0 := OVal.dep (sub nm 0) vs x.nodes hp hp' (fun k hk => h k hk.up)
  show AV.agg [(ov (sub nm 0) vs x.nodes).pur hp] = AV.agg [(ov (sub nm 0) vs x.nodes).pur hp']
  rw [h0]
 free nm vs x p h := by exact OVal.free _ _ _ p h
 cfree nm vs x y hx := by
  simp only [AV.cells, List.mem_cons, List.not_mem_nil, or_false] at hx
  subst hx <;> rfl
 ok _ _ _ := rfl
 agg _ _ _ := rfl
 len _ _ _ := rfl
theorem ov_Pat (nm : Nat) (vs : Nat → Nat) (x : Pat) : ov nm vs x = .agg [.row (sub nm 0) (vs (sub nm 0)) x.nodes.length] := eqq rfl
theorem oh_Pat (nm : Nat) (vs : Nat → Nat) (x : Pat) : oh nm vs x = oh (sub nm 0) vs x.nodes := rfl

instance : Mk Pat := ⟨fun k x => ⟨mkL (k) x.nodes⟩, fun x => cntL x.nodes⟩
theorem cnt_Pat (x : Pat) : cnt x = cntL x.nodes := rfl
instance : MkB Pat := ⟨fun x => by
 have hbx : Bulk.bulk x = Bulk.bulk x.nodes + 1 := rfl
 have hbx_0 := cntL_bulk x.nodes
 rw [cnt_Pat]
 omega⟩

end Go.Proofs.YteeiaaogmjbcjaaGreat
set_option linter.unusedVariables false
set_option maxRecDepth 100000
namespace Go.Proofs.YteeiaaogmjbcjaaGreat
open Go.Proofs.YteeiaaogmjbcjaaGreat.Av

theorem follows_ReadP : Tryz.prog.follows .mixedOrders = true := by kernel_rfl

def ir_spec_l03PAtom : Ir Tryz.prog 164 [(116, 7777), (14, 7777), (157, 7777), (170, 7777), (172, 7777), (188, 7777), (201, 7777), (203, 7777), (21, 7777), (214, 7777), (221, 7777), (224, 7777), (23, 7777), (74, 7777)] [9999] 2 := ⟨_, _, Tryz.func164, follows_ReadP, by kernel_rfl, low_of [] Tryz.progTables (by conv => lhs; cbv) (by kernel_rfl)⟩
def ir_spec_l03Pat : Ir Tryz.prog 155 [(18, 7777), (19, 7777), (22, 7777), (28, 7777), (29, 7777), (33, 7777), (35, 7777), (48, 7777)] [9999] 2 := ⟨_, _, Tryz.func155, follows_ReadP, by kernel_rfl, low_of [] Tryz.progTables (by conv => lhs; cbv) (by kernel_rfl)⟩
def ir_spec_l03PLay : Ir Tryz.prog 24 [(13,29), (36, 7777)] [9999] 2 := ⟨_, _, Tryz.func24, follows_ReadP, by kernel_rfl, low_of [] Tryz.progTables (by conv => lhs; cbv) (by kernel_rfl)⟩
end Go.Proofs.YteeiaaogmjbcjaaGreat
set_option linter.unusedVariables false
namespace Go.Proofs.YteeiaaogmjbcjaaGreat
open Go.RowKit Go.Proofs.YteeiaaogmjbcjaaGreat.Ml

structure TyItem where
 var : Int
 name : ByteArray
 arity : Int
 deriving DecidableEq, Inhabited

def TyItem.rep (S : Nat → Prop) (w : World) (cs : List Value) (x : TyItem) : Prop := cs = [Value.int .i64 x.var, Value.string x.name, Value.int .i64 x.arity] ∧ (-9223372036854775808 ≤ x.var ∧ x.var ≤ 9223372036854775807) ∧ x.name.size ≤ maxLen ∧ (-9223372036854775808 ≤ x.arity ∧ x.arity ≤ 9223372036854775807)
instance : Rep TyItem where
 n := 3
 rep := TyItem.rep
 len := by rintro _ _ _ _ ⟨rfl, _⟩; rfl
 carry := by rintro _ _ _ _ _ _ ⟨rfl, h0, h1, h2⟩ hS hw; exact ⟨rfl, h0, h1, h2⟩
instance : Bulk TyItem := ⟨fun x => Bulk.bulk x.var + Bulk.bulk x.name + Bulk.bulk x.arity + 1, fun _ => by omega⟩

structure Ty where
 items : List TyItem
 deriving DecidableEq, Inhabited

def Ty.rep (S : Nat → Prop) (w : World) (cs : List Value) (x : Ty) : Prop := ∃ v0, cs = [v0] ∧ RepSl S w v0 x.items
instance : Rep Ty where
 n := 1
 rep := Ty.rep
 len := by rintro _ _ _ _ ⟨v0, rfl, _⟩; rfl
 carry := by rintro _ _ _ _ _ _ ⟨v0, rfl, h0⟩ hS hw; exact ⟨v0, rfl, h0.carry hS hw⟩
instance : Bulk Ty := ⟨fun x => Bulk.bulk x.items + 1, fun _ => by omega⟩

end Go.Proofs.YteeiaaogmjbcjaaGreat
set_option linter.unusedVariables false
namespace Go.Proofs.YteeiaaogmjbcjaaGreat
open Go.RowKit Go.Proofs.YteeiaaogmjbcjaaGreat.Ml

structure Con where
 name : ByteArray
 has : Bool
 arg : Ty
 deriving DecidableEq, Inhabited

def Con.rep (S : Nat → Prop) (w : World) (cs : List Value) (x : Con) : Prop := ∃ v2, cs = [Value.string x.name, Value.bool x.has, v2] ∧ x.name.size ≤ maxLen ∧ RepSl S w v2 x.arg.items
instance : Rep Con where
 n := 3
 rep := Con.rep
 len := by rintro _ _ _ _ ⟨v2, rfl, _⟩; rfl
 carry := by rintro _ _ _ _ _ _ ⟨v2, rfl, h0, h1⟩ hS hw; exact ⟨v2, rfl, h0, h1.carry hS hw⟩
instance : Bulk Con := ⟨fun x => Bulk.bulk x.name + Bulk.bulk x.has + Bulk.bulk x.arg + 1, fun _ => by omega⟩

structure TypeD where
 name : ByteArray
 params : Int
 cons : List Con
 deriving DecidableEq, Inhabited

def TypeD.rep (S : Nat → Prop) (w : World) (cs : List Value) (x : TypeD) : Prop := ∃ v2, cs = [Value.string x.name, Value.int .i64 x.params, v2] ∧ x.name.size ≤ maxLen ∧ (-9223372036854775808 ≤ x.params ∧ x.params ≤ 9223372036854775807) ∧ RepSl S w v2 x.cons
instance : Rep TypeD where
 n := 3
 rep := TypeD.rep
 len := by rintro _ _ _ _ ⟨v2, rfl, _⟩; rfl
 carry := by rintro _ _ _ _ _ _ ⟨v2, rfl, h0, h1, h2⟩ hS hw; exact ⟨v2, rfl, h0, h1, h2.carry hS hw⟩
instance : Bulk TypeD := ⟨fun x => Bulk.bulk x.name + Bulk.bulk x.params + Bulk.bulk x.cons + 1, fun _ => by omega⟩

structure Node where
 kind : Int
 pos : Int
 n : Int
 s : ByteArray
 kids : List Int
 pats : List Pat
 deriving DecidableEq, Inhabited

def Node.rep (S : Nat → Prop) (w : World) (cs : List Value) (x : Node) : Prop := ∃ v4 v5, cs = [Value.int .i64 x.kind, Value.int .i64 x.pos, Value.int .i64 x.n, Value.string x.s, v4, v5] ∧ (-9223372036854775808 ≤ x.kind ∧ x.kind ≤ 9223372036854775807) ∧ (-9223372036854775808 ≤ x.pos ∧ x.pos ≤ 9223372036854775807) ∧ (-9223372036854775808 ≤ x.n ∧ x.n ≤ 9223372036854775807) ∧ x.s.size ≤ maxLen ∧ RepSl S w v4 x.kids ∧ RepSl S w v5 x.pats
instance : Rep Node where
 n := 6
 rep := Node.rep
 len := by rintro _ _ _ _ ⟨v4, v5, rfl, _⟩; rfl
 carry := by rintro _ _ _ _ _ _ ⟨v4, v5, rfl, h0, h1, h2, h3, h4, h5⟩ hS hw; exact ⟨v4, v5, rfl, h0, h1, h2, h3, h4.carry hS hw, h5.carry hS hw⟩
instance : Bulk Node := ⟨fun x => Bulk.bulk x.kind + Bulk.bulk x.pos + Bulk.bulk x.n + Bulk.bulk x.s + Bulk.bulk x.kids + Bulk.bulk x.pats + 1, fun _ => by omega⟩

structure Program where
 types : List TypeD
 nodes : List Node
 deriving DecidableEq, Inhabited

def Program.rep (S : Nat → Prop) (w : World) (cs : List Value) (x : Program) : Prop := ∃ v0 v1, cs = [v0, v1] ∧ RepSl S w v0 x.types ∧ RepSl S w v1 x.nodes
instance : Rep Program where
 n := 2
 rep := Program.rep
 len := by rintro _ _ _ _ ⟨v0, v1, rfl, _⟩; rfl
 carry := by rintro _ _ _ _ _ _ ⟨v0, v1, rfl, h0, h1⟩ hS hw; exact ⟨v0, v1, rfl, h0.carry hS hw, h1.carry hS hw⟩
instance : Bulk Program := ⟨fun x => Bulk.bulk x.types + Bulk.bulk x.nodes + 1, fun _ => by omega⟩

end Go.Proofs.YteeiaaogmjbcjaaGreat
set_option linter.unusedVariables false
set_option maxRecDepth 100000
set_option linter.unusedVariables false
set_option linter.unusedSimpArgs false
set_option maxRecDepth 100000
namespace Go.Proofs.YteeiaaogmjbcjaaGreat
open Go.RowKit Go.Proofs.YteeiaaogmjbcjaaGreat.Av Go.Proofs.YteeiaaogmjbcjaaGreat.Ml
open Go.Proofs.YteeiaaogmjbcjaaGreat.Av.AVal (av)

instance : AVal TyItem := ⟨fun x => .agg [.int .i64 x.var, .str x.name, .int .i64 x.arity], 3, fun _ => rfl, fun _ => rfl, fun x y hy => by
 simp only [AV.cells, List.mem_cons, List.not_mem_nil, or_false] at hy
 rcases hy with rfl | rfl | rfl <;> first | exact AvPure.int _ _ | exact AvPure.str _ | exact AvPure.bool _, fun _ _ => rfl, fun x y hy => by
 simp only [AV.cells, List.mem_cons, List.not_mem_nil, or_false] at hy
 rcases hy with rfl | rfl | rfl <;> rfl⟩
instance : AvRep TyItem := ⟨fun {S w cs y} h => by
 obtain ⟨rfl, h0, h1, h2⟩ := h
 exact VRs.cons (.int _ _ h0.1 h0.2) (VRs.cons (.str _ h1) (VRs.cons (.int _ _ h2.1 h2.2) (VRs.nil)))⟩

instance : AVal Ty := ⟨fun x => .agg [.sl (x.items.map av)], 1, fun _ => rfl, fun _ => rfl, fun x y hy => by
 simp only [AV.cells, List.mem_cons, List.not_mem_nil, or_false] at hy
 subst hy; first | exact AvPure.int _ _ | exact AvPure.str _ | exact AvPure.bool _ | exact lav_clean x.items, fun _ _ => rfl, fun x y hy => by
 simp only [AV.cells, List.mem_cons, List.not_mem_nil, or_false] at hy
 subst hy; rfl⟩
theorem av_Ty (x : Ty) : av x = .agg [.sl (x.items.map av)] := eqq rfl
instance : AvRep Ty := ⟨fun {S w cs y} h => by
 obtain ⟨v0, rfl, r0⟩ := h
 exact VRs.cons (repSl_vr r0) (VRs.nil)⟩

end Go.Proofs.YteeiaaogmjbcjaaGreat
set_option linter.unusedVariables false
set_option maxRecDepth 100000
