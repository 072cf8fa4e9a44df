/-
  THE ABSTRACT TEXTS OF FUNCTIONS (MText), printed by irgen.py, and that they are the functions' own. Conditions: none.
-/
import Derived.Test.YtoffpbehgncakaaGreatProg
import Derived.Test.YtoffpbehgncakaaGreatKAvDraw
import Derived.Test.YtoffpbehgncakaaGreatKJ06
import Derived.Test.YtoffpbehgncakaaGreatKAvRen
import Derived.Test.YtoffpbehgncakaaGreatRows
import Derived.Test.YtoffpbehgncakaaGreatKJ05
import Derived.Test.YtoffpbehgncakaaGreatKJ11
set_option linter.unusedVariables false
set_option maxRecDepth 100000
set_option linter.unusedVariables false
set_option linter.unusedSimpArgs false
namespace Go.Proofs.YtoffpbehgncakaaGreat
open Go.RowKit Go.Proofs.YtoffpbehgncakaaGreat.Av Go.Proofs.YtoffpbehgncakaaGreat.Ml
open Go.Proofs.YtoffpbehgncakaaGreat.Av.AVal (av)

def dig (k : Nat) : List UInt8 := if h : k < 10 then [UInt8.ofNat (48 + k)] else dig (k / 10) ++ [UInt8.ofNat (48 + k % 10)]
termination_by k
decreasing_by exact Nat.div_lt_self (by omega) (by decide)
def L8 (k : Nat) : ByteArray := ⟨(dig k).toArray⟩
theorem PL {k : Nat} (h : k < 10) : dig k = [UInt8.ofNat (48 + k)] := by rw [dig, dif_pos h]
theorem PM {k : Nat} (h : ¬ k < 10) : dig k = dig (k / 10) ++ [UInt8.ofNat (48 + k % 10)] := by rw [dig, dif_neg h]

theorem W7 : ∀ (n k : Nat), 1 ≤ n → k < 10 ^ n → (dig k).length ≤ n
 | 0, _, h, _ => absurd h (by decide)
 | n + 1, k, _, hk => by
  by_cases h : k < 10
  ·rw [PL h]; simp
  ·rw [PM h]
   have h1 : 1 ≤ n := by
    rcases Nat.eq_zero_or_pos n with rfl | h1
    ·simp at hk; omega
    ·exact h1
   have := W7 n (k / 10) h1 (by rw [Nat.pow_succ] at hk; omega)
   simp; exact this

def K5 (n : Int) : ByteArray := if -4611686018427387904 ≤ n ∧ n ≤ 4611686018427387903 then (if n < 0 then ⟨#[45]⟩ ++ L8 (-n).toNat else L8 n.toNat) else ⟨#[]⟩
theorem W8 (k : Nat) (hk : k ≤ 9223372036854775808) : (L8 k).size ≤ 64 := by
 have := W7 20 k (by decide) (by omega)
 show (List.toArray _).size ≤ 64
 simp; omega
theorem Va {k : Nat} (h : k < 10) : L8 k = ⟨[UInt8.ofNat (48 + k)].toArray⟩ := by unfold L8; rw [PL h]
theorem Vb {k : Nat} (h : ¬ k < 10) : L8 k = L8 (k / 10) ++ ⟨[UInt8.ofNat (48 + k % 10)].toArray⟩ := by
 unfold L8; rw [PM h]; first | (rw [ByteArray.mk_append_mk]; done) | (rw [ByteArray.mk_append_mk]; simp)
theorem Xo (m : Nat) (h : m < 256) : AV.int .u8 ((UInt8.ofNat m).toNat : Int) = .int .u8 (m : Int) := by
 rw [UInt8.toNat_ofNat']; congr 1; omega

end Go.Proofs.YtoffpbehgncakaaGreat
set_option linter.unusedVariables false
set_option linter.unusedSimpArgs false
set_option maxRecDepth 100000
namespace Go.Proofs.YtoffpbehgncakaaGreat
open Go.RowKit Go.Proofs.YtoffpbehgncakaaGreat.Av Go.Proofs.YtoffpbehgncakaaGreat.Ml
open Go.Proofs.YtoffpbehgncakaaGreat.Av.AVal (av)
open OVal (ov oh on)

def Abf (k : Int) : ByteArray := ⟨#[109]⟩ ++ L8 k.toNat
class Mk (α : Type) where
 mkv : Int → α → α
 cnt : α → Nat
open Mk (mkv cnt)
instance : Mk Int := ⟨fun k _ => k, fun _ => 1⟩
instance : Mk ByteArray := ⟨fun k _ => Abf k, fun _ => 1⟩
section
variable {α : Type} [Mk α]
def mkL : Int → List α → List α
 | _, [] => []
 | k, x :: r => mkv k x :: mkL (k + (cnt x : Int)) r
def Ov : List α → Nat
 | [] => 0
 | x :: r => cnt x + Ov r
instance : Mk (List α) := ⟨mkL, Ov⟩
theorem ZQ (l : List α) : cnt l = Ov l := rfl
end
class MkB (α : Type) [Mk α] [AE α] : Prop where
 le : ∀ x : α, cnt x ≤ AE.bulk x
instance : MkB Int := ⟨fun _ => Nat.le_refl _⟩
instance : MkB ByteArray := ⟨fun s => by show 1 ≤ s.size + 1; omega⟩
theorem Jf {α : Type} [Mk α] [AE α] [MkB α] : ∀ l : List α, Ov l + 1 ≤ AE.bulk l
 | [] => by simp [Ov, AE.bulk]
 | x :: r => by
  have h1 := MkB.le x
  have h2 := Jf r
  simp only [Ov, AE.bulk, List.map_cons, List.sum_cons] at h1 h2 ⊢
  omega
instance {α : Type} [Mk α] [AE α] [MkB α] : MkB (List α) := ⟨fun l => by have := Jf l; rw [ZQ]; omega⟩
/-! lending -/
section
variable {α : Type} [AVal α] [OVal α]
end
section
variable {α β : Type} [AVal α] [OVal α] [AVal β] [OVal β]
end
structure TS where
 m : Nat
 s : ByteArray
end Go.Proofs.YtoffpbehgncakaaGreat
set_option linter.unusedVariables false
set_option linter.unusedVariables false
set_option maxRecDepth 100000
set_option linter.unusedVariables false
set_option linter.unusedSimpArgs false
set_option maxRecDepth 100000
set_option linter.unusedVariables false
set_option maxRecDepth 100000
set_option linter.unusedVariables false
set_option maxRecDepth 100000
set_option linter.unusedVariables false
set_option linter.unusedSimpArgs false
set_option maxRecDepth 100000
set_option linter.unusedVariables false
set_option linter.unusedSimpArgs false
set_option maxRecDepth 100000
namespace Go.Proofs.YtoffpbehgncakaaGreat
open Go.RowKit Go.Proofs.YtoffpbehgncakaaGreat.Av Go.Proofs.YtoffpbehgncakaaGreat.Ml
open Go.Proofs.YtoffpbehgncakaaGreat.Av.AVal (av)
open OVal (ov oh on)
open Mk (mkv cnt)

instance : OVal BD where
 ty := 83
 ov nm vs x := .agg [.int .i64 x.kind, .int .i64 x.n, .str x.s, ov (sub nm 0) vs x.kids]
 oh nm vs x := oh (sub nm 0) vs x.kids
 on nm x := on (sub nm 0) x.kids
 names nm vs x := OVal.names _ _ _
 inn nm x k h := (OVal.inn _ _ _ h).up
 self nm vs x := OVal.self _ _ _
 Qk nm vs vs' x h := by
  obtain ⟨a0, b0⟩ := OVal.Qk (sub nm 0) vs vs' x.kids (fun k hk => h k hk.up)
  simp only [a0, b0, and_self]
 XW nm vs x hp h := by
  have h0 := OVal.XW (sub nm 0) vs x.kids hp h
  show AV.agg [.int .i64 x.kind, .int .i64 x.n, .str x.s, (ov (sub nm 0) vs x.kids).pur (BK (on (sub nm 0) x.kids) hp)] = av x
  rw [h0]; rfl
 dep nm vs x hp hp' h := by
  have h0 := OVal.dep (sub nm 0) vs x.kids hp hp' (fun k hk => h k hk.up)
  show AV.agg [.int .i64 x.kind, .int .i64 x.n, .str x.s, (ov (sub nm 0) vs x.kids).pur hp] = AV.agg [.int .i64 x.kind, .int .i64 x.n, .str x.s, (ov (sub nm 0) vs x.kids).pur hp']
  rw [h0]
 free nm vs x p h := by exact OVal.free _ _ _ p h
 Xa nm vs x y hx := by
  simp only [AV.cells, List.mem_cons, List.not_mem_nil, or_false] at hx
  rcases hx with rfl | rfl | rfl | rfl <;> rfl
 ok _ _ _ := rfl
 agg _ _ _ := rfl
 len _ _ _ := rfl
theorem R2 (nm : Nat) (vs : Nat → Nat) (x : BD) : ov nm vs x = .agg [.int .i64 x.kind, .int .i64 x.n, .str x.s, .row (sub nm 0) (vs (sub nm 0)) x.kids.length] := eqq rfl
theorem Sb (nm : Nat) (vs : Nat → Nat) (x : BD) : oh nm vs x = oh (sub nm 0) vs x.kids := rfl

instance : Mk BD := ⟨fun k x => ⟨k, k + 1, Abf (k + 1 + 1), mkL (k + 1 + 1 + 1) x.kids⟩, fun x => 3 + Ov x.kids⟩
theorem Yk (x : BD) : cnt x = 3 + Ov x.kids := rfl
instance : MkB BD := ⟨fun x => by
 have hbx : AE.bulk x = AE.bulk x.kind + AE.bulk x.n + AE.bulk x.s + AE.bulk x.kids + 1 := rfl
 have hbx_0 : AE.bulk x.kind = 1 := rfl
 have hbx_1 : AE.bulk x.n = 1 := rfl
 have hbx_2 : AE.bulk x.s = x.s.size + 1 := rfl
 have hbx_3 := Jf x.kids
 rw [Yk]
 omega⟩

instance : OVal Pat where
 ty := 66
 ov nm vs x := .agg [ov (sub nm 0) vs x.nodes]
 oh nm vs x := oh (sub nm 0) vs x.nodes
 on nm x := on (sub nm 0) x.nodes
 names nm vs x := OVal.names _ _ _
 inn nm x k h := (OVal.inn _ _ _ h).up
 self nm vs x := OVal.self _ _ _
 Qk nm vs vs' x h := by
  obtain ⟨a0, b0⟩ := OVal.Qk (sub nm 0) vs vs' x.nodes (fun k hk => h k hk.up)
  simp only [a0, b0, and_self]
 XW nm vs x hp h := by
  have h0 := OVal.XW (sub nm 0) vs x.nodes hp h
  show AV.agg [(ov (sub nm 0) vs x.nodes).pur (BK (on (sub nm 0) x.nodes) hp)] = av x
  rw [h0]; rfl
 dep nm vs x hp hp' h := by
  have h0 := OVal.dep (sub nm 0) vs x.nodes hp hp' (fun k hk => h k hk.up)
  show AV.agg [(ov (sub nm 0) vs x.nodes).pur hp] = AV.agg [(ov (sub nm 0) vs x.nodes).pur hp']
  rw [h0]
 free nm vs x p h := by exact OVal.free _ _ _ p h
 Xa nm vs x y hx := by
  simp only [AV.cells, List.mem_cons, List.not_mem_nil, or_false] at hx
  subst hx <;> rfl
 ok _ _ _ := rfl
 agg _ _ _ := rfl
 len _ _ _ := rfl
theorem AbC (nm : Nat) (vs : Nat → Nat) (x : Pat) : ov nm vs x = .agg [.row (sub nm 0) (vs (sub nm 0)) x.nodes.length] := eqq rfl
theorem AbF (nm : Nat) (vs : Nat → Nat) (x : Pat) : oh nm vs x = oh (sub nm 0) vs x.nodes := rfl

instance : Mk Pat := ⟨fun k x => ⟨mkL (k) x.nodes⟩, fun x => Ov x.nodes⟩
theorem AaY (x : Pat) : cnt x = Ov x.nodes := rfl
instance : MkB Pat := ⟨fun x => by
 have hbx : AE.bulk x = AE.bulk x.nodes + 1 := rfl
 have hbx_0 := Jf x.nodes
 rw [AaY]
 omega⟩

end Go.Proofs.YtoffpbehgncakaaGreat
set_option linter.unusedVariables false
set_option maxRecDepth 100000
namespace Go.Proofs.YtoffpbehgncakaaGreat
open Go.Proofs.YtoffpbehgncakaaGreat.Av

theorem Gv : Tryz.prog.follows .mixedOrders = true := by kernel_rfl

def GW : Ir Tryz.prog 189 [(116, 7777), (14, 7777), (157, 7777), (170, 7777), (172, 7777), (188, 7777), (201, 7777), (203, 7777), (21, 7777), (214, 7777), (221, 7777), (224, 7777), (23, 7777), (74, 7777)] [9999] 2 := ⟨_, _, Tryz.func189, Gv, by kernel_rfl, AA [] Tryz.progTables (by conv => lhs; cbv) (by kernel_rfl)⟩
def DA : Ir Tryz.prog 176 [(18, 7777), (19, 7777), (22, 7777), (28, 7777), (29, 7777), (33, 7777), (35, 7777), (48, 7777)] [9999] 2 := ⟨_, _, Tryz.func176, Gv, by kernel_rfl, AA [] Tryz.progTables (by conv => lhs; cbv) (by kernel_rfl)⟩
def Fg : Ir Tryz.prog 177 [(13,29), (36, 7777)] [9999] 2 := ⟨_, _, Tryz.func177, Gv, by kernel_rfl, AA [] Tryz.progTables (by conv => lhs; cbv) (by kernel_rfl)⟩
end Go.Proofs.YtoffpbehgncakaaGreat
set_option linter.unusedVariables false
namespace Go.Proofs.YtoffpbehgncakaaGreat
open Go.RowKit Go.Proofs.YtoffpbehgncakaaGreat.Ml

structure Bs where
 var : Int
 name : ByteArray
 arity : Int
 deriving DecidableEq, Inhabited

def Bs.rep (S : Nat → Prop) (w : World) (cs : List Value) (x : Bs) : Prop := cs = [Value.int .i64 x.var, Value.string x.name, Value.int .i64 x.arity] ∧ (-9223372036854775808 ≤ x.var ∧ x.var ≤ 9223372036854775807) ∧ x.name.size ≤ maxLen ∧ (-9223372036854775808 ≤ x.arity ∧ x.arity ≤ 9223372036854775807)
instance : Rep Bs where
 n := 3
 rep := Bs.rep
 len := by rintro _ _ _ _ ⟨rfl, _⟩; rfl
 carry := by rintro _ _ _ _ _ _ ⟨rfl, h0, h1, h2⟩ hS hw; exact ⟨rfl, h0, h1, h2⟩
instance : AE Bs := ⟨fun x => AE.bulk x.var + AE.bulk x.name + AE.bulk x.arity + 1, fun _ => by omega⟩

structure Ty where
 items : List Bs
 deriving DecidableEq, Inhabited

def Ty.rep (S : Nat → Prop) (w : World) (cs : List Value) (x : Ty) : Prop := ∃ v0, cs = [v0] ∧ DG S w v0 x.items
instance : Rep Ty where
 n := 1
 rep := Ty.rep
 len := by rintro _ _ _ _ ⟨v0, rfl, _⟩; rfl
 carry := by rintro _ _ _ _ _ _ ⟨v0, rfl, h0⟩ hS hw; exact ⟨v0, rfl, h0.carry hS hw⟩
instance : AE Ty := ⟨fun x => AE.bulk x.items + 1, fun _ => by omega⟩

end Go.Proofs.YtoffpbehgncakaaGreat
