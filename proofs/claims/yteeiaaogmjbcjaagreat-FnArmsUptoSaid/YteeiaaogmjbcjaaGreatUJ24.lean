/-
  THE ABSTRACT TEXTS OF FUNCTIONS (OPat), printed by irgen.py, and that they are the functions' own. Conditions: none.
-/
import Derived.Test.YteeiaaogmjbcjaaGreatProg
import Derived.Test.YteeiaaogmjbcjaaGreatUAvDraw
import Derived.Test.YteeiaaogmjbcjaaGreatUJ13
import Derived.Test.YteeiaaogmjbcjaaGreatUJ18
import Derived.Test.YteeiaaogmjbcjaaGreatRows
import Derived.Test.YteeiaaogmjbcjaaGreatUJ05
import Derived.Test.YteeiaaogmjbcjaaGreatUJ06
import Derived.Test.YteeiaaogmjbcjaaGreatUJ17
import Derived.Test.YteeiaaogmjbcjaaGreatUAvSimp
set_option linter.unusedVariables false
set_option maxRecDepth 100000
set_option linter.unusedVariables false
set_option linter.unusedSimpArgs false
set_option maxRecDepth 100000
namespace Go.Proofs.YteeiaaogmjbcjaaGreat
open Go.RowKit Go.Proofs.YteeiaaogmjbcjaaGreat.Av Go.Proofs.YteeiaaogmjbcjaaGreat.Ml
open Go.Proofs.YteeiaaogmjbcjaaGreat.Av.AVal (av)
open OVal (ov oh on)
open Mk (mkv cnt)

instance : OVal A0 where
 ty := 36
 ov nm vs x := .agg [.int .i64 x.kind, .int .i64 x.n, .str x.s, ov (sub nm 0) vs x.kids]
 oh nm vs x := oh (sub nm 0) vs x.kids
 on nm x := on (sub nm 0) x.kids
 names nm vs x := OVal.names _ _ _
 inn nm x k h := (OVal.inn _ _ _ h).up
 self nm vs x := OVal.self _ _ _
 KR nm vs vs' x h := by
  obtain ⟨a0, b0⟩ := OVal.KR (sub nm 0) vs vs' x.kids (fun k hk => h k hk.up)
  simp only [a0, b0, and_self]
 KV nm vs x hp h := by
  have h0 := OVal.KV (sub nm 0) vs x.kids hp h
  show AV.agg [.int .i64 x.kind, .int .i64 x.n, .str x.s, (ov (sub nm 0) vs x.kids).pur (B9 (on (sub nm 0) x.kids) hp)] = av x
  rw [h0]; rfl
 dep nm vs x hp hp' h := by
  have h0 := OVal.dep (sub nm 0) vs x.kids hp hp' (fun k hk => h k hk.up)
  show AV.agg [.int .i64 x.kind, .int .i64 x.n, .str x.s, (ov (sub nm 0) vs x.kids).pur hp] = AV.agg [.int .i64 x.kind, .int .i64 x.n, .str x.s, (ov (sub nm 0) vs x.kids).pur hp']
  rw [h0]
 free nm vs x p h := by exact OVal.free _ _ _ p h
 PC nm vs x y hx := by
  simp only [AV.cells, List.mem_cons, List.not_mem_nil, or_false] at hx
  rcases hx with rfl | rfl | rfl | rfl <;> rfl
 ok _ _ _ := rfl
 agg _ _ _ := rfl
 len _ _ _ := rfl
theorem MF (nm : Nat) (vs : Nat → Nat) (x : A0) : ov nm vs x = .agg [.int .i64 x.kind, .int .i64 x.n, .str x.s, .row (sub nm 0) (vs (sub nm 0)) x.kids.length] := eqq rfl
theorem R8 (nm : Nat) (vs : Nat → Nat) (x : A0) : oh nm vs x = oh (sub nm 0) vs x.kids := rfl

instance : Mk A0 := ⟨fun k x => ⟨k, k + 1, ZA (k + 1 + 1), mkL (k + 1 + 1 + 1) x.kids⟩, fun x => 3 + G4 x.kids⟩
theorem Yk (x : A0) : cnt x = 3 + G4 x.kids := rfl
instance : MkB A0 := ⟨fun x => by
 have hbx : AE.bulk x = AE.bulk x.kind + AE.bulk x.n + AE.bulk x.s + AE.bulk x.kids + 1 := rfl
 have hbx_0 : AE.bulk x.kind = 1 := rfl
 have hbx_1 : AE.bulk x.n = 1 := rfl
 have hbx_2 : AE.bulk x.s = x.s.size + 1 := rfl
 have hbx_3 := FD x.kids
 rw [Yk]
 omega⟩

instance : OVal Pat where
 ty := 25
 ov nm vs x := .agg [ov (sub nm 0) vs x.nodes]
 oh nm vs x := oh (sub nm 0) vs x.nodes
 on nm x := on (sub nm 0) x.nodes
 names nm vs x := OVal.names _ _ _
 inn nm x k h := (OVal.inn _ _ _ h).up
 self nm vs x := OVal.self _ _ _
 KR nm vs vs' x h := by
  obtain ⟨a0, b0⟩ := OVal.KR (sub nm 0) vs vs' x.nodes (fun k hk => h k hk.up)
  simp only [a0, b0, and_self]
 KV nm vs x hp h := by
  have h0 := OVal.KV (sub nm 0) vs x.nodes hp h
  show AV.agg [(ov (sub nm 0) vs x.nodes).pur (B9 (on (sub nm 0) x.nodes) hp)] = av x
  rw [h0]; rfl
 dep nm vs x hp hp' h := by
  have h0 := OVal.dep (sub nm 0) vs x.nodes hp hp' (fun k hk => h k hk.up)
  show AV.agg [(ov (sub nm 0) vs x.nodes).pur hp] = AV.agg [(ov (sub nm 0) vs x.nodes).pur hp']
  rw [h0]
 free nm vs x p h := by exact OVal.free _ _ _ p h
 PC nm vs x y hx := by
  simp only [AV.cells, List.mem_cons, List.not_mem_nil, or_false] at hx
  subst hx <;> rfl
 ok _ _ _ := rfl
 agg _ _ _ := rfl
 len _ _ _ := rfl
theorem UB (nm : Nat) (vs : Nat → Nat) (x : Pat) : ov nm vs x = .agg [.row (sub nm 0) (vs (sub nm 0)) x.nodes.length] := eqq rfl
theorem AbZ (nm : Nat) (vs : Nat → Nat) (x : Pat) : oh nm vs x = oh (sub nm 0) vs x.nodes := rfl

instance : Mk Pat := ⟨fun k x => ⟨mkL (k) x.nodes⟩, fun x => G4 x.nodes⟩
theorem Abi (x : Pat) : cnt x = G4 x.nodes := rfl
instance : MkB Pat := ⟨fun x => by
 have hbx : AE.bulk x = AE.bulk x.nodes + 1 := rfl
 have hbx_0 := FD x.nodes
 rw [Abi]
 omega⟩

end Go.Proofs.YteeiaaogmjbcjaaGreat
set_option linter.unusedVariables false
set_option maxRecDepth 100000
namespace Go.Proofs.YteeiaaogmjbcjaaGreat
open Go.Proofs.YteeiaaogmjbcjaaGreat.Av

theorem Gu : Tryz.prog.follows .mixedOrders = true := by kernel_rfl

def GM : Ir Tryz.prog 164 [(116, 7777), (14, 7777), (157, 7777), (170, 7777), (172, 7777), (188, 7777), (201, 7777), (203, 7777), (21, 7777), (214, 7777), (221, 7777), (224, 7777), (23, 7777), (74, 7777)] [9999] 2 := ⟨_, _, Tryz.func164, Gu, by kernel_rfl, Az [] Tryz.progTables (by conv => lhs; cbv) (by kernel_rfl)⟩
def DE : Ir Tryz.prog 155 [(18, 7777), (19, 7777), (22, 7777), (28, 7777), (29, 7777), (33, 7777), (35, 7777), (48, 7777)] [9999] 2 := ⟨_, _, Tryz.func155, Gu, by kernel_rfl, Az [] Tryz.progTables (by conv => lhs; cbv) (by kernel_rfl)⟩
def Fb : Ir Tryz.prog 24 [(13,29), (36, 7777)] [9999] 2 := ⟨_, _, Tryz.func24, Gu, by kernel_rfl, Az [] Tryz.progTables (by conv => lhs; cbv) (by kernel_rfl)⟩
end Go.Proofs.YteeiaaogmjbcjaaGreat
set_option linter.unusedVariables false
namespace Go.Proofs.YteeiaaogmjbcjaaGreat
open Go.RowKit Go.Proofs.YteeiaaogmjbcjaaGreat.Ml

structure Ck where
 var : Int
 name : ByteArray
 arity : Int
 deriving DecidableEq, Inhabited

def Ck.rep (S : Nat → Prop) (w : World) (cs : List Value) (x : Ck) : Prop := cs = [Value.int .i64 x.var, Value.string x.name, Value.int .i64 x.arity] ∧ (-9223372036854775808 ≤ x.var ∧ x.var ≤ 9223372036854775807) ∧ x.name.size ≤ maxLen ∧ (-9223372036854775808 ≤ x.arity ∧ x.arity ≤ 9223372036854775807)
instance : Rep Ck where
 n := 3
 rep := Ck.rep
 len := by rintro _ _ _ _ ⟨rfl, _⟩; rfl
 carry := by rintro _ _ _ _ _ _ ⟨rfl, h0, h1, h2⟩ hS hw; exact ⟨rfl, h0, h1, h2⟩
instance : AE Ck := ⟨fun x => AE.bulk x.var + AE.bulk x.name + AE.bulk x.arity + 1, fun _ => by omega⟩

structure Ty where
 items : List Ck
 deriving DecidableEq, Inhabited

def Ty.rep (S : Nat → Prop) (w : World) (cs : List Value) (x : Ty) : Prop := ∃ v0, cs = [v0] ∧ DI S w v0 x.items
instance : Rep Ty where
 n := 1
 rep := Ty.rep
 len := by rintro _ _ _ _ ⟨v0, rfl, _⟩; rfl
 carry := by rintro _ _ _ _ _ _ ⟨v0, rfl, h0⟩ hS hw; exact ⟨v0, rfl, h0.carry hS hw⟩
instance : AE Ty := ⟨fun x => AE.bulk x.items + 1, fun _ => by omega⟩

end Go.Proofs.YteeiaaogmjbcjaaGreat
set_option linter.unusedVariables false
namespace Go.Proofs.YteeiaaogmjbcjaaGreat
open Go.RowKit Go.Proofs.YteeiaaogmjbcjaaGreat.Ml

structure Con where
 name : ByteArray
 has : Bool
 arg : Ty
 deriving DecidableEq, Inhabited

def Con.rep (S : Nat → Prop) (w : World) (cs : List Value) (x : Con) : Prop := ∃ v2, cs = [Value.string x.name, Value.bool x.has, v2] ∧ x.name.size ≤ maxLen ∧ DI S w v2 x.arg.items
instance : Rep Con where
 n := 3
 rep := Con.rep
 len := by rintro _ _ _ _ ⟨v2, rfl, _⟩; rfl
 carry := by rintro _ _ _ _ _ _ ⟨v2, rfl, h0, h1⟩ hS hw; exact ⟨v2, rfl, h0, h1.carry hS hw⟩
instance : AE Con := ⟨fun x => AE.bulk x.name + AE.bulk x.has + AE.bulk x.arg + 1, fun _ => by omega⟩

structure LW where
 name : ByteArray
 params : Int
 cons : List Con
 deriving DecidableEq, Inhabited

def LW.rep (S : Nat → Prop) (w : World) (cs : List Value) (x : LW) : Prop := ∃ v2, cs = [Value.string x.name, Value.int .i64 x.params, v2] ∧ x.name.size ≤ maxLen ∧ (-9223372036854775808 ≤ x.params ∧ x.params ≤ 9223372036854775807) ∧ DI S w v2 x.cons
instance : Rep LW where
 n := 3
 rep := LW.rep
 len := by rintro _ _ _ _ ⟨v2, rfl, _⟩; rfl
 carry := by rintro _ _ _ _ _ _ ⟨v2, rfl, h0, h1, h2⟩ hS hw; exact ⟨v2, rfl, h0, h1, h2.carry hS hw⟩
instance : AE LW := ⟨fun x => AE.bulk x.name + AE.bulk x.params + AE.bulk x.cons + 1, fun _ => by omega⟩

structure Node where
 kind : Int
 pos : Int
 n : Int
 s : ByteArray
 kids : List Int
 Aa0 : List Pat
 deriving DecidableEq, Inhabited

def Node.rep (S : Nat → Prop) (w : World) (cs : List Value) (x : Node) : Prop := ∃ v4 v5, cs = [Value.int .i64 x.kind, Value.int .i64 x.pos, Value.int .i64 x.n, Value.string x.s, v4, v5] ∧ (-9223372036854775808 ≤ x.kind ∧ x.kind ≤ 9223372036854775807) ∧ (-9223372036854775808 ≤ x.pos ∧ x.pos ≤ 9223372036854775807) ∧ (-9223372036854775808 ≤ x.n ∧ x.n ≤ 9223372036854775807) ∧ x.s.size ≤ maxLen ∧ DI S w v4 x.kids ∧ DI S w v5 x.Aa0
instance : Rep Node where
 n := 6
 rep := Node.rep
 len := by rintro _ _ _ _ ⟨v4, v5, rfl, _⟩; rfl
 carry := by rintro _ _ _ _ _ _ ⟨v4, v5, rfl, h0, h1, h2, h3, h4, h5⟩ hS hw; exact ⟨v4, v5, rfl, h0, h1, h2, h3, h4.carry hS hw, h5.carry hS hw⟩
instance : AE Node := ⟨fun x => AE.bulk x.kind + AE.bulk x.pos + AE.bulk x.n + AE.bulk x.s + AE.bulk x.kids + AE.bulk x.Aa0 + 1, fun _ => by omega⟩

structure Program where
 types : List LW
 nodes : List Node
 deriving DecidableEq, Inhabited

def Program.rep (S : Nat → Prop) (w : World) (cs : List Value) (x : Program) : Prop := ∃ v0 v1, cs = [v0, v1] ∧ DI S w v0 x.types ∧ DI S w v1 x.nodes
instance : Rep Program where
 n := 2
 rep := Program.rep
 len := by rintro _ _ _ _ ⟨v0, v1, rfl, _⟩; rfl
 carry := by rintro _ _ _ _ _ _ ⟨v0, v1, rfl, h0, h1⟩ hS hw; exact ⟨v0, v1, rfl, h0.carry hS hw, h1.carry hS hw⟩
instance : AE Program := ⟨fun x => AE.bulk x.types + AE.bulk x.nodes + 1, fun _ => by omega⟩

end Go.Proofs.YteeiaaogmjbcjaaGreat
set_option linter.unusedVariables false
set_option maxRecDepth 100000
set_option linter.unusedVariables false
set_option linter.unusedSimpArgs false
set_option maxRecDepth 100000
namespace Go.Proofs.YteeiaaogmjbcjaaGreat
open Go.RowKit Go.Proofs.YteeiaaogmjbcjaaGreat.Av Go.Proofs.YteeiaaogmjbcjaaGreat.Ml
open Go.Proofs.YteeiaaogmjbcjaaGreat.Av.AVal (av)

instance : AVal Ck := ⟨fun x => .agg [.int .i64 x.var, .str x.name, .int .i64 x.arity], 3, fun _ => rfl, fun _ => rfl, fun x y hy => by
 simp only [AV.cells, List.mem_cons, List.not_mem_nil, or_false] at hy
 rcases hy with rfl | rfl | rfl <;> first | exact Ap.int _ _ | exact Ap.str _ | exact Ap.bool _, fun _ _ => rfl, fun x y hy => by
 simp only [AV.cells, List.mem_cons, List.not_mem_nil, or_false] at hy
 rcases hy with rfl | rfl | rfl <;> rfl⟩
instance : DR Ck := ⟨fun {S w cs y} h => by
 obtain ⟨rfl, h0, h1, h2⟩ := h
 exact VRs.cons (.int _ _ h0.1 h0.2) (VRs.cons (.str _ h1) (VRs.cons (.int _ _ h2.1 h2.2) (VRs.nil)))⟩

instance : AVal Ty := ⟨fun x => .agg [.sl (x.items.map av)], 1, fun _ => rfl, fun _ => rfl, fun x y hy => by
 simp only [AV.cells, List.mem_cons, List.not_mem_nil, or_false] at hy
 subst hy; first | exact Ap.int _ _ | exact Ap.str _ | exact Ap.bool _ | exact AD x.items, fun _ _ => rfl, fun x y hy => by
 simp only [AV.cells, List.mem_cons, List.not_mem_nil, or_false] at hy
 subst hy; rfl⟩
theorem PO (x : Ty) : av x = .agg [.sl (x.items.map av)] := eqq rfl
instance : DR Ty := ⟨fun {S w cs y} h => by
 obtain ⟨v0, rfl, r0⟩ := h
 exact VRs.cons (Cp r0) (VRs.nil)⟩

end Go.Proofs.YteeiaaogmjbcjaaGreat
set_option linter.unusedVariables false
set_option maxRecDepth 100000
set_option linter.unusedVariables false
set_option linter.unusedSimpArgs false
set_option maxRecDepth 100000
namespace Go.Proofs.YteeiaaogmjbcjaaGreat
open Go.RowKit Go.Proofs.YteeiaaogmjbcjaaGreat.Av Go.Proofs.YteeiaaogmjbcjaaGreat.Ml
open Go.Proofs.YteeiaaogmjbcjaaGreat.Av.AVal (av)

instance : AVal Con := ⟨fun x => .agg [.str x.name, .bool x.has, .sl (x.arg.items.map av)], 3, fun _ => rfl, fun _ => rfl, fun x y hy => by
 simp only [AV.cells, List.mem_cons, List.not_mem_nil, or_false] at hy
 rcases hy with rfl | rfl | rfl <;> first | exact Ap.int _ _ | exact Ap.str _ | exact Ap.bool _ | exact AD x.arg.items, fun _ _ => rfl, fun x y hy => by
 simp only [AV.cells, List.mem_cons, List.not_mem_nil, or_false] at hy
 rcases hy with rfl | rfl | rfl <;> rfl⟩
instance : DR Con := ⟨fun {S w cs y} h => by
 obtain ⟨v2, rfl, h0, r2⟩ := h
 exact VRs.cons (.str _ h0) (VRs.cons (.bool _) (VRs.cons (Cp r2) (VRs.nil)))⟩

instance : AVal LW := ⟨fun x => .agg [.str x.name, .int .i64 x.params, .sl (x.cons.map av)], 3, fun _ => rfl, fun _ => rfl, fun x y hy => by
 simp only [AV.cells, List.mem_cons, List.not_mem_nil, or_false] at hy
 rcases hy with rfl | rfl | rfl <;> first | exact Ap.int _ _ | exact Ap.str _ | exact Ap.bool _ | exact AD x.cons, fun _ _ => rfl, fun x y hy => by
 simp only [AV.cells, List.mem_cons, List.not_mem_nil, or_false] at hy
 rcases hy with rfl | rfl | rfl <;> rfl⟩
instance : DR LW := ⟨fun {S w cs y} h => by
 obtain ⟨v2, rfl, h0, h1, r2⟩ := h
 exact VRs.cons (.str _ h0) (VRs.cons (.int _ _ h1.1 h1.2) (VRs.cons (Cp r2) (VRs.nil)))⟩

instance : AVal Node := ⟨fun x => .agg [.int .i64 x.kind, .int .i64 x.pos, .int .i64 x.n, .str x.s, .sl (x.kids.map av), .sl (x.Aa0.map av)], 6, fun _ => rfl, fun _ => rfl, fun x y hy => by
 simp only [AV.cells, List.mem_cons, List.not_mem_nil, or_false] at hy
 rcases hy with rfl | rfl | rfl | rfl | rfl | rfl <;> first | exact Ap.int _ _ | exact Ap.str _ | exact Ap.bool _ | exact AD x.kids | exact AD x.Aa0, fun _ _ => rfl, fun x y hy => by
 simp only [AV.cells, List.mem_cons, List.not_mem_nil, or_false] at hy
 rcases hy with rfl | rfl | rfl | rfl | rfl | rfl <;> rfl⟩
instance : DR Node := ⟨fun {S w cs y} h => by
 obtain ⟨v4, v5, rfl, h0, h1, h2, h3, r4, r5⟩ := h
 exact VRs.cons (.int _ _ h0.1 h0.2) (VRs.cons (.int _ _ h1.1 h1.2) (VRs.cons (.int _ _ h2.1 h2.2) (VRs.cons (.str _ h3) (VRs.cons (Cp r4) (VRs.cons (Cp r5) (VRs.nil))))))⟩

instance : AVal Program := ⟨fun x => .agg [.sl (x.types.map av), .sl (x.nodes.map av)], 2, fun _ => rfl, fun _ => rfl, fun x y hy => by
 simp only [AV.cells, List.mem_cons, List.not_mem_nil, or_false] at hy
 rcases hy with rfl | rfl <;> first | exact Ap.int _ _ | exact Ap.str _ | exact Ap.bool _ | exact AD x.types | exact AD x.nodes, fun _ _ => rfl, fun x y hy => by
 simp only [AV.cells, List.mem_cons, List.not_mem_nil, or_false] at hy
 rcases hy with rfl | rfl <;> rfl⟩
instance : DR Program := ⟨fun {S w cs y} h => by
 obtain ⟨v0, v1, rfl, r0, r1⟩ := h
 exact VRs.cons (Cp r0) (VRs.cons (Cp r1) (VRs.nil))⟩

end Go.Proofs.YteeiaaogmjbcjaaGreat
set_option linter.unusedVariables false
set_option maxRecDepth 100000
namespace Go.Proofs.YteeiaaogmjbcjaaGreat
open Go.Proofs.YteeiaaogmjbcjaaGreat.Av

theorem D3 : Tryz.prog.follows .mixedOrders = true := by kernel_rfl

def GO : Ir Tryz.prog 159 [(47,47), (105, 7777), (107, 7777), (109, 7777), (114, 7777), (16, 7777), (37, 7777), (82, 7777), (84, 7777), (88, 7777), (90, 7777), (93, 7777)] [9999] 2 := ⟨_, _, Tryz.func159, D3, by kernel_rfl, Az [] Tryz.progTables (by conv => lhs; cbv) (by kernel_rfl)⟩
def Hx : Ir Tryz.prog 151 [(16, 7777), (19, 7777), (22, 7777), (24, 7777), (35, 7777), (37, 7777), (8, 7777)] [9999] 2 := ⟨_, _, Tryz.func151, D3, by kernel_rfl, Az [10003, 10006] Tryz.progTables (by conv => lhs; cbv) (by kernel_rfl)⟩
def Dq : Ir Tryz.prog 140 [(16, 7777), (17, 7777), (21, 7777), (23, 7777), (35, 7777), (37, 7777)] [9999] 2 := ⟨_, _, Tryz.func140, D3, by kernel_rfl, Az [10009] Tryz.progTables (by conv => lhs; cbv) (by kernel_rfl)⟩
def Hy : Ir Tryz.prog 137 [(18, 7777), (20, 7777), (22, 7777), (24, 7777), (36, 7777), (38, 7777), (40, 7777), (50, 7777), (55, 7777), (73, 7777), (9, 7777)] [9999, 2] 1 := ⟨_, _, Tryz.func137, D3, by kernel_rfl, Az [10016] Tryz.progTables (by conv => lhs; cbv) (by kernel_rfl)⟩
def Hv : Ir Tryz.prog 113 [(15, 7777), (18, 7777), (28, 7777), (37, 7777), (47, 7777), (6, 7777), (8, 7777)] [9999, 9] 1 := ⟨_, _, Tryz.func113, D3, by kernel_rfl, Az [] Tryz.progTables (by conv => lhs; cbv) (by kernel_rfl)⟩
end Go.Proofs.YteeiaaogmjbcjaaGreat
set_option linter.unusedVariables false
set_option linter.unusedSimpArgs false
namespace Go.Proofs.YteeiaaogmjbcjaaGreat
open Go.RowKit Go.Proofs.YteeiaaogmjbcjaaGreat.Av Go.Proofs.YteeiaaogmjbcjaaGreat.Ml
open Go.Proofs.YteeiaaogmjbcjaaGreat.Av.AVal (av)

def slN : List AV → AV
 | [] => .Au
 | x :: l => .sl (x :: l)
mutual
def psA : Px → AV
 | .mk n ks => .agg [.int .i64 n.kind, .int .i64 n.n, .str n.s, .Au, slN (Ze ks)]
def Ze : List Px → List AV
 | [] => []
 | t :: ts => psA t :: Ze ts
end
theorem RY : ∀ ks, Ze ks = ks.map psA
 | [] => by rw [Ze]; rfl
 | t :: ts => by rw [Ze, RY ts]; rfl
theorem Ds (n : Hd) (ks : List Px) : psA (.mk n ks) = .agg [.int .i64 n.kind, .int .i64 n.n, .str n.s, .Au, slN (ks.map psA)] := by rw [psA, RY]
theorem J4 (l : List AV) : (slN l).one = true := by cases l <;> rfl
theorem DY (hp : Hp) (l : List AV) : (slN l).Bs hp = slN l := by cases l <;> rfl
theorem CX (t : Px) (hp : Hp) : (psA t).pur hp = psA t := by
 cases t with | mk n ks =>
 rw [Ds]
 simp only [AV.pur, List.map_cons, List.map_nil, DY]
 rfl
theorem Gc (t : Px) (hp : Hp) : (psA t).BN hp = psA t := by
 have h := CX t hp
 cases t with | mk n ks =>
 rw [Ds] at h ⊢
 exact h
theorem CZ (t : Px) : (psA t).cells.length = 5 := by cases t with | mk n ks => rw [Ds]; rfl
theorem EY (t : Px) : (psA t).ok = true := by cases t with | mk n ks => rw [Ds]; rfl
theorem Qh (t : Px) (F : Nat → AV) (esz i : Nat) (es : List AV) (ps : List (Nat × AB)) (k : List AV → Prop) : F5 (psA t) F esz i es ps k = (((psA t).cells.length = esz ∧ i < es.length) ∧ EE F esz (es.set i (psA t)) ps k) := by simp [F5, EY]
inductive PxW (m : Nat) : Px → Prop
 | mk (n : Hd) (ks : List Px) (h1 : 0 ≤ n.kind ∧ n.kind ≤ 7) (h2 : -9000000000000000000 ≤ n.n ∧ n.n ≤ 9000000000000000000) (h3 : n.s.size ≤ m) (h4 : ks.length ≤ 2) (h5 : ∀ k ∈ ks, PxW m k) : PxW m (.mk n ks)
end Go.Proofs.YteeiaaogmjbcjaaGreat
