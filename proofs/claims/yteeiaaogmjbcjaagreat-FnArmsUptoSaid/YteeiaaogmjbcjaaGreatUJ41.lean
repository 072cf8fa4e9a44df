/-
 THE DRAWN VALUES ARE RIGHT: the plain text. Conditions: none.
-/
import Derived.Test.YteeiaaogmjbcjaaGreatUHitD
import Derived.Test.YteeiaaogmjbcjaaGreatUJ18
import Derived.Test.YteeiaaogmjbcjaaGreatUJ17
import Derived.Test.YteeiaaogmjbcjaaGreatProg
import Derived.Test.YteeiaaogmjbcjaaGreatUAvDraw
import Derived.Test.YteeiaaogmjbcjaaGreatUJ13
import Derived.Test.YteeiaaogmjbcjaaGreatUJ09
set_option linter.unusedVariables false
set_option linter.unusedSimpArgs false
set_option linter.unusedVariables false
set_option maxRecDepth 100000
set_option linter.unusedVariables false
set_option linter.unusedVariables false
set_option linter.unusedSimpArgs false
set_option maxRecDepth 100000
set_option linter.unusedVariables false
set_option linter.unusedSimpArgs false
set_option maxRecDepth 100000
namespace Go.Proofs.YteeiaaogmjbcjaaGreat
open Go.RowKit Go.Proofs.YteeiaaogmjbcjaaGreat.Av Go.Proofs.YteeiaaogmjbcjaaGreat.Ml
open Go.Proofs.YteeiaaogmjbcjaaGreat.Av.AVal (av)

theorem NM {hp : Hp} {K : AV → Hp → Prop} (i j v n : Nat) (ty : TypeId) (e b : Nat) : IV hp i ty e b (.row j v n) .Au K = KK (Aw hp j) hp j v n ty e b [] K := by
 unfold IV L3 KK Ej; simp only [Option.map_some, List.map_nil]; cases Aw hp j <;> rfl
structure HsS where
 j : Nat
 a : List Px
 u : Nat
end Go.Proofs.YteeiaaogmjbcjaaGreat
set_option linter.unusedVariables false
set_option maxRecDepth 100000
set_option linter.unusedVariables false
set_option linter.unusedSimpArgs false
set_option maxRecDepth 100000
namespace Go.Proofs.YteeiaaogmjbcjaaGreat
open Go.RowKit Go.Proofs.YteeiaaogmjbcjaaGreat.Av Go.Proofs.YteeiaaogmjbcjaaGreat.Ml
open Go.Proofs.YteeiaaogmjbcjaaGreat.Av.AVal (av)
open OVal (ov oh on)
open Mk (mkv cnt)

instance : OVal Ask where
 ty := 98
 ov nm vs x := .agg [.int .i64 x.arm, ov (sub nm 0) vs x.path, .int .i64 x.kind, .int .i64 x.n, .str x.s, .bool x.has, .int .i64 x.yes, .int .i64 x.no]
 oh nm vs x := oh (sub nm 0) vs x.path
 on nm x := on (sub nm 0) x.path
 names nm vs x := OVal.names _ _ _
 inn nm x k h := (OVal.inn _ _ _ h).up
 self nm vs x := OVal.self _ _ _
 KR nm vs vs' x h := by
  obtain ⟨a0, b0⟩ := OVal.KR (sub nm 0) vs vs' x.path (fun k hk => h k hk.up)
  simp only [a0, b0, and_self]
 KV nm vs x hp h := by
  have h0 := OVal.KV (sub nm 0) vs x.path hp h
  show AV.agg [.int .i64 x.arm, (ov (sub nm 0) vs x.path).pur (B9 (on (sub nm 0) x.path) hp), .int .i64 x.kind, .int .i64 x.n, .str x.s, .bool x.has, .int .i64 x.yes, .int .i64 x.no] = av x
  rw [h0]; rfl
 dep nm vs x hp hp' h := by
  have h0 := OVal.dep (sub nm 0) vs x.path hp hp' (fun k hk => h k hk.up)
  show AV.agg [.int .i64 x.arm, (ov (sub nm 0) vs x.path).pur hp, .int .i64 x.kind, .int .i64 x.n, .str x.s, .bool x.has, .int .i64 x.yes, .int .i64 x.no] = AV.agg [.int .i64 x.arm, (ov (sub nm 0) vs x.path).pur hp', .int .i64 x.kind, .int .i64 x.n, .str x.s, .bool x.has, .int .i64 x.yes, .int .i64 x.no]
  rw [h0]
 free nm vs x p h := by exact OVal.free _ _ _ p h
 PC nm vs x y hx := by
  simp only [AV.cells, List.mem_cons, List.not_mem_nil, or_false] at hx
  rcases hx with rfl | rfl | rfl | rfl | rfl | rfl | rfl | rfl <;> rfl
 ok _ _ _ := rfl
 agg _ _ _ := rfl
 len _ _ _ := rfl
theorem Zu (nm : Nat) (vs : Nat → Nat) (x : Ask) : oh nm vs x = oh (sub nm 0) vs x.path := rfl

instance : Mk Ask := ⟨fun k x => ⟨k, mkL (k + 1) x.path, k + 1 + (G4 x.path : Int), k + 1 + (G4 x.path : Int) + 1, ZA (k + 1 + (G4 x.path : Int) + 1 + 1), decide ((k + 1 + (G4 x.path : Int) + 1 + 1 + 1).tmod 3 = 0), k + 1 + (G4 x.path : Int) + 1 + 1 + 1 + 1, k + 1 + (G4 x.path : Int) + 1 + 1 + 1 + 1 + 1⟩, fun x => 7 + G4 x.path⟩
theorem Abj (x : Ask) : cnt x = 7 + G4 x.path := rfl
instance : MkB Ask := ⟨fun x => by
 have hbx : AE.bulk x = AE.bulk x.arm + AE.bulk x.path + AE.bulk x.kind + AE.bulk x.n + AE.bulk x.s + AE.bulk x.has + AE.bulk x.yes + AE.bulk x.no + 1 := rfl
 have hbx_0 : AE.bulk x.arm = 1 := rfl
 have hbx_1 := FD x.path
 have hbx_2 : AE.bulk x.kind = 1 := rfl
 have hbx_3 : AE.bulk x.n = 1 := rfl
 have hbx_4 : AE.bulk x.s = x.s.size + 1 := rfl
 have hbx_5 : AE.bulk x.has = 1 := rfl
 have hbx_6 : AE.bulk x.yes = 1 := rfl
 have hbx_7 : AE.bulk x.no = 1 := rfl
 rw [Abj]
 omega⟩

instance : OVal Ek where
 ty := 44
 ov nm vs x := .agg [ov (sub nm 0) vs x.nodes]
 oh nm vs x := oh (sub nm 0) vs x.nodes
 on nm x := on (sub nm 0) x.nodes
 names nm vs x := OVal.names _ _ _
 inn nm x k h := (OVal.inn _ _ _ h).up
 self nm vs x := OVal.self _ _ _
 KR nm vs vs' x h := by
  obtain ⟨a0, b0⟩ := OVal.KR (sub nm 0) vs vs' x.nodes (fun k hk => h k hk.up)
  simp only [a0, b0, and_self]
 KV nm vs x hp h := by
  have h0 := OVal.KV (sub nm 0) vs x.nodes hp h
  show AV.agg [(ov (sub nm 0) vs x.nodes).pur (B9 (on (sub nm 0) x.nodes) hp)] = av x
  rw [h0]; rfl
 dep nm vs x hp hp' h := by
  have h0 := OVal.dep (sub nm 0) vs x.nodes hp hp' (fun k hk => h k hk.up)
  show AV.agg [(ov (sub nm 0) vs x.nodes).pur hp] = AV.agg [(ov (sub nm 0) vs x.nodes).pur hp']
  rw [h0]
 free nm vs x p h := by exact OVal.free _ _ _ p h
 PC nm vs x y hx := by
  simp only [AV.cells, List.mem_cons, List.not_mem_nil, or_false] at hx
  subst hx <;> rfl
 ok _ _ _ := rfl
 agg _ _ _ := rfl
 len _ _ _ := rfl
theorem V7 (nm : Nat) (vs : Nat → Nat) (x : Ek) : ov nm vs x = .agg [.row (sub nm 0) (vs (sub nm 0)) x.nodes.length] := eqq rfl
instance : Mk Ek := ⟨fun k x => ⟨mkL (k) x.nodes⟩, fun x => G4 x.nodes⟩
theorem Z6 (x : Ek) : cnt x = G4 x.nodes := rfl
instance : MkB Ek := ⟨fun x => by
 have hbx : AE.bulk x = AE.bulk x.nodes + 1 := rfl
 have hbx_0 := FD x.nodes
 rw [Z6]
 omega⟩

end Go.Proofs.YteeiaaogmjbcjaaGreat
set_option linter.unusedVariables false
set_option maxRecDepth 100000
namespace Go.Proofs.YteeiaaogmjbcjaaGreat
open Go.Proofs.YteeiaaogmjbcjaaGreat.Av

theorem BW : Tryz.prog.follows .mixedOrders = true := by kernel_rfl

def FY : Ir Tryz.prog 71 [] [] 1 := ⟨_, _, Tryz.func71, BW, by kernel_rfl, Az [] Tryz.progTables (by conv => lhs; cbv) (by kernel_rfl)⟩
def Es : Ir Tryz.prog 94 [] [9999] 2 := ⟨_, _, Tryz.func94, BW, by kernel_rfl, Az [] Tryz.progTables (by conv => lhs; cbv) (by kernel_rfl)⟩
def D1 : Ir Tryz.prog 72 [(24, 7777)] [] 1 := ⟨_, _, Tryz.func72, BW, by kernel_rfl, Az [] Tryz.progTables (by conv => lhs; cbv) (by kernel_rfl)⟩
def Dn : Ir Tryz.prog 41 [(37,37)] [] 2 := ⟨_, _, Tryz.func41, BW, by kernel_rfl, Az [] Tryz.progTables (by conv => lhs; cbv) (by kernel_rfl)⟩
def GR : Ir Tryz.prog 74 [] [] 2 := ⟨_, _, Tryz.func74, BW, by kernel_rfl, Az [] Tryz.progTables (by conv => lhs; cbv) (by kernel_rfl)⟩
def EO : Ir Tryz.prog 73 [] [] 2 := ⟨_, _, Tryz.func73, BW, by kernel_rfl, Az [] Tryz.progTables (by conv => lhs; cbv) (by kernel_rfl)⟩
def C9 : Ir Tryz.prog 95 [] [] 2 := ⟨_, _, Tryz.func95, BW, by kernel_rfl, Az [] Tryz.progTables (by conv => lhs; cbv) (by kernel_rfl)⟩
def Eh : Ir Tryz.prog 75 [(4,7776)] [9999] 1 := ⟨_, _, Tryz.func75, BW, by kernel_rfl, Az [] Tryz.progTables (by conv => lhs; cbv) (by kernel_rfl)⟩
def BA : Ir Tryz.prog 42 [(58,36),(136,36), (127, 7777), (141, 7777), (144, 7777)] [9999, 24,31] 2 := ⟨_, _, Tryz.func42, BW, by kernel_rfl, Az [] Tryz.progTables (by conv => lhs; cbv) (by kernel_rfl)⟩
def GV : Ir Tryz.prog 40 [] [] 1 := ⟨_, _, Tryz.func40, BW, by kernel_rfl, Az [] Tryz.progTables (by conv => lhs; cbv) (by kernel_rfl)⟩
def Db : Ir Tryz.prog 11 [(35,35),(16,32), (38, 7777)] [9999, 10] 1 := ⟨_, _, Tryz.func11, BW, by kernel_rfl, Az [] Tryz.progTables (by conv => lhs; cbv) (by kernel_rfl)⟩
end Go.Proofs.YteeiaaogmjbcjaaGreat
