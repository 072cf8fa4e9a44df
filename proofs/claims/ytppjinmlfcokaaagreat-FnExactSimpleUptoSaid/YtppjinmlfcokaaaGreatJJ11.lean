/-
 THE COMPARISON OF PROGRAMS WHOSE NODES ARE LARGE TOGETHER. Conditions: none.
-/
import Derived.Test.YtppjinmlfcokaaaGreatJGProg
import Derived.Test.YtppjinmlfcokaaaGreatProg
import Derived.Test.YtppjinmlfcokaaaGreatJAvDraw
set_option linter.unusedVariables false
set_option linter.unusedSimpArgs false
set_option maxRecDepth 100000
namespace Go.Proofs.YtppjinmlfcokaaaGreat
open Go.RowKit Go.Proofs.YtppjinmlfcokaaaGreat.Av Go.Proofs.YtppjinmlfcokaaaGreat.Ml
open Go.Proofs.YtppjinmlfcokaaaGreat.Av.AVal (av)

theorem Wq (l : List Node) (hl : l.length ≤ 4294967296) (hx : ∀ n ∈ l, Ac.bulk n ≤ 4294967296) : Ak Tryz.prog 28 [.sl (l.map av), .sl (l.map av)] (.bool true) := by
 refine Ft.F rfl (by simp; exact Ao l) (Ae.bool _) ?_
 simp +contextual -dsimp (maxSteps := 2000000) only [↓SD, SU, simprocAttr, Ft, Aa]
 refine Am (X := Nat) (fun k => ⟨[(0, .sl (l.map av)), (1, .sl (l.map av)), (5, .int .i64 k)], []⟩) (fun k => k ≤ l.length) (fun k => l.length - k) 0 (Nat.zero_le _) (by simp +contextual -dsimp only [↓SD, SU, simprocAttr]) trivial ?_
 intro k hk
 by_cases hlt : k < l.length
 ·have e := getD_map av l k .top hlt
  have hbk : Ac.bulk l[k] ≤ 4294967296 := hx _ (List.getElem_mem hlt)
  simp +contextual -dsimp (maxSteps := 2000000) only [↓SD, SU, simprocAttr, Aa, hlt, e, Ay]
  have C := Sp l[k] hbk
  rw [Ay] at C
  refine Ab _ C ?_
  simp +contextual -dsimp (maxSteps := 2000000) only [↓SD, SU, simprocAttr, Aa, hlt, e, Ay]
  exact ⟨by omega, Af.le ⟨k + 1, ⟨hlt, (by first | omega | (simp only; omega))⟩, rfl⟩ (by simp +contextual -dsimp only [↓SD, SU, simprocAttr, Int.natCast_add]) trivial⟩
 ·obtain rfl : k = l.length := by omega
  simp +contextual -dsimp (maxSteps := 2000000) only [↓SD, SU, simprocAttr, Aa, Nat.lt_irrefl]
theorem Ra (x : Program) (h1 : Ac.bulk x.types ≤ 4294967296) (h2 : x.nodes.length ≤ 4294967296) (h3 : ∀ n ∈ x.nodes, Ac.bulk n ≤ 4294967296) : Ak Tryz.prog 9 [av x, av x] (.bool true) := by
 refine Et.F rfl (by simp; exact AVal.clean x) (Ae.bool _) ?_
 simp +contextual -dsimp (maxSteps := 2000000) only [↓SD, SU, simprocAttr, Et, Ad, beq_self_eq_true]
 refine Ab _ (Qt x.types h1) ?_
 simp +contextual -dsimp (maxSteps := 2000000) only [↓SD, SU, simprocAttr, beq_self_eq_true]
 refine Ab _ (Wq x.nodes h2 h3) ?_
 simp +contextual -dsimp (maxSteps := 2000000) only [↓SD, SU, simprocAttr, beq_self_eq_true]
end Go.Proofs.YtppjinmlfcokaaaGreat
set_option linter.unusedVariables false
set_option maxRecDepth 100000
namespace Go.Proofs.YtppjinmlfcokaaaGreat
open Go.Proofs.YtppjinmlfcokaaaGreat.Av

theorem OS : Tryz.prog.follows .mixedOrders = true := by kernel_rfl

def Gg : Ir Tryz.prog 4 [(15, 7777), (23, 7777), (26, 7777), (38, 7777), (49, 7777), (61, 7777)] [] 2 := ⟨_, _, Tryz.func4, OS, by kernel_rfl, Ah [] Tryz.progTables (by conv => lhs; cbv) (by kernel_rfl)⟩
end Go.Proofs.YtppjinmlfcokaaaGreat
set_option linter.unusedVariables false
set_option maxRecDepth 100000
namespace Go.Proofs.YtppjinmlfcokaaaGreat
open Go.Proofs.YtppjinmlfcokaaaGreat.Av

theorem Bm : Tryz.prog.follows .mixedOrders = true := by kernel_rfl

def GZ : Ir Tryz.prog 202 [] [9999] 1 := ⟨_, _, Tryz.func202, Bm, by kernel_rfl, Ah [] Tryz.progTables (by conv => lhs; cbv) (by kernel_rfl)⟩
def G1 : Ir Tryz.prog 136 [] [9999] 2 := ⟨_, _, Tryz.func136, Bm, by kernel_rfl, Ah [] Tryz.progTables (by conv => lhs; cbv) (by kernel_rfl)⟩
def G3 : Ir Tryz.prog 138 [] [] 2 := ⟨_, _, Tryz.func138, Bm, by kernel_rfl, Ah [] Tryz.progTables (by conv => lhs; cbv) (by kernel_rfl)⟩
def KJ : Ir Tryz.prog 186 [(6, 7777)] [9999] 1 := ⟨_, _, Tryz.func186, Bm, by kernel_rfl, Ah [] Tryz.progTables (by conv => lhs; cbv) (by kernel_rfl)⟩
def Kc : Ir Tryz.prog 150 [(12, 7777)] [9999] 1 := ⟨_, _, Tryz.func150, Bm, by kernel_rfl, Ah [] Tryz.progTables (by conv => lhs; cbv) (by kernel_rfl)⟩
def Je : Ir Tryz.prog 89 [(20, 7777)] [9999] 1 := ⟨_, _, Tryz.func89, Bm, by kernel_rfl, Ah [] Tryz.progTables (by conv => lhs; cbv) (by kernel_rfl)⟩
def Ji : Ir Tryz.prog 70 [(36, 7777)] [9999] 2 := ⟨_, _, Tryz.func70, Bm, by kernel_rfl, Ah [] Tryz.progTables (by conv => lhs; cbv) (by kernel_rfl)⟩
def Jl : Ir Tryz.prog 73 [] [] 2 := ⟨_, _, Tryz.func73, Bm, by kernel_rfl, Ah [] Tryz.progTables (by conv => lhs; cbv) (by kernel_rfl)⟩
def I8 : Ir Tryz.prog 45 [(12, 7777)] [9999] 1 := ⟨_, _, Tryz.func45, Bm, by kernel_rfl, Ah [] Tryz.progTables (by conv => lhs; cbv) (by kernel_rfl)⟩
def Ib : Ir Tryz.prog 20 [(20, 7777)] [9999] 1 := ⟨_, _, Tryz.func20, Bm, by kernel_rfl, Ah [] Tryz.progTables (by conv => lhs; cbv) (by kernel_rfl)⟩
def Ii : Ir Tryz.prog 34 [(33, 7777)] [9999] 2 := ⟨_, _, Tryz.func34, Bm, by kernel_rfl, Ah [] Tryz.progTables (by conv => lhs; cbv) (by kernel_rfl)⟩
def Ik : Ir Tryz.prog 36 [] [] 2 := ⟨_, _, Tryz.func36, Bm, by kernel_rfl, Ah [] Tryz.progTables (by conv => lhs; cbv) (by kernel_rfl)⟩
def Jc : Ir Tryz.prog 46 [(18, 7777), (22, 7777)] [9999] 1 := ⟨_, _, Tryz.func46, Bm, by kernel_rfl, Ah [] Tryz.progTables (by conv => lhs; cbv) (by kernel_rfl)⟩
def Ih : Ir Tryz.prog 21 [(20, 7777)] [9999] 1 := ⟨_, _, Tryz.func21, Bm, by kernel_rfl, Ah [] Tryz.progTables (by conv => lhs; cbv) (by kernel_rfl)⟩
def Ij : Ir Tryz.prog 35 [(47, 7777), (54, 7777)] [9999] 2 := ⟨_, _, Tryz.func35, Bm, by kernel_rfl, Ah [] Tryz.progTables (by conv => lhs; cbv) (by kernel_rfl)⟩
def Il : Ir Tryz.prog 37 [] [] 2 := ⟨_, _, Tryz.func37, Bm, by kernel_rfl, Ah [] Tryz.progTables (by conv => lhs; cbv) (by kernel_rfl)⟩
def G0 : Ir Tryz.prog 7 [(10, 7777), (6, 7777)] [9999] 1 := ⟨_, _, Tryz.func7, Bm, by kernel_rfl, Ah [] Tryz.progTables (by conv => lhs; cbv) (by kernel_rfl)⟩
def G2 : Ir Tryz.prog 12 [(12, 7777), (8, 7777)] [9999] 2 := ⟨_, _, Tryz.func12, Bm, by kernel_rfl, Ah [] Tryz.progTables (by conv => lhs; cbv) (by kernel_rfl)⟩
def G4 : Ir Tryz.prog 13 [] [] 2 := ⟨_, _, Tryz.func13, Bm, by kernel_rfl, Ah [] Tryz.progTables (by conv => lhs; cbv) (by kernel_rfl)⟩
end Go.Proofs.YtppjinmlfcokaaaGreat
set_option linter.unusedVariables false
set_option maxRecDepth 100000
namespace Go.Proofs.YtppjinmlfcokaaaGreat
open Go.Proofs.YtppjinmlfcokaaaGreat.Av

theorem DG : Tryz.prog.follows .mixedOrders = true := by kernel_rfl

def Ig : Ir Tryz.prog 203 [(15, 7777)] [9999] 1 := ⟨_, _, Tryz.func203, DG, by kernel_rfl, Ah [] Tryz.progTables (by conv => lhs; cbv) (by kernel_rfl)⟩
def HI : Ir Tryz.prog 187 [(20, 7777)] [9999] 1 := ⟨_, _, Tryz.func187, DG, by kernel_rfl, Ah [] Tryz.progTables (by conv => lhs; cbv) (by kernel_rfl)⟩
def HK : Ir Tryz.prog 137 [(40, 7777)] [9999] 2 := ⟨_, _, Tryz.func137, DG, by kernel_rfl, Ah [] Tryz.progTables (by conv => lhs; cbv) (by kernel_rfl)⟩
def HL : Ir Tryz.prog 139 [] [] 2 := ⟨_, _, Tryz.func139, DG, by kernel_rfl, Ah [] Tryz.progTables (by conv => lhs; cbv) (by kernel_rfl)⟩
def J9 : Ir Tryz.prog 151 [(6, 7777)] [9999] 1 := ⟨_, _, Tryz.func151, DG, by kernel_rfl, Ah [] Tryz.progTables (by conv => lhs; cbv) (by kernel_rfl)⟩
def Ja : Ir Tryz.prog 91 [(20, 7777)] [9999] 1 := ⟨_, _, Tryz.func91, DG, by kernel_rfl, Ah [] Tryz.progTables (by conv => lhs; cbv) (by kernel_rfl)⟩
def Jg : Ir Tryz.prog 72 [(18, 7777)] [9999] 2 := ⟨_, _, Tryz.func72, DG, by kernel_rfl, Ah [] Tryz.progTables (by conv => lhs; cbv) (by kernel_rfl)⟩
def Jj : Ir Tryz.prog 75 [] [] 2 := ⟨_, _, Tryz.func75, DG, by kernel_rfl, Ah [] Tryz.progTables (by conv => lhs; cbv) (by kernel_rfl)⟩
end Go.Proofs.YtppjinmlfcokaaaGreat
set_option linter.unusedVariables false
set_option maxRecDepth 100000
namespace Go.Proofs.YtppjinmlfcokaaaGreat
open Go.Proofs.YtppjinmlfcokaaaGreat.Av

theorem JO : Tryz.prog.follows .mixedOrders = true := by kernel_rfl

def Jd : Ir Tryz.prog 90 [] [9999] 1 := ⟨_, _, Tryz.func90, JO, by kernel_rfl, Ah [] Tryz.progTables (by conv => lhs; cbv) (by kernel_rfl)⟩
def Jh : Ir Tryz.prog 71 [] [9999] 2 := ⟨_, _, Tryz.func71, JO, by kernel_rfl, Ah [] Tryz.progTables (by conv => lhs; cbv) (by kernel_rfl)⟩
def Jk : Ir Tryz.prog 74 [] [] 2 := ⟨_, _, Tryz.func74, JO, by kernel_rfl, Ah [] Tryz.progTables (by conv => lhs; cbv) (by kernel_rfl)⟩
end Go.Proofs.YtppjinmlfcokaaaGreat
