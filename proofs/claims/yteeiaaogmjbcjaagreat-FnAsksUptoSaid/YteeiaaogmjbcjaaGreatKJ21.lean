/-
 Con, Type, Node, Program BY ABSTRACT TEXTS: as abstract values, copies, comparisons, sizes. Conditions: none. Printed by genav.py.
-/
import Derived.Test.YteeiaaogmjbcjaaGreatKJ20
import Derived.Test.YteeiaaogmjbcjaaGreatProg
import Derived.Test.YteeiaaogmjbcjaaGreatKAvDraw
import Derived.Test.YteeiaaogmjbcjaaGreatKJ11
import Derived.Test.YteeiaaogmjbcjaaGreatKAvSimp
import Derived.Test.YteeiaaogmjbcjaaGreatKJ07
set_option linter.unusedVariables false
set_option linter.unusedSimpArgs false
set_option maxRecDepth 100000
namespace Go.Proofs.YteeiaaogmjbcjaaGreat
open Go.RowKit Go.Proofs.YteeiaaogmjbcjaaGreat.Av Go.Proofs.YteeiaaogmjbcjaaGreat.Ml
open Go.Proofs.YteeiaaogmjbcjaaGreat.Av.AVal (av)

instance : AVal Con := ⟨fun x => .agg [.str x.name, .bool x.has, .sl (x.arg.items.map av)], 3, fun _ => rfl, fun _ => rfl, fun x y hy => by
 simp only [AV.cells, List.mem_cons, List.not_mem_nil, or_false] at hy
 rcases hy with rfl | rfl | rfl <;> first | exact Aj.int _ _ | exact Aj.str _ | exact Aj.bool _ | exact Aw x.arg.items, fun _ _ => rfl, fun x y hy => by
 simp only [AV.cells, List.mem_cons, List.not_mem_nil, or_false] at hy
 rcases hy with rfl | rfl | rfl <;> rfl⟩
instance : EB Con := ⟨fun {S w cs y} h => by
 obtain ⟨v2, rfl, h0, r2⟩ := h
 exact VRs.cons (.str _ h0) (VRs.cons (.bool _) (VRs.cons (C6 r2) (VRs.nil)))⟩

instance : AVal M3 := ⟨fun x => .agg [.str x.name, .int .i64 x.params, .sl (x.cons.map av)], 3, fun _ => rfl, fun _ => rfl, fun x y hy => by
 simp only [AV.cells, List.mem_cons, List.not_mem_nil, or_false] at hy
 rcases hy with rfl | rfl | rfl <;> first | exact Aj.int _ _ | exact Aj.str _ | exact Aj.bool _ | exact Aw x.cons, fun _ _ => rfl, fun x y hy => by
 simp only [AV.cells, List.mem_cons, List.not_mem_nil, or_false] at hy
 rcases hy with rfl | rfl | rfl <;> rfl⟩
instance : EB M3 := ⟨fun {S w cs y} h => by
 obtain ⟨v2, rfl, h0, h1, r2⟩ := h
 exact VRs.cons (.str _ h0) (VRs.cons (.int _ _ h1.1 h1.2) (VRs.cons (C6 r2) (VRs.nil)))⟩

instance : AVal Node := ⟨fun x => .agg [.int .i64 x.kind, .int .i64 x.pos, .int .i64 x.n, .str x.s, .sl (x.kids.map av), .sl (x.Ach.map av)], 6, fun _ => rfl, fun _ => rfl, fun x y hy => by
 simp only [AV.cells, List.mem_cons, List.not_mem_nil, or_false] at hy
 rcases hy with rfl | rfl | rfl | rfl | rfl | rfl <;> first | exact Aj.int _ _ | exact Aj.str _ | exact Aj.bool _ | exact Aw x.kids | exact Aw x.Ach, fun _ _ => rfl, fun x y hy => by
 simp only [AV.cells, List.mem_cons, List.not_mem_nil, or_false] at hy
 rcases hy with rfl | rfl | rfl | rfl | rfl | rfl <;> rfl⟩
instance : EB Node := ⟨fun {S w cs y} h => by
 obtain ⟨v4, v5, rfl, h0, h1, h2, h3, r4, r5⟩ := h
 exact VRs.cons (.int _ _ h0.1 h0.2) (VRs.cons (.int _ _ h1.1 h1.2) (VRs.cons (.int _ _ h2.1 h2.2) (VRs.cons (.str _ h3) (VRs.cons (C6 r4) (VRs.cons (C6 r5) (VRs.nil))))))⟩

instance : AVal Program := ⟨fun x => .agg [.sl (x.types.map av), .sl (x.nodes.map av)], 2, fun _ => rfl, fun _ => rfl, fun x y hy => by
 simp only [AV.cells, List.mem_cons, List.not_mem_nil, or_false] at hy
 rcases hy with rfl | rfl <;> first | exact Aj.int _ _ | exact Aj.str _ | exact Aj.bool _ | exact Aw x.types | exact Aw x.nodes, fun _ _ => rfl, fun x y hy => by
 simp only [AV.cells, List.mem_cons, List.not_mem_nil, or_false] at hy
 rcases hy with rfl | rfl <;> rfl⟩
instance : EB Program := ⟨fun {S w cs y} h => by
 obtain ⟨v0, v1, rfl, r0, r1⟩ := h
 exact VRs.cons (C6 r0) (VRs.cons (C6 r1) (VRs.nil))⟩

end Go.Proofs.YteeiaaogmjbcjaaGreat
set_option linter.unusedVariables false
set_option maxRecDepth 100000
namespace Go.Proofs.YteeiaaogmjbcjaaGreat
open Go.Proofs.YteeiaaogmjbcjaaGreat.Av

theorem EK : Tryz.prog.follows .mixedOrders = true := by kernel_rfl

def HF : Ir Tryz.prog 159 [(47,47), (105, 7777), (107, 7777), (109, 7777), (114, 7777), (16, 7777), (37, 7777), (82, 7777), (84, 7777), (88, 7777), (90, 7777), (93, 7777)] [9999] 2 := ⟨_, _, Tryz.func159, EK, by kernel_rfl, Ay [] Tryz.progTables (by conv => lhs; cbv) (by kernel_rfl)⟩
def IE : Ir Tryz.prog 151 [(16, 7777), (19, 7777), (22, 7777), (24, 7777), (35, 7777), (37, 7777), (8, 7777)] [9999] 2 := ⟨_, _, Tryz.func151, EK, by kernel_rfl, Ay [10003, 10006] Tryz.progTables (by conv => lhs; cbv) (by kernel_rfl)⟩
def DZ : Ir Tryz.prog 140 [(16, 7777), (17, 7777), (21, 7777), (23, 7777), (35, 7777), (37, 7777)] [9999] 2 := ⟨_, _, Tryz.func140, EK, by kernel_rfl, Ay [10009] Tryz.progTables (by conv => lhs; cbv) (by kernel_rfl)⟩
def IF : Ir Tryz.prog 137 [(18, 7777), (20, 7777), (22, 7777), (24, 7777), (36, 7777), (38, 7777), (40, 7777), (50, 7777), (55, 7777), (73, 7777), (9, 7777)] [9999, 2] 1 := ⟨_, _, Tryz.func137, EK, by kernel_rfl, Ay [10016] Tryz.progTables (by conv => lhs; cbv) (by kernel_rfl)⟩
def IC : Ir Tryz.prog 113 [(15, 7777), (18, 7777), (28, 7777), (37, 7777), (47, 7777), (6, 7777), (8, 7777)] [9999, 9] 1 := ⟨_, _, Tryz.func113, EK, by kernel_rfl, Ay [] Tryz.progTables (by conv => lhs; cbv) (by kernel_rfl)⟩
end Go.Proofs.YteeiaaogmjbcjaaGreat
set_option linter.unusedVariables false
set_option linter.unusedSimpArgs false
namespace Go.Proofs.YteeiaaogmjbcjaaGreat
open Go.RowKit Go.Proofs.YteeiaaogmjbcjaaGreat.Av Go.Proofs.YteeiaaogmjbcjaaGreat.Ml
open Go.Proofs.YteeiaaogmjbcjaaGreat.Av.AVal (av)

def slN : List AV → AV
 | [] => .Aq
 | x :: l => .sl (x :: l)
mutual
def psA : Px → AV
 | .mk n ks => .agg [.int .i64 n.kind, .int .i64 n.n, .str n.s, .Aq, slN (Aas ks)]
def Aas : List Px → List AV
 | [] => []
 | t :: ts => psA t :: Aas ts
end
theorem S9 : ∀ ks, Aas ks = ks.map psA
 | [] => by rw [Aas]; rfl
 | t :: ts => by rw [Aas, S9 ts]; rfl
theorem D1 (n : Hd) (ks : List Px) : psA (.mk n ks) = .agg [.int .i64 n.kind, .int .i64 n.n, .str n.s, .Aq, slN (ks.map psA)] := by rw [psA, S9]
theorem K4 (l : List AV) : (slN l).one = true := by cases l <;> rfl
theorem EH (hp : Hp) (l : List AV) : (slN l).BB hp = slN l := by cases l <;> rfl
theorem Dv (t : Px) (hp : Hp) : (psA t).pur hp = psA t := by
 cases t with | mk n ks =>
 rw [D1]
 simp only [AV.pur, List.map_cons, List.map_nil, EH]
 rfl
theorem G0 (t : Px) (hp : Hp) : (psA t).BW hp = psA t := by
 have h := Dv t hp
 cases t with | mk n ks =>
 rw [D1] at h ⊢
 exact h
theorem Dw (t : Px) : (psA t).cells.length = 5 := by cases t with | mk n ks => rw [D1]; rfl
theorem FE (t : Px) : (psA t).ok = true := by cases t with | mk n ks => rw [D1]; rfl
theorem Ru (t : Px) (F : Nat → AV) (esz i : Nat) (es : List AV) (ps : List (Nat × AE)) (k : List AV → Prop) : GS (psA t) F esz i es ps k = (((psA t).cells.length = esz ∧ i < es.length) ∧ Fk F esz (es.set i (psA t)) ps k) := by simp [GS, FE]
inductive PxW (m : Nat) : Px → Prop
 | mk (n : Hd) (ks : List Px) (h1 : 0 ≤ n.kind ∧ n.kind ≤ 7) (h2 : -9000000000000000000 ≤ n.n ∧ n.n ≤ 9000000000000000000) (h3 : n.s.size ≤ m) (h4 : ks.length ≤ 2) (h5 : ∀ k ∈ ks, PxW m k) : PxW m (.mk n ks)
end Go.Proofs.YteeiaaogmjbcjaaGreat
set_option linter.unusedVariables false
namespace Go.Proofs.YteeiaaogmjbcjaaGreat.Av
open Go.RowKit

theorem Wk {P : Go.Program} {f : FuncId} {args : List AV} (h : AG P f args .Aq) : AG P f args (.sl []) := ⟨h.1, h.2.1, fun S w vs h1 h2 => (h.2.2 S w vs h1 h2).mono fun e w' ⟨v, he, hv, hb⟩ => ⟨v, he, by cases hv; exact .sl0 none 0 (Nat.zero_le _), hb⟩⟩
theorem Sf {S : Nat → Prop} {w : World} {μ : Mu} {vs : List Value} {a b : List AV} (h : VRs S w μ vs (a ++ .Aq :: b)) : VRs S w μ vs (a ++ .sl [] :: b) := by
 refine ⟨by rw [h.1]; simp, fun i v x p q => ?_⟩
 by_cases hi : i = a.length
 ·subst hi
  rw [List.getElem?_append_right (Nat.le_refl _), Nat.sub_self] at q
  cases q
  have h0 := h.2 a.length v .Aq p (by rw [List.getElem?_append_right (Nat.le_refl _), Nat.sub_self]; rfl)
  cases h0
  exact .sl0 none 0 (Nat.zero_le _)
 ·refine h.2 i v x p ?_
  rw [List.getElem?_append] at q ⊢
  split
  ·rename_i hlt; rw [if_pos hlt] at q; exact q
  ·rename_i hlt
   rw [if_neg hlt] at q
   obtain ⟨k, hk⟩ : ∃ k, i - a.length = k + 1 := ⟨i - a.length - 1, by omega⟩
   rw [hk] at q ⊢
   exact q
theorem Kv {P : Go.Program} {f : FuncId} {a b : List AV} {r : AV} (h : AG P f (a ++ .sl [] :: b) r) : AG P f (a ++ .Aq :: b) r := ⟨h.1, fun x hx => by
 rcases List.mem_append.1 hx with hx | hx
 ·exact h.2.1 x (List.mem_append.2 (.inl hx))
 ·rcases List.mem_cons.1 hx with rfl | hx
  ·exact Aj.Aq
  ·exact h.2.1 x (List.mem_append.2 (.inr (List.mem_cons_of_mem _ hx))), fun S w vs h1 h2 => h.2.2 S w vs h1 (Sf h2)⟩
end Go.Proofs.YteeiaaogmjbcjaaGreat.Av
set_option linter.unusedVariables false
set_option maxRecDepth 100000
namespace Go.Proofs.YteeiaaogmjbcjaaGreat
open Go.Proofs.YteeiaaogmjbcjaaGreat.Av

theorem Bp : Tryz.prog.follows .mixedOrders = true := by kernel_rfl

def Ev : Ir Tryz.prog 115 [] [9999] 2 := ⟨_, _, Tryz.func115, Bp, by kernel_rfl, Ay [] Tryz.progTables (by conv => lhs; cbv) (by kernel_rfl)⟩
def E3 : Ir Tryz.prog 136 [] [9999] 1 := ⟨_, _, Tryz.func136, Bp, by kernel_rfl, Ay [] Tryz.progTables (by conv => lhs; cbv) (by kernel_rfl)⟩
def Ki : Ir Tryz.prog 112 [(6, 7777)] [9999] 2 := ⟨_, _, Tryz.func112, Bp, by kernel_rfl, Ay [] Tryz.progTables (by conv => lhs; cbv) (by kernel_rfl)⟩
def FP : Ir Tryz.prog 138 [(6, 7777), (9, 7777)] [9999] 2 := ⟨_, _, Tryz.func138, Bp, by kernel_rfl, Ay [] Tryz.progTables (by conv => lhs; cbv) (by kernel_rfl)⟩
def IB : Ir Tryz.prog 139 [(13, 7777), (7, 7777)] [9999] 2 := ⟨_, _, Tryz.func139, Bp, by kernel_rfl, Ay [] Tryz.progTables (by conv => lhs; cbv) (by kernel_rfl)⟩
def G6 : Ir Tryz.prog 160 [(4, 7777), (9, 7777)] [9999] 1 := ⟨_, _, Tryz.func160, Bp, by kernel_rfl, Ay [] Tryz.progTables (by conv => lhs; cbv) (by kernel_rfl)⟩
def Eu : Ir Tryz.prog 152 [(11,11)] [9999] 2 := ⟨_, _, Tryz.func152, Bp, by kernel_rfl, Ay [] Tryz.progTables (by conv => lhs; cbv) (by kernel_rfl)⟩
def G7 : Ir Tryz.prog 161 [(10, 7777), (5, 7777), (7, 7777)] [9999] 1 := ⟨_, _, Tryz.func161, Bp, by kernel_rfl, Ay [] Tryz.progTables (by conv => lhs; cbv) (by kernel_rfl)⟩
def FR : Ir Tryz.prog 141 [(6, 7777), (8, 7777)] [9999] 2 := ⟨_, _, Tryz.func141, Bp, by kernel_rfl, Ay [] Tryz.progTables (by conv => lhs; cbv) (by kernel_rfl)⟩
def FZ : Ir Tryz.prog 150 [(32, 7777), (7, 7777)] [9999] 1 := ⟨_, _, Tryz.func150, Bp, by kernel_rfl, Ay [] Tryz.progTables (by conv => lhs; cbv) (by kernel_rfl)⟩
def Gy : Ir Tryz.prog 163 [(22, 7777), (5, 7777)] [9999] 1 := ⟨_, _, Tryz.func163, Bp, by kernel_rfl, Ay [] Tryz.progTables (by conv => lhs; cbv) (by kernel_rfl)⟩
def G8 : Ir Tryz.prog 153 [(6, 7777)] [9999] 1 := ⟨_, _, Tryz.func153, Bp, by kernel_rfl, Ay [] Tryz.progTables (by conv => lhs; cbv) (by kernel_rfl)⟩
def GD : Ir Tryz.prog 142 [(4, 7777), (8, 7777)] [9999] 1 := ⟨_, _, Tryz.func142, Bp, by kernel_rfl, Ay [] Tryz.progTables (by conv => lhs; cbv) (by kernel_rfl)⟩
def Kj : Ir Tryz.prog 154 [(15, 7777)] [9999] 2 := ⟨_, _, Tryz.func154, Bp, by kernel_rfl, Ay [] Tryz.progTables (by conv => lhs; cbv) (by kernel_rfl)⟩
def ID : Ir Tryz.prog 162 [] [9999] 2 := ⟨_, _, Tryz.func162, Bp, by kernel_rfl, Ay [] Tryz.progTables (by conv => lhs; cbv) (by kernel_rfl)⟩
def Jr : Ir Tryz.prog 143 [] [9999] 4 := ⟨_, _, Tryz.func143, Bp, by kernel_rfl, Ay [] Tryz.progTables (by conv => lhs; cbv) (by kernel_rfl)⟩
end Go.Proofs.YteeiaaogmjbcjaaGreat
set_option linter.unusedVariables false
set_option maxRecDepth 100000
namespace Go.Proofs.YteeiaaogmjbcjaaGreat
open Go.Proofs.YteeiaaogmjbcjaaGreat.Av

theorem Cz : Tryz.prog.follows .mixedOrders = true := by kernel_rfl

def GF : Ir Tryz.prog 128 [] [] 3 := ⟨_, _, Tryz.func128, Cz, by kernel_rfl, Ay [] Tryz.progTables (by conv => lhs; cbv) (by kernel_rfl)⟩
def G9 : Ir Tryz.prog 129 [] [9999] 2 := ⟨_, _, Tryz.func129, Cz, by kernel_rfl, Ay [] Tryz.progTables (by conv => lhs; cbv) (by kernel_rfl)⟩
def IJ : Ir Tryz.prog 134 [] [9999] 2 := ⟨_, _, Tryz.func134, Cz, by kernel_rfl, Ay [] Tryz.progTables (by conv => lhs; cbv) (by kernel_rfl)⟩
def EO : Ir Tryz.prog 131 [] [] 1 := ⟨_, _, Tryz.func131, Cz, by kernel_rfl, Ay [] Tryz.progTables (by conv => lhs; cbv) (by kernel_rfl)⟩
def Jt : Ir Tryz.prog 132 [] [9999] 2 := ⟨_, _, Tryz.func132, Cz, by kernel_rfl, Ay [] Tryz.progTables (by conv => lhs; cbv) (by kernel_rfl)⟩
def IP : Ir Tryz.prog 148 [] [] 1 := ⟨_, _, Tryz.func148, Cz, by kernel_rfl, Ay [] Tryz.progTables (by conv => lhs; cbv) (by kernel_rfl)⟩
def IQ : Ir Tryz.prog 133 [] [9999] 1 := ⟨_, _, Tryz.func133, Cz, by kernel_rfl, Ay [] Tryz.progTables (by conv => lhs; cbv) (by kernel_rfl)⟩
def GH : Ir Tryz.prog 135 [] [] 1 := ⟨_, _, Tryz.func135, Cz, by kernel_rfl, Ay [] Tryz.progTables (by conv => lhs; cbv) (by kernel_rfl)⟩
def Jy : Ir Tryz.prog 111 [(105, 7777), (115, 7777), (153, 7777), (49, 7777)] [9999] 1 := ⟨_, _, Tryz.func111, Cz, by kernel_rfl, Ay [] Tryz.progTables (by conv => lhs; cbv) (by kernel_rfl)⟩
end Go.Proofs.YteeiaaogmjbcjaaGreat
set_option linter.unusedVariables false
set_option maxRecDepth 100000
namespace Go.Proofs.YteeiaaogmjbcjaaGreat
open Go.Proofs.YteeiaaogmjbcjaaGreat.Av

theorem Ku : Tryz.prog.follows .mixedOrders = true := by kernel_rfl

def Jw : Ir Tryz.prog 158 [] [] 1 := ⟨_, _, Tryz.func158, Ku, by kernel_rfl, Ay [] Tryz.progTables (by conv => lhs; cbv) (by kernel_rfl)⟩
def Kk : Ir Tryz.prog 149 [(6,6)] [] 1 := ⟨_, _, Tryz.func149, Ku, by kernel_rfl, Ay [] Tryz.progTables (by conv => lhs; cbv) (by kernel_rfl)⟩
end Go.Proofs.YteeiaaogmjbcjaaGreat
set_option linter.unusedVariables false
set_option maxRecDepth 100000
namespace Go.Proofs.YteeiaaogmjbcjaaGreat
open Go.Proofs.YteeiaaogmjbcjaaGreat.Av

theorem MP : Tryz.prog.follows .mixedOrders = true := by kernel_rfl

def E4 : Ir Tryz.prog 83 [] [] 1 := ⟨_, _, Tryz.func83, MP, by kernel_rfl, Ay [] Tryz.progTables (by conv => lhs; cbv) (by kernel_rfl)⟩
def IU : Ir Tryz.prog 52 [] [] 1 := ⟨_, _, Tryz.func52, MP, by kernel_rfl, Ay [] Tryz.progTables (by conv => lhs; cbv) (by kernel_rfl)⟩
end Go.Proofs.YteeiaaogmjbcjaaGreat
set_option linter.unusedVariables false
set_option linter.unusedSimpArgs false
set_option maxRecDepth 100000
namespace Go.Proofs.YteeiaaogmjbcjaaGreat
open Go.RowKit Go.Proofs.YteeiaaogmjbcjaaGreat.Av Go.Proofs.YteeiaaogmjbcjaaGreat.Ml
open Go.Proofs.YteeiaaogmjbcjaaGreat.Av.AVal (av)

theorem Lq (k : Nat) : k ≤ 9223372036854775808 → AG Tryz.prog 83 [.int .i64 (-(k : Int))] (.str (Na k)) := by
 induction k using Nat.strongRecOn with
 | _ k ih =>
  intro hk
  refine E4.F rfl (by simp; exact Ea _) (Aj.str _) ?_
  by_cases h10 : k < 10
  ·have h1 : -10 < -(k : Int) := by omega
   have h2 : (48 : Int) - -(k : Int) = ((48 + k : Nat) : Int) := by omega
   rw [We h10]
   simp +contextual -dsimp only [↓SD, SU, Nat.reduceAdd, Nat.reduceBEq, Nat.reduceEqDiff, Nat.reduceLeDiff, Nat.reduceLT, Nat.reduceSub, ↓reduceIte, reduceCtorEq, Int.reduceToNat, Int.reduceEq, Int.reduceLT, Int.reduceLE, Int.reduceNeg, Int.reduceAdd, Int.reduceSub, E4, h1]
   refine ⟨by omega, by omega, ?_⟩
   refine OU _ _ [UInt8.ofNat (48 + k)] rfl (by rw [List.map_cons, List.map_nil, YG _ (by omega), ← h2]) ?_
   simp +contextual -dsimp only [↓SD, SU, Nat.reduceAdd, Nat.reduceBEq, Nat.reduceEqDiff, Nat.reduceLeDiff, Nat.reduceLT, Nat.reduceSub, ↓reduceIte, reduceCtorEq, Int.reduceToNat]
  ·have h1 : ¬ -10 < -(k : Int) := by omega
   have h2 : (-(k : Int)).tdiv 10 = -((k / 10 : Nat) : Int) := by rw [Int.neg_tdiv, Int.tdiv_eq_ediv_of_nonneg (by omega)]; rfl
   have h3 : (-(k : Int)).tmod 10 = -((k % 10 : Nat) : Int) := by rw [Int.neg_tmod, Int.tmod_eq_emod_of_nonneg (by omega)]; rfl
   have h4 : (48 : Int) - -((k % 10 : Nat) : Int) = ((48 + k % 10 : Nat) : Int) := by omega
   have C := ih (k / 10) (by omega) (by omega)
   have hs := Nl (k / 10) (by omega)
   rw [Wf h10]
   simp +contextual -dsimp only [↓SD, SU, Nat.reduceAdd, Nat.reduceBEq, Nat.reduceEqDiff, Nat.reduceLeDiff, Nat.reduceLT, Nat.reduceSub, ↓reduceIte, reduceCtorEq, Int.reduceToNat, Int.reduceEq, Int.reduceLT, Int.reduceLE, Int.reduceNeg, Int.reduceAdd, Int.reduceSub, E4, h1, h2, h3]
   refine ⟨by omega, ?_⟩
   refine Ae _ C ?_
   simp +contextual -dsimp only [↓SD, SU, Nat.reduceAdd, Nat.reduceBEq, Nat.reduceEqDiff, Nat.reduceLeDiff, Nat.reduceLT, Nat.reduceSub, ↓reduceIte, reduceCtorEq, Int.reduceToNat, Int.reduceEq, Int.reduceLT, Int.reduceLE, Int.reduceNeg, Int.reduceAdd, Int.reduceSub, h3, h4]
   refine ⟨by omega, by omega, by omega, ?_⟩
   refine OU _ _ [UInt8.ofNat (48 + k % 10)] rfl (by rw [List.map_cons, List.map_nil, YG _ (by omega)]) ?_
   simp +contextual -dsimp only [↓SD, SU, Nat.reduceAdd, Nat.reduceBEq, Nat.reduceEqDiff, Nat.reduceLeDiff, Nat.reduceLT, Nat.reduceSub, ↓reduceIte, reduceCtorEq, Int.reduceToNat]
   have h5 : (⟨[UInt8.ofNat (48 + k % 10)].toArray⟩ : ByteArray).size = 1 := rfl
   unfold maxLen; omega
theorem GX (n : Int) (h : -9223372036854775808 ≤ n ∧ n ≤ 9223372036854775807) : (IntKind.i64.wrap (n * 2) / 2 = n) ↔ (-4611686018427387904 ≤ n ∧ n ≤ 4611686018427387903) := by
 rw [IntKind.wrap_i64]
 omega
theorem Sk (n : Int) (h : -9223372036854775808 ≤ n ∧ n ≤ 9223372036854775807) : AG Tryz.prog 66 [.int .i64 n] (.int .i64 (IntKind.i64.wrap (n * 2) / 2)) := by
 refine F5.F rfl (by simp; exact Ea _) (Ea _) ?_
 have e1 : min 1 IntKind.i64.bits = 1 := rfl
 have e2 : ∀ x : Int, x.fdiv (2 ^ 1) = x / 2 := fun x => by rw [Int.fdiv_eq_ediv_of_nonneg _ (by decide)]; rfl
 have e3 : n * 2 ^ 1 = n * 2 := rfl
 simp +contextual -dsimp only [↓SD, SU, Nat.reduceAdd, Nat.reduceBEq, Nat.reduceEqDiff, Nat.reduceLeDiff, Nat.reduceLT, Nat.reduceSub, ↓reduceIte, reduceCtorEq, Int.reduceToNat, Int.reduceEq, Int.reduceLT, Int.reduceLE, Int.reduceNeg, Int.reduceAdd, Int.reduceSub, F5, e1, e2, e3]
 rw [IntKind.wrap_i64]
 omega
theorem Gp (n : Int) (hn : -9223372036854775808 ≤ n ∧ n ≤ 9223372036854775807) : AG Tryz.prog 52 [.int .i64 n] (.str (J9 n)) := by
 refine IU.F rfl (by simp; exact Ea _) (Aj.str _) ?_
 have C := Sk n hn
 have W := GX n hn
 simp +contextual -dsimp only [↓SD, SU, Nat.reduceAdd, Nat.reduceBEq, Nat.reduceEqDiff, Nat.reduceLeDiff, Nat.reduceLT, Nat.reduceSub, ↓reduceIte, reduceCtorEq, Int.reduceToNat, Int.reduceEq, Int.reduceLT, Int.reduceLE, Int.reduceNeg, Int.reduceAdd, Int.reduceSub, IU]
 refine Ae _ C ?_
 by_cases hin : -4611686018427387904 ≤ n ∧ n ≤ 4611686018427387903
 ·have hw := W.2 hin
  by_cases h0 : n < 0
  ·have hS : J9 n = ⟨#[45]⟩ ++ Na (-n).toNat := by unfold J9; rw [if_pos hin, if_pos h0]
   obtain ⟨k, rfl⟩ : ∃ k : Nat, n = -(k : Int) := ⟨(-n).toNat, by omega⟩
   have hs := Nl k (by omega)
   have hk : (-(-(k : Int))).toNat = k := by omega
   rw [hS, hk]
   simp +contextual -dsimp only [↓SD, SU, Nat.reduceAdd, Nat.reduceBEq, Nat.reduceEqDiff, Nat.reduceLeDiff, Nat.reduceLT, Nat.reduceSub, ↓reduceIte, reduceCtorEq, Int.reduceToNat, Int.reduceEq, Int.reduceLT, Int.reduceLE, Int.reduceNeg, Int.reduceAdd, Int.reduceSub, hw, h0]
   refine Ae _ (Lq k (by omega)) ?_
   have hb : bs [45] = (⟨#[45]⟩ : ByteArray) := rfl
   simp +contextual -dsimp only [↓SD, SU, Nat.reduceAdd, Nat.reduceBEq, Nat.reduceEqDiff, Nat.reduceLeDiff, Nat.reduceLT, Nat.reduceSub, ↓reduceIte, reduceCtorEq, Int.reduceToNat, Int.reduceEq, Int.reduceLT, Int.reduceLE, Int.reduceNeg, Int.reduceAdd, Int.reduceSub, hb]
   have h1 : (⟨#[45]⟩ : ByteArray).size = 1 := rfl
   unfold maxLen; omega
  ·have hS : J9 n = Na n.toNat := by unfold J9; rw [if_pos hin, if_neg h0]
   obtain ⟨k, rfl⟩ : ∃ k : Nat, n = (k : Int) := ⟨n.toNat, by omega⟩
   rw [hS, Int.toNat_natCast]
   simp +contextual -dsimp only [↓SD, SU, Nat.reduceAdd, Nat.reduceBEq, Nat.reduceEqDiff, Nat.reduceLeDiff, Nat.reduceLT, Nat.reduceSub, ↓reduceIte, reduceCtorEq, Int.reduceToNat, Int.reduceEq, Int.reduceLT, Int.reduceLE, Int.reduceNeg, Int.reduceAdd, Int.reduceSub, hw, h0]
   refine ⟨by omega, ?_⟩
   refine Ae _ (Lq k (by omega)) ?_
   simp +contextual -dsimp only [↓SD, SU, Nat.reduceAdd, Nat.reduceBEq, Nat.reduceEqDiff, Nat.reduceLeDiff, Nat.reduceLT, Nat.reduceSub, ↓reduceIte, reduceCtorEq, Int.reduceToNat, Int.reduceEq, Int.reduceLT, Int.reduceLE, Int.reduceNeg, Int.reduceAdd, Int.reduceSub]
 ·have hw : ¬ IntKind.i64.wrap (n * 2) / 2 = n := fun h => hin (W.1 h)
  have hS : J9 n = ⟨#[]⟩ := by unfold J9; rw [if_neg hin]
  rw [hS]
  simp +contextual -dsimp only [↓SD, SU, Nat.reduceAdd, Nat.reduceBEq, Nat.reduceEqDiff, Nat.reduceLeDiff, Nat.reduceLT, Nat.reduceSub, ↓reduceIte, reduceCtorEq, Int.reduceToNat, Int.reduceEq, Int.reduceLT, Int.reduceLE, Int.reduceNeg, Int.reduceAdd, Int.reduceSub, hw]
  first | done | rfl

theorem ZT {hp : Hp} {k v n : Nat} {b : Box} (hk : AA hp k = some b) (hv : b.ver = v) (hn : n = b.es.length) : EX hp (.row k v n) = some b.es := by
 unfold EX
 simp only [hk, hv, hn, true_and, Nat.le_refl, if_true, List.take_length]
structure DS where
 m : Nat
 l : List UInt8
 v : Nat
end Go.Proofs.YteeiaaogmjbcjaaGreat
