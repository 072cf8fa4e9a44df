/-
  THE ABSTRACT TEXTS OF FUNCTIONS (Hit2), printed by irgen.py, and that they are the functions' own. Conditions: none.
-/
import Derived.Test.YteeiaaogmjbcjaaGreatProg
import Derived.Test.YteeiaaogmjbcjaaGreatHAvDraw
import Derived.Test.YteeiaaogmjbcjaaGreatHHitW
import Derived.Test.YteeiaaogmjbcjaaGreatHJ13
set_option linter.unusedVariables false
set_option maxRecDepth 100000
namespace Go.Proofs.YteeiaaogmjbcjaaGreat
open Go.Proofs.YteeiaaogmjbcjaaGreat.Av

theorem follows_Hit2 : Tryz.prog.follows .mixedOrders = true := by kernel_rfl

def ir_impl_flatPat : Ir Tryz.prog 65 [(43, 7777)] [9999, 11] 2 := ⟨_, _, Tryz.func65, follows_Hit2, by kernel_rfl, low_of [] Tryz.progTables (by conv => lhs; cbv) (by kernel_rfl)⟩
def ir_impl_dataOf : Ir Tryz.prog 33 [(10, 7777)] [] 1 := ⟨_, _, Tryz.func33, follows_Hit2, by kernel_rfl, low_of [] Tryz.progTables (by conv => lhs; cbv) (by kernel_rfl)⟩
def ir_impl_Hit : Ir Tryz.prog 7 [(26, 7777)] [9999] 2 := ⟨_, _, Tryz.func7, follows_Hit2, by kernel_rfl, low_of [] Tryz.progTables (by conv => lhs; cbv) (by kernel_rfl)⟩
end Go.Proofs.YteeiaaogmjbcjaaGreat
set_option linter.unusedVariables false
set_option linter.unusedSimpArgs false
set_option maxRecDepth 100000
namespace Go.Proofs.YteeiaaogmjbcjaaGreat
open Go.RowKit Go.Proofs.YteeiaaogmjbcjaaGreat.Av Go.Proofs.YteeiaaogmjbcjaaGreat.Ml
open Go.Proofs.YteeiaaogmjbcjaaGreat.Av.AVal (av)

def grow (G : List AV) (x : AV) (hp : Hp) : Prop := (G = [] ∧ x = .nils ∧ hp = []) ∨ ∃ v, x = .row 29 v G.length ∧ hp = [(29, ⟨v, false, 36, 4, G⟩)]
def FlatPost (G : List AV) (e : Px) (r : AV) (hp' : Hp) : Prop := ∃ v, r = .tup [.row 29 v (G.length + pxN e), .int .i64 G.length] ∧ hp' = [(29, ⟨v, false, 36, 4, G ++ (flatX G.length e).map av⟩)]
structure FlS where
 j : Nat
 v : Nat
 u : Nat
theorem flatPat_ok : ∀ (e : Px) (G : List AV) (x : AV) (hp : Hp), grow G x hp → G.length + pxN e ≤ 1048576 → CallsH Tryz.prog 65 [x, av e] hp (FlatPost G e) := by
 refine Px.ind fun n ks ih G x hp hx hb => ?_
 have ec : pxN (.mk n ks) = 1 + pxNs ks := by rw [pxN]
 rw [ec] at hb
 have hkl := pxNs_len ks
 refine ir_impl_flatPat.H rfl ?_
 rcases hx with ⟨rfl, rfl, rfl⟩ | ⟨v, rfl, rfl⟩
 ·simp +contextual -dsimp (maxSteps := 2000000) only [↓SD, SU, SB, Nat.reduceAdd, Nat.reduceBEq, Nat.reduceEqDiff, Nat.reduceLeDiff, Nat.reduceLT, Nat.reduceSub, ↓reduceIte, reduceCtorEq, Int.reduceToNat, Int.reduceEq, Int.reduceLT, Int.reduceLE, Int.reduceNeg, Int.reduceAdd, Int.reduceSub, ir_impl_flatPat, av_Px, map_len]
  refine ⟨⟨by omega, by unfold maxLen; omega⟩, fun v1 v2 => ?_⟩
  obtain ⟨G, hG0⟩ : ∃ G : List AV, G = [] := ⟨[], rfl⟩
  have key : FlatPost [] (.mk n ks) = FlatPost G (.mk n ks) := by rw [hG0]
  rw [key]
  have hG1 : G.length = 0 := by rw [hG0]; rfl
  have hb2 : G.length + (1 + pxNs ks) ≤ 1048576 := by rw [hG1]; simpa using hb
  clear hb key
  have hb := hb2
  clear hb2
  refine aLoop_of (X := FlS) (fun q => ⟨[(0, .row 29 q.v (G.length + 1 + pxNs (ks.take q.j))), (6, .int .i64 G.length), (7, .row 30 q.u q.j), (34, .sl (ks.map av)), (35, .int .i64 ks.length), (36, .int .i64 q.j)], [(29, ⟨q.v, false, 36, 4, G ++ [.agg [.int .i64 n.kind, .int .i64 n.n, .str n.s, .nils]] ++ (flatXs (G.length + 1) (ks.take q.j)).map av⟩), (30, ⟨q.u, false, 3, 1, (kidPos (G.length + 1) (ks.take q.j)).map av⟩)]⟩) (fun q => q.j ≤ ks.length) (fun q => ks.length - q.j) ⟨0, v1, v2⟩ (Nat.zero_le _) (by simp +contextual -dsimp only [↓SD, SU, SB, Nat.reduceAdd, Nat.reduceBEq, Nat.reduceEqDiff, Nat.reduceLeDiff, Nat.reduceLT, Nat.reduceSub, ↓reduceIte, reduceCtorEq, Int.reduceToNat, List.take_zero, pxNs, hG1]) (by simp +contextual -dsimp only [↓SD, SU, SB, Nat.reduceAdd, Nat.reduceBEq, Nat.reduceEqDiff, Nat.reduceLeDiff, Nat.reduceLT, Nat.reduceSub, ↓reduceIte, reduceCtorEq, Int.reduceToNat, List.take_zero, flatXs, kidPos, List.map_nil, List.append_nil, hG0]) ?_
  rintro ⟨j, a, b⟩ hj
  dsimp only at hj ⊢
  by_cases hlt : j < ks.length
  ·have e1 := getD_map av ks j .top hlt
   have b2 := pxNs_take ks j hlt
   have ht : ks.take (j + 1) = ks.take j ++ [ks[j]] := List.take_succ_eq_append_getElem hlt
   have hpx : G.length + 1 + pxNs (ks.take (j + 1)) = G.length + 1 + pxNs (ks.take j) + pxN ks[j] := by rw [ht, pxNs_app]; omega
   have hfl := flatXs_len' (G.length + 1) (ks.take j)
   have hkp := kidPos_len (G.length + 1) (ks.take j)
   rw [List.length_take, Nat.min_eq_left hj] at hkp
   have hL : (G ++ [AV.agg [.int .i64 n.kind, .int .i64 n.n, .str n.s, .nils]] ++ (flatXs (G.length + 1) (ks.take j)).map av).length = G.length + 1 + pxNs (ks.take j) := by simp [hfl]; omega
   have C := ih ks[j] (List.getElem_mem hlt) (G ++ [.agg [.int .i64 n.kind, .int .i64 n.n, .str n.s, .nils]] ++ (flatXs (G.length + 1) (ks.take j)).map av) (.row 29 a (G.length + 1 + pxNs (ks.take j))) [(29, ⟨a, false, 36, 4, G ++ [.agg [.int .i64 n.kind, .int .i64 n.n, .str n.s, .nils]] ++ (flatXs (G.length + 1) (ks.take j)).map av⟩)] (.inr ⟨a, by rw [hL], rfl⟩) (by rw [hL]; omega)
   unfold FlatPost at C
   rw [hL] at C
   have hfs : G ++ [AV.agg [.int .i64 n.kind, .int .i64 n.n, .str n.s, .nils]] ++ (flatXs (G.length + 1) (ks.take (j + 1))).map av = G ++ [AV.agg [.int .i64 n.kind, .int .i64 n.n, .str n.s, .nils]] ++ (flatXs (G.length + 1) (ks.take j)).map av ++ (flatX (G.length + 1 + pxNs (ks.take j)) ks[j]).map av := by rw [ht, flatXs_snoc, List.map_append]; simp only [List.append_assoc]
   have hks : (kidPos (G.length + 1) (ks.take (j + 1))).map (av : Int → AV) = (kidPos (G.length + 1) (ks.take j)).map av ++ [.int .i64 ((G.length : Int) + 1 + (pxNs (ks.take j) : Int))] := by rw [ht, kidPos_snoc, List.map_append]; rfl
   have hkm : ((kidPos (G.length + 1) (ks.take j)).map (av : Int → AV)).length = j := by rw [List.length_map, hkp]
   have hkt : List.take j ((kidPos (G.length + 1) (ks.take j)).map (av : Int → AV)) = (kidPos (G.length + 1) (ks.take j)).map av := List.take_of_length_le (by rw [hkm]; exact Nat.le_refl _)
   generalize (kidPos (G.length + 1) (ks.take j)).map (av : Int → AV) = KP at *
   generalize hQ : G ++ [AV.agg [.int .i64 n.kind, .int .i64 n.n, .str n.s, .nils]] ++ (flatXs (G.length + 1) (ks.take j)).map av = Q at *
   generalize (flatX (G.length + 1 + pxNs (ks.take j)) ks[j]).map av = FX at *
   generalize hN : pxNs (ks.take j) = N at *
   simp +contextual -dsimp (maxSteps := 2000000) only [↓SD, SU, SB, Nat.reduceAdd, Nat.reduceBEq, Nat.reduceEqDiff, Nat.reduceLeDiff, Nat.reduceLT, Nat.reduceSub, ↓reduceIte, reduceCtorEq, Int.reduceToNat, Int.reduceEq, Int.reduceLT, Int.reduceLE, Int.reduceNeg, Int.reduceAdd, Int.reduceSub, hlt, map_len, e1, px_cells, px_pur, px_pur1, px_purA, px_one, px_ok]
   refine aCallH_of [29] C (by simp +contextual -dsimp only [↓SD, SU, SB, Nat.reduceAdd, Nat.reduceBEq, Nat.reduceEqDiff, Nat.reduceLeDiff, Nat.reduceLT, Nat.reduceSub, ↓reduceIte, reduceCtorEq, Int.reduceToNat, px_purA, false_and]) ?_
   rintro r hp' ⟨w, rfl, rfl⟩
   simp +contextual -dsimp (maxSteps := 2000000) only [↓SD, SU, SB, Nat.reduceAdd, Nat.reduceBEq, Nat.reduceEqDiff, Nat.reduceLeDiff, Nat.reduceLT, Nat.reduceSub, ↓reduceIte, reduceCtorEq, Int.reduceToNat, Int.reduceEq, Int.reduceLT, Int.reduceLE, Int.reduceNeg, Int.reduceAdd, Int.reduceSub, hkm, hkt, Int.natCast_add]
   exact ⟨⟨by omega, by unfold maxLen; omega⟩, fun v => ⟨by omega, Goes.le ⟨⟨j + 1, w, v⟩, ⟨hlt, (by first | omega | (simp only; omega))⟩, rfl⟩ (by simp +contextual -dsimp only [↓SD, SU, SB, Nat.reduceAdd, Nat.reduceBEq, Nat.reduceEqDiff, Nat.reduceLeDiff, Nat.reduceLT, Nat.reduceSub, ↓reduceIte, reduceCtorEq, Int.reduceToNat, Int.natCast_add, hpx]) (by simp +contextual -dsimp only [↓SD, SU, SB, Nat.reduceAdd, Nat.reduceBEq, Nat.reduceEqDiff, Nat.reduceLeDiff, Nat.reduceLT, Nat.reduceSub, ↓reduceIte, reduceCtorEq, Int.reduceToNat, hfs, hks])⟩⟩
  ·obtain rfl : j = ks.length := by omega
   rw [List.take_length]
   have hkp := kidPos_len (G.length + 1) ks
   have hkt : List.take ks.length ((kidPos (G.length + 1) ks).map (av : Int → AV)) = (kidPos (G.length + 1) ks).map av := List.take_of_length_le (by simp [hkp])
   have hkn : ∀ hp, ((kidPos (G.length + 1) ks).map (av : Int → AV)).map (AV.pur hp) = (kidPos (G.length + 1) ks).map av := fun hp => map_nop _ hp
   have hkm : ((kidPos (G.length + 1) ks).map (av : Int → AV)).length = ks.length := by simp [hkp]
   have hfl := flatXs_len' (G.length + 1) ks
   have hL : (G ++ [AV.agg [.int .i64 n.kind, .int .i64 n.n, .str n.s, .nils]] ++ (flatXs (G.length + 1) ks).map av).length = G.length + 1 + pxNs ks := by simp [hfl]; omega
   have hG : (G ++ [AV.agg [.int .i64 n.kind, .int .i64 n.n, .str n.s, .nils]] ++ (flatXs (G.length + 1) ks).map av).getD G.length .top = .agg [.int .i64 n.kind, .int .i64 n.n, .str n.s, .nils] := by simp [List.getD_eq_getElem?_getD]
   have hS : (G ++ [AV.agg [.int .i64 n.kind, .int .i64 n.n, .str n.s, .nils]] ++ (flatXs (G.length + 1) ks).map av).set G.length (.agg [.int .i64 n.kind, .int .i64 n.n, .str n.s, .sl ((kidPos (G.length + 1) ks).map av)]) = G ++ (flatX G.length (.mk n ks)).map av := by
    rw [flatX, List.map_cons, av_PNode]
    simp [List.set_append]
   have hlt2 : (G.length : Int) < (G.length : Int) + 1 + (pxNs ks : Int) := by omega
   have hlt3 : G.length < G.length + 1 + pxNs ks := by omega
   generalize (kidPos (G.length + 1) ks).map (av : Int → AV) = KP at *
   generalize hQ : G ++ [AV.agg [.int .i64 n.kind, .int .i64 n.n, .str n.s, .nils]] ++ (flatXs (G.length + 1) ks).map av = Q at *
   simp +contextual -dsimp (maxSteps := 2000000) only [↓SD, SU, SB, Nat.reduceAdd, Nat.reduceBEq, Nat.reduceEqDiff, Nat.reduceLeDiff, Nat.reduceLT, Nat.reduceSub, ↓reduceIte, reduceCtorEq, Int.reduceToNat, Int.reduceEq, Int.reduceLT, Int.reduceLE, Int.reduceNeg, Int.reduceAdd, Int.reduceSub, Nat.lt_irrefl]
   refine ghost_of (Goes.frz 30 (Goes.pur 7 (Goes.here ?_)))
   simp +contextual -dsimp (maxSteps := 2000000) only [↓SD, SU, SB, Nat.reduceAdd, Nat.reduceBEq, Nat.reduceEqDiff, Nat.reduceLeDiff, Nat.reduceLT, Nat.reduceSub, ↓reduceIte, reduceCtorEq, Int.reduceToNat, Int.reduceEq, Int.reduceLT, Int.reduceLE, Int.reduceNeg, Int.reduceAdd, Int.reduceSub, hkm, hkt, hkn, hL, hG, hS, hlt2, hlt3, Int.natCast_add, Nat.le_refl]
   refine Goes.post [(29, ⟨a, false, 36, 4, G ++ (flatX G.length (.mk n ks)).map av⟩)] ?_
   simp +contextual -dsimp (maxSteps := 2000000) only [↓SD, SU, SB, Nat.reduceAdd, Nat.reduceBEq, Nat.reduceEqDiff, Nat.reduceLeDiff, Nat.reduceLT, Nat.reduceSub, ↓reduceIte, reduceCtorEq, Int.reduceToNat, false_and]
   exact ⟨a, by rw [ec, Nat.add_assoc], rfl⟩
 ·have t0 : List.take G.length G = G := List.take_length
  simp +contextual -dsimp (maxSteps := 2000000) only [↓SD, SU, SB, Nat.reduceAdd, Nat.reduceBEq, Nat.reduceEqDiff, Nat.reduceLeDiff, Nat.reduceLT, Nat.reduceSub, ↓reduceIte, reduceCtorEq, Int.reduceToNat, Int.reduceEq, Int.reduceLT, Int.reduceLE, Int.reduceNeg, Int.reduceAdd, Int.reduceSub, ir_impl_flatPat, av_Px, map_len, t0]
  refine ⟨⟨by omega, by unfold maxLen; omega⟩, fun v1 v2 => ?_⟩
  refine aLoop_of (X := FlS) (fun q => ⟨[(0, .row 29 q.v (G.length + 1 + pxNs (ks.take q.j))), (6, .int .i64 G.length), (7, .row 30 q.u q.j), (34, .sl (ks.map av)), (35, .int .i64 ks.length), (36, .int .i64 q.j)], [(29, ⟨q.v, false, 36, 4, G ++ [.agg [.int .i64 n.kind, .int .i64 n.n, .str n.s, .nils]] ++ (flatXs (G.length + 1) (ks.take q.j)).map av⟩), (30, ⟨q.u, false, 3, 1, (kidPos (G.length + 1) (ks.take q.j)).map av⟩)]⟩) (fun q => q.j ≤ ks.length) (fun q => ks.length - q.j) ⟨0, v1, v2⟩ (Nat.zero_le _) (by simp +contextual -dsimp only [↓SD, SU, SB, Nat.reduceAdd, Nat.reduceBEq, Nat.reduceEqDiff, Nat.reduceLeDiff, Nat.reduceLT, Nat.reduceSub, ↓reduceIte, reduceCtorEq, Int.reduceToNat, List.take_zero, pxNs]) (by simp +contextual -dsimp only [↓SD, SU, SB, Nat.reduceAdd, Nat.reduceBEq, Nat.reduceEqDiff, Nat.reduceLeDiff, Nat.reduceLT, Nat.reduceSub, ↓reduceIte, reduceCtorEq, Int.reduceToNat, List.take_zero, flatXs, kidPos, List.map_nil, List.append_nil]) ?_
  rintro ⟨j, a, b⟩ hj
  dsimp only at hj ⊢
  by_cases hlt : j < ks.length
  ·have e1 := getD_map av ks j .top hlt
   have b2 := pxNs_take ks j hlt
   have ht : ks.take (j + 1) = ks.take j ++ [ks[j]] := List.take_succ_eq_append_getElem hlt
   have hpx : G.length + 1 + pxNs (ks.take (j + 1)) = G.length + 1 + pxNs (ks.take j) + pxN ks[j] := by rw [ht, pxNs_app]; omega
   have hfl := flatXs_len' (G.length + 1) (ks.take j)
   have hkp := kidPos_len (G.length + 1) (ks.take j)
   rw [List.length_take, Nat.min_eq_left hj] at hkp
   have hL : (G ++ [AV.agg [.int .i64 n.kind, .int .i64 n.n, .str n.s, .nils]] ++ (flatXs (G.length + 1) (ks.take j)).map av).length = G.length + 1 + pxNs (ks.take j) := by simp [hfl]; omega
   have C := ih ks[j] (List.getElem_mem hlt) (G ++ [.agg [.int .i64 n.kind, .int .i64 n.n, .str n.s, .nils]] ++ (flatXs (G.length + 1) (ks.take j)).map av) (.row 29 a (G.length + 1 + pxNs (ks.take j))) [(29, ⟨a, false, 36, 4, G ++ [.agg [.int .i64 n.kind, .int .i64 n.n, .str n.s, .nils]] ++ (flatXs (G.length + 1) (ks.take j)).map av⟩)] (.inr ⟨a, by rw [hL], rfl⟩) (by rw [hL]; omega)
   unfold FlatPost at C
   rw [hL] at C
   have hfs : G ++ [AV.agg [.int .i64 n.kind, .int .i64 n.n, .str n.s, .nils]] ++ (flatXs (G.length + 1) (ks.take (j + 1))).map av = G ++ [AV.agg [.int .i64 n.kind, .int .i64 n.n, .str n.s, .nils]] ++ (flatXs (G.length + 1) (ks.take j)).map av ++ (flatX (G.length + 1 + pxNs (ks.take j)) ks[j]).map av := by rw [ht, flatXs_snoc, List.map_append]; simp only [List.append_assoc]
   have hks : (kidPos (G.length + 1) (ks.take (j + 1))).map (av : Int → AV) = (kidPos (G.length + 1) (ks.take j)).map av ++ [.int .i64 ((G.length : Int) + 1 + (pxNs (ks.take j) : Int))] := by rw [ht, kidPos_snoc, List.map_append]; rfl
   have hkm : ((kidPos (G.length + 1) (ks.take j)).map (av : Int → AV)).length = j := by rw [List.length_map, hkp]
   have hkt : List.take j ((kidPos (G.length + 1) (ks.take j)).map (av : Int → AV)) = (kidPos (G.length + 1) (ks.take j)).map av := List.take_of_length_le (by rw [hkm]; exact Nat.le_refl _)
   generalize (kidPos (G.length + 1) (ks.take j)).map (av : Int → AV) = KP at *
   generalize hQ : G ++ [AV.agg [.int .i64 n.kind, .int .i64 n.n, .str n.s, .nils]] ++ (flatXs (G.length + 1) (ks.take j)).map av = Q at *
   generalize (flatX (G.length + 1 + pxNs (ks.take j)) ks[j]).map av = FX at *
   generalize hN : pxNs (ks.take j) = N at *
   simp +contextual -dsimp (maxSteps := 2000000) only [↓SD, SU, SB, Nat.reduceAdd, Nat.reduceBEq, Nat.reduceEqDiff, Nat.reduceLeDiff, Nat.reduceLT, Nat.reduceSub, ↓reduceIte, reduceCtorEq, Int.reduceToNat, Int.reduceEq, Int.reduceLT, Int.reduceLE, Int.reduceNeg, Int.reduceAdd, Int.reduceSub, hlt, map_len, e1, px_cells, px_pur, px_pur1, px_purA, px_one, px_ok]
   refine aCallH_of [29] C (by simp +contextual -dsimp only [↓SD, SU, SB, Nat.reduceAdd, Nat.reduceBEq, Nat.reduceEqDiff, Nat.reduceLeDiff, Nat.reduceLT, Nat.reduceSub, ↓reduceIte, reduceCtorEq, Int.reduceToNat, px_purA, false_and]) ?_
   rintro r hp' ⟨w, rfl, rfl⟩
   simp +contextual -dsimp (maxSteps := 2000000) only [↓SD, SU, SB, Nat.reduceAdd, Nat.reduceBEq, Nat.reduceEqDiff, Nat.reduceLeDiff, Nat.reduceLT, Nat.reduceSub, ↓reduceIte, reduceCtorEq, Int.reduceToNat, Int.reduceEq, Int.reduceLT, Int.reduceLE, Int.reduceNeg, Int.reduceAdd, Int.reduceSub, hkm, hkt, Int.natCast_add]
   exact ⟨⟨by omega, by unfold maxLen; omega⟩, fun v => ⟨by omega, Goes.le ⟨⟨j + 1, w, v⟩, ⟨hlt, (by first | omega | (simp only; omega))⟩, rfl⟩ (by simp +contextual -dsimp only [↓SD, SU, SB, Nat.reduceAdd, Nat.reduceBEq, Nat.reduceEqDiff, Nat.reduceLeDiff, Nat.reduceLT, Nat.reduceSub, ↓reduceIte, reduceCtorEq, Int.reduceToNat, Int.natCast_add, hpx]) (by simp +contextual -dsimp only [↓SD, SU, SB, Nat.reduceAdd, Nat.reduceBEq, Nat.reduceEqDiff, Nat.reduceLeDiff, Nat.reduceLT, Nat.reduceSub, ↓reduceIte, reduceCtorEq, Int.reduceToNat, hfs, hks])⟩⟩
  ·obtain rfl : j = ks.length := by omega
   rw [List.take_length]
   have hkp := kidPos_len (G.length + 1) ks
   have hkt : List.take ks.length ((kidPos (G.length + 1) ks).map (av : Int → AV)) = (kidPos (G.length + 1) ks).map av := List.take_of_length_le (by simp [hkp])
   have hkn : ∀ hp, ((kidPos (G.length + 1) ks).map (av : Int → AV)).map (AV.pur hp) = (kidPos (G.length + 1) ks).map av := fun hp => map_nop _ hp
   have hkm : ((kidPos (G.length + 1) ks).map (av : Int → AV)).length = ks.length := by simp [hkp]
   have hfl := flatXs_len' (G.length + 1) ks
   have hL : (G ++ [AV.agg [.int .i64 n.kind, .int .i64 n.n, .str n.s, .nils]] ++ (flatXs (G.length + 1) ks).map av).length = G.length + 1 + pxNs ks := by simp [hfl]; omega
   have hG : (G ++ [AV.agg [.int .i64 n.kind, .int .i64 n.n, .str n.s, .nils]] ++ (flatXs (G.length + 1) ks).map av).getD G.length .top = .agg [.int .i64 n.kind, .int .i64 n.n, .str n.s, .nils] := by simp [List.getD_eq_getElem?_getD]
   have hS : (G ++ [AV.agg [.int .i64 n.kind, .int .i64 n.n, .str n.s, .nils]] ++ (flatXs (G.length + 1) ks).map av).set G.length (.agg [.int .i64 n.kind, .int .i64 n.n, .str n.s, .sl ((kidPos (G.length + 1) ks).map av)]) = G ++ (flatX G.length (.mk n ks)).map av := by
    rw [flatX, List.map_cons, av_PNode]
    simp [List.set_append]
   have hlt2 : (G.length : Int) < (G.length : Int) + 1 + (pxNs ks : Int) := by omega
   have hlt3 : G.length < G.length + 1 + pxNs ks := by omega
   generalize (kidPos (G.length + 1) ks).map (av : Int → AV) = KP at *
   generalize hQ : G ++ [AV.agg [.int .i64 n.kind, .int .i64 n.n, .str n.s, .nils]] ++ (flatXs (G.length + 1) ks).map av = Q at *
   simp +contextual -dsimp (maxSteps := 2000000) only [↓SD, SU, SB, Nat.reduceAdd, Nat.reduceBEq, Nat.reduceEqDiff, Nat.reduceLeDiff, Nat.reduceLT, Nat.reduceSub, ↓reduceIte, reduceCtorEq, Int.reduceToNat, Int.reduceEq, Int.reduceLT, Int.reduceLE, Int.reduceNeg, Int.reduceAdd, Int.reduceSub, Nat.lt_irrefl]
   refine ghost_of (Goes.frz 30 (Goes.pur 7 (Goes.here ?_)))
   simp +contextual -dsimp (maxSteps := 2000000) only [↓SD, SU, SB, Nat.reduceAdd, Nat.reduceBEq, Nat.reduceEqDiff, Nat.reduceLeDiff, Nat.reduceLT, Nat.reduceSub, ↓reduceIte, reduceCtorEq, Int.reduceToNat, Int.reduceEq, Int.reduceLT, Int.reduceLE, Int.reduceNeg, Int.reduceAdd, Int.reduceSub, hkm, hkt, hkn, hL, hG, hS, hlt2, hlt3, Int.natCast_add, Nat.le_refl]
   refine Goes.post [(29, ⟨a, false, 36, 4, G ++ (flatX G.length (.mk n ks)).map av⟩)] ?_
   simp +contextual -dsimp (maxSteps := 2000000) only [↓SD, SU, SB, Nat.reduceAdd, Nat.reduceBEq, Nat.reduceEqDiff, Nat.reduceLeDiff, Nat.reduceLT, Nat.reduceSub, ↓reduceIte, reduceCtorEq, Int.reduceToNat, false_and]
   exact ⟨a, by rw [ec, Nat.add_assoc], rfl⟩
end Go.Proofs.YteeiaaogmjbcjaaGreat
