/-
 THE PART OF A VALUE AT A PLACE, by the reference's abstract text. Conditions: none.
-/
import Derived.Test.YteeiaaogmjbcjaaGreatHJ45
set_option linter.unusedVariables false
set_option linter.unusedSimpArgs false
set_option maxRecDepth 100000
namespace Go.Proofs.YteeiaaogmjbcjaaGreat
open Go.RowKit Go.Proofs.YteeiaaogmjbcjaaGreat.Av Go.Proofs.YteeiaaogmjbcjaaGreat.Ml
open Go.Proofs.YteeiaaogmjbcjaaGreat.Av.AVal (av)

def shD (s : Int) (n : DNode) : DNode := ⟨n.kind, n.n, n.s, n.kids.map (· + s)⟩
theorem dtree_any {l : List DNode} (hk : ∀ i, i < l.length → ∀ k ∈ dkids l i, (i : Int) < k ∧ k < l.length) {a : Nat} (ha : a < l.length) : dtree l a = growX (dhd l) (dkids l) (l.length + 1) a := growX_any hk _ _ _ ha (by omega) (by omega)
theorem part_seg {l : List DNode} {a m : Nat} (hk : ∀ i, i < l.length → ∀ k ∈ dkids l i, (i : Int) < k ∧ k < l.length) (h : endF (dkids l) l.length (l.length + 1) a = some m) : dflat (dtree l a) = ((l.drop a).take (m - a)).map (shD (-(a : Int))) := by
 have hm := end_le (dkids l) l.length (l.length + 1) a m h
 rw [dtree_any hk (by omega)]
 unfold dflat
 rw [flat_seg rfl (l.length + 1) a m 0 (-(a : Int)) h (by omega), List.map_map]
 rfl
def rowE (k u : Nat) : AV := if k = 0 then .nils else .row 46 u k
def rowF (k u : Nat) (es : List AV) : Hp := if k = 0 then [] else [(46, ⟨u, false, 116, 4, es⟩)]
theorem rowF_le {s : Hp} {k u : Nat} {es : List AV} (h : hget s 46 = hget (rowF k u es) 46) : hpLe s (rowF k u es) := by
 unfold rowF at *
 split
 ·trivial
 ·rename_i hk
  rw [if_neg hk] at h
  exact ⟨h, trivial⟩
theorem l07Part_ok (l : List DNode) (hx : Bulk.bulk l ≤ 1048576) (a m : Nat) (h : endF (dkids l) l.length (l.length + 1) a = some m) (hk : ∀ i, i < l.length → ∀ k ∈ dkids l i, (i : Int) < k ∧ k < l.length) :
  CallsF Tryz.prog 69 [.agg [.sl (l.map av)], .int .i64 a] (av (⟨dflat (dtree l a)⟩ : Data)) := by
 have hm := end_le (dkids l) l.length (l.length + 1) a m h
 have hbl := bulk_length l
 have CE := l07End_ok l hx (l.length + 1) a (by omega) (by omega)
 rw [h] at CE
 rw [part_seg hk h]
 refine ir_spec_l07Part.F rfl (by simp; exact ⟨AvPure.agg (by simp; exact lav_clean l), pint _⟩) (AVal.clean _) ?_
 rw [av_Data]
 simp +contextual -dsimp (maxSteps := 2000000) only [↓SD, SU, SB, Nat.reduceAdd, Nat.reduceBEq, Nat.reduceEqDiff, Nat.reduceLeDiff, Nat.reduceLT, Nat.reduceSub, ↓reduceIte, reduceCtorEq, Int.reduceToNat, Int.reduceEq, Int.reduceLT, Int.reduceLE, Int.reduceNeg, Int.reduceAdd, Int.reduceSub, ir_spec_l07Part, map_len]
 intro u4 u5
 have hendI : endI (some m) = (m : Int) := rfl
 rw [hendI] at CE
 refine aLoop_of (X := Nat × Nat) (fun q => ⟨[(1, .int .i64 a), (2, .obj [.sl (l.map av)]), (4, .ptr 4 u4 0 0), (5, .ptr 5 u5 0 0), (6, .int .i64 ((a : Int) + (q.1 : Int)))], (4, ⟨u4, false, 28, 1, [.agg [.nils]]⟩) :: (5, ⟨u5, false, 28, 1, [.agg [rowE q.1 q.2]]⟩) :: rowF q.1 q.2 ((((l.drop a).take q.1).map (shD (-(a : Int)))).map av)⟩) (fun q => a + q.1 ≤ m) (fun q => m - a - q.1) (0, 0) (by dsimp only; omega) (by simp +contextual -dsimp only [↓SD, SU, SB, Nat.reduceAdd, Nat.reduceBEq, Nat.reduceEqDiff, Nat.reduceLeDiff, Nat.reduceLT, Nat.reduceSub, ↓reduceIte, reduceCtorEq, Int.reduceToNat, Int.ofNat_zero, Int.add_zero]) (by simp +contextual -dsimp only [↓SD, SU, SB, Nat.reduceAdd, Nat.reduceBEq, Nat.reduceEqDiff, Nat.reduceLeDiff, Nat.reduceLT, Nat.reduceSub, ↓reduceIte, reduceCtorEq, Int.reduceToNat, rowE, rowF]) ?_
 rintro ⟨j, u⟩ hj
 dsimp only at hj ⊢
 by_cases hlt : a + j < m
 ·have hal : a + j < l.length := by omega
  have e1 := getD_map av l (a + j) .top hal
  have hlt' : (a : Int) + (j : Int) < (m : Int) := by omega
  have hkn := (dnode_small hx (a + j) hal).1
  have hK := hk (a + j) hal
  rw [dkids, getD_at hal] at hK
  have hrow : ((l.drop a).take (j + 1)).map (shD (-(a : Int))) = ((l.drop a).take j).map (shD (-(a : Int))) ++ [shD (-(a : Int)) l[a + j]] := by
   have h1 : j < (l.drop a).length := by simp; omega
   rw [List.take_succ_eq_append_getElem h1, List.map_append]
   simp
  have hsh : shD (-(a : Int)) l[a + j] = ⟨l[a + j].kind, l[a + j].n, l[a + j].s, l[a + j].kids.map (· + -(a : Int))⟩ := rfl
  have hgl : (((l.drop a).take j).map (shD (-(a : Int)))).length = j := by simp; omega
  rw [hsh] at hrow
  generalize ((l.drop a).take j).map (shD (-(a : Int))) = G at *
  generalize l[a + j] = n at *
  simp +contextual -dsimp (maxSteps := 2000000) only [↓SD, SU, SB, Nat.reduceAdd, Nat.reduceBEq, Nat.reduceEqDiff, Nat.reduceLeDiff, Nat.reduceLT, Nat.reduceSub, ↓reduceIte, reduceCtorEq, Int.reduceToNat, Int.reduceEq, Int.reduceLT, Int.reduceLE, Int.reduceNeg, Int.reduceAdd, Int.reduceSub, Int.natCast_add]
  refine aCallK_of _ CE ?_
  have htn : ((a : Int) + (j : Int)).toNat = a + j := by omega
  have hge : (0 : Int) ≤ (a : Int) + (j : Int) := by omega
  have hlt3 : (a : Int) + (j : Int) < (l.length : Int) := by omega
  simp +contextual -dsimp (maxSteps := 2000000) only [↓SD, SU, SB, Nat.reduceAdd, Nat.reduceBEq, Nat.reduceEqDiff, Nat.reduceLeDiff, Nat.reduceLT, Nat.reduceSub, ↓reduceIte, reduceCtorEq, Int.reduceToNat, Int.reduceEq, Int.reduceLT, Int.reduceLE, Int.reduceNeg, Int.reduceAdd, Int.reduceSub, hlt', hal, map_len, e1, av_DNode, htn, hge, hlt3]
  intro u7 u25
  refine aLoop_of (X := Nat × Nat) (fun q => ⟨[(1, .int .i64 a), (2, .obj [.sl (l.map av)]), (4, .ptr 4 u4 0 0), (5, .ptr 5 u5 0 0), (6, .int .i64 ((a : Int) + j)), (7, .ptr 7 u7 0 0), (8, .row 25 q.2 q.1), (27, .sl (n.kids.map av)), (28, .int .i64 n.kids.length), (29, .int .i64 q.1)], (4, ⟨u4, false, 28, 1, [.agg [.nils]]⟩) :: (5, ⟨u5, false, 28, 1, [.agg [rowE j u]]⟩) :: (7, ⟨u7, false, 116, 4, [.agg [.int .i64 n.kind, .int .i64 n.n, .str n.s, .sl (n.kids.map av)]]⟩) :: (25, ⟨q.2, false, 3, 1, ((n.kids.take q.1).map (· + -(a : Int))).map av⟩) :: rowF j u (G.map av)⟩) (fun q => q.1 ≤ n.kids.length) (fun q => n.kids.length - q.1) (0, u25) (Nat.zero_le _) (by simp +contextual -dsimp only [↓SD, SU, SB, Nat.reduceAdd, Nat.reduceBEq, Nat.reduceEqDiff, Nat.reduceLeDiff, Nat.reduceLT, Nat.reduceSub, ↓reduceIte, reduceCtorEq, Int.reduceToNat]) (by simp +contextual -dsimp only [↓SD, SU, SB, Nat.reduceAdd, Nat.reduceBEq, Nat.reduceEqDiff, Nat.reduceLeDiff, Nat.reduceLT, Nat.reduceSub, ↓reduceIte, reduceCtorEq, Int.reduceToNat, List.take_zero, List.map_nil, rowF_le]) ?_
  rintro ⟨i, u6⟩ hi
  dsimp only at hi ⊢
  by_cases hik : i < n.kids.length
  ·have e2 := getD_map av n.kids i .top hik
   have hkk := hK _ (List.getElem_mem hik)
   have ht : ((n.kids.take (i + 1)).map (· + -(a : Int))).map (av : Int → AV) = ((n.kids.take i).map (· + -(a : Int))).map av ++ [.int .i64 (n.kids[i] - (a : Int))] := by rw [List.take_succ_eq_append_getElem hik, List.map_append, List.map_append]; rfl
   have htl : (((n.kids.take i).map (· + -(a : Int))).map (av : Int → AV)).length = i := by simp; omega
   have htt : List.take i (((n.kids.take i).map (· + -(a : Int))).map (av : Int → AV)) = ((n.kids.take i).map (· + -(a : Int))).map av := List.take_of_length_le (by rw [htl]; exact Nat.le_refl _)
   generalize ((n.kids.take i).map (· + -(a : Int))).map (av : Int → AV) = K at *
   generalize n.kids[i] = k at *
   rw [av_int] at e2
   simp +contextual -dsimp (maxSteps := 2000000) only [↓SD, SU, SB, Nat.reduceAdd, Nat.reduceBEq, Nat.reduceEqDiff, Nat.reduceLeDiff, Nat.reduceLT, Nat.reduceSub, ↓reduceIte, reduceCtorEq, Int.reduceToNat, Int.reduceEq, Int.reduceLT, Int.reduceLE, Int.reduceNeg, Int.reduceAdd, Int.reduceSub, hik, e2, map_len, htl, htt]
   refine ⟨by omega, ⟨by omega, by unfold maxLen; omega⟩, fun w => ⟨by omega, ?_⟩⟩
   exact Goes.le ⟨(i + 1, w), ⟨hik, (by first | omega | (simp only; omega))⟩, rfl⟩ (by simp +contextual -dsimp only [↓SD, SU, SB, Nat.reduceAdd, Nat.reduceBEq, Nat.reduceEqDiff, Nat.reduceLeDiff, Nat.reduceLT, Nat.reduceSub, ↓reduceIte, reduceCtorEq, Int.reduceToNat, Int.natCast_add]) (by simp +contextual -dsimp only [↓SD, SU, SB, Nat.reduceAdd, Nat.reduceBEq, Nat.reduceEqDiff, Nat.reduceLeDiff, Nat.reduceLT, Nat.reduceSub, ↓reduceIte, reduceCtorEq, Int.reduceToNat, ht, rowF_le])
  ·obtain rfl : i = n.kids.length := by omega
   have hkn : ∀ hp, ((n.kids.map (· + -(a : Int))).map (av : Int → AV)).map (AV.pur hp) = (n.kids.map (· + -(a : Int))).map av := fun hp => map_nop _ hp
   have hkl : ((n.kids.map (· + -(a : Int))).map (av : Int → AV)).length = n.kids.length := by simp
   have hkt : List.take n.kids.length ((n.kids.map (· + -(a : Int))).map (av : Int → AV)) = (n.kids.map (· + -(a : Int))).map av := List.take_of_length_le (by simp)
   have hrow2 : List.map (av : DNode → AV) (((l.drop a).take (j + 1)).map (shD (-(a : Int)))) = G.map av ++ [.agg [.int .i64 n.kind, .int .i64 n.n, .str n.s, .sl ((n.kids.map (· + -(a : Int))).map av)]] := by rw [hrow, List.map_append, List.map_cons, av_DNode]; rfl
   have hgt : List.take j (G.map (av : DNode → AV)) = G.map av := List.take_of_length_le (by simp; omega)
   rw [List.take_length]
   generalize (n.kids.map (· + -(a : Int))).map (av : Int → AV) = K at *
   have hk1 : ¬ j + 1 = 0 := by omega
   have rE1 : ∀ u, rowE (j + 1) u = .row 46 u (j + 1) := fun u => if_neg hk1
   have rF1 : ∀ u es, rowF (j + 1) u es = [(46, ⟨u, false, 116, 4, es⟩)] := fun u es => if_neg hk1
   by_cases h0 : j = 0
   ·have c0 : rowE j u = .nils := if_pos h0
    have d0 : ∀ es, rowF j u es = [] := fun _ => if_pos h0
    have g0 : G = [] := List.eq_nil_of_length_eq_zero (by omega)
    rw [c0, d0]
    simp +contextual -dsimp (maxSteps := 2000000) only [↓SD, SU, SB, Nat.reduceAdd, Nat.reduceBEq, Nat.reduceEqDiff, Nat.reduceLeDiff, Nat.reduceLT, Nat.reduceSub, ↓reduceIte, reduceCtorEq, Int.reduceToNat, Int.reduceEq, Int.reduceLT, Int.reduceLE, Int.reduceNeg, Int.reduceAdd, Int.reduceSub, Nat.lt_irrefl]
    refine ghost_of (Goes.frz 25 (Goes.pur 8 (Goes.here ?_)))
    simp +contextual -dsimp (maxSteps := 2000000) only [↓SD, SU, SB, Nat.reduceAdd, Nat.reduceBEq, Nat.reduceEqDiff, Nat.reduceLeDiff, Nat.reduceLT, Nat.reduceSub, ↓reduceIte, reduceCtorEq, Int.reduceToNat, Int.reduceEq, Int.reduceLT, Int.reduceLE, Int.reduceNeg, Int.reduceAdd, Int.reduceSub, hkn, hkl, hkt, Nat.le_refl]
    refine ⟨⟨by omega, by unfold maxLen; omega⟩, fun w => ⟨by omega, ?_⟩⟩
    subst h0
    rw [g0] at hrow2
    simp only [List.map_nil, List.nil_append, Nat.zero_add] at hrow2 rE1 rF1
    exact Goes.le ⟨(1, w), ⟨by omega, (by first | omega | (simp only; omega))⟩, rfl⟩ (by simp +contextual -dsimp only [↓SD, SU, SB, Nat.reduceAdd, Nat.reduceBEq, Nat.reduceEqDiff, Nat.reduceLeDiff, Nat.reduceLT, Nat.reduceSub, ↓reduceIte, reduceCtorEq, Int.reduceToNat, Int.natCast_add, Int.ofNat_zero, Int.add_zero]) (by simp +contextual -dsimp only [↓SD, SU, SB, Nat.reduceAdd, Nat.reduceBEq, Nat.reduceEqDiff, Nat.reduceLeDiff, Nat.reduceLT, Nat.reduceSub, ↓reduceIte, reduceCtorEq, Int.reduceToNat, rE1, rF1, hrow2])
   ·have rE : ∀ u, rowE j u = .row 46 u j := fun u => if_neg h0
    have rF : ∀ u es, rowF j u es = [(46, ⟨u, false, 116, 4, es⟩)] := fun u es => if_neg h0
    rw [rE, rF]
    have hgl2 : (G.map (av : DNode → AV)).length = j := by simp; omega
    generalize G.map (av : DNode → AV) = G2 at *
    simp +contextual -dsimp (maxSteps := 2000000) only [↓SD, SU, SB, Nat.reduceAdd, Nat.reduceBEq, Nat.reduceEqDiff, Nat.reduceLeDiff, Nat.reduceLT, Nat.reduceSub, ↓reduceIte, reduceCtorEq, Int.reduceToNat, Int.reduceEq, Int.reduceLT, Int.reduceLE, Int.reduceNeg, Int.reduceAdd, Int.reduceSub, Nat.lt_irrefl]
    refine ghost_of (Goes.frz 25 (Goes.pur 8 (Goes.here ?_)))
    simp +contextual -dsimp (maxSteps := 2000000) only [↓SD, SU, SB, Nat.reduceAdd, Nat.reduceBEq, Nat.reduceEqDiff, Nat.reduceLeDiff, Nat.reduceLT, Nat.reduceSub, ↓reduceIte, reduceCtorEq, Int.reduceToNat, Int.reduceEq, Int.reduceLT, Int.reduceLE, Int.reduceNeg, Int.reduceAdd, Int.reduceSub, hkn, hkl, hkt, Nat.le_refl, hgt]
    refine ⟨⟨by omega, by unfold maxLen; omega⟩, fun w => ⟨by omega, ?_⟩⟩
    exact Goes.le ⟨(j + 1, w), ⟨by omega, (by first | omega | (simp only; omega))⟩, rfl⟩ (by simp +contextual -dsimp only [↓SD, SU, SB, Nat.reduceAdd, Nat.reduceBEq, Nat.reduceEqDiff, Nat.reduceLeDiff, Nat.reduceLT, Nat.reduceSub, ↓reduceIte, reduceCtorEq, Int.reduceToNat, Int.natCast_add, Int.add_assoc]) (by simp +contextual -dsimp only [↓SD, SU, SB, Nat.reduceAdd, Nat.reduceBEq, Nat.reduceEqDiff, Nat.reduceLeDiff, Nat.reduceLT, Nat.reduceSub, ↓reduceIte, reduceCtorEq, Int.reduceToNat, rE1, rF1, hrow2])
 ·obtain rfl : a + j = m := by omega
  have h0 : ¬ j = 0 := by omega
  have rE : ∀ u, rowE j u = .row 46 u j := fun u => if_neg h0
  have rF : ∀ u es, rowF j u es = [(46, ⟨u, false, 116, 4, es⟩)] := fun u es => if_neg h0
  have hjl : a + j - a = j := by omega
  have hgl : (((l.drop a).take j).map (shD (-(a : Int)))).length = j := by simp; omega
  rw [rE, rF, hjl]
  generalize ((l.drop a).take j).map (shD (-(a : Int))) = G at *
  have hgt : List.take j (G.map (av : DNode → AV)) = G.map av := List.take_of_length_le (by simp; omega)
  simp +contextual -dsimp (maxSteps := 2000000) only [↓SD, SU, SB, Nat.reduceAdd, Nat.reduceBEq, Nat.reduceEqDiff, Nat.reduceLeDiff, Nat.reduceLT, Nat.reduceSub, ↓reduceIte, reduceCtorEq, Int.reduceToNat, Int.reduceEq, Int.reduceLT, Int.reduceLE, Int.reduceNeg, Int.reduceAdd, Int.reduceSub, Int.natCast_add]
  refine aCallK_of _ CE ?_
  simp +contextual -dsimp (maxSteps := 2000000) only [↓SD, SU, SB, Nat.reduceAdd, Nat.reduceBEq, Nat.reduceEqDiff, Nat.reduceLeDiff, Nat.reduceLT, Nat.reduceSub, ↓reduceIte, reduceCtorEq, Int.reduceToNat, Int.reduceEq, Int.reduceLT, Int.reduceLE, Int.reduceNeg, Int.reduceAdd, Int.reduceSub, Int.lt_irrefl, Int.natCast_add, map_len, map_nop, hgt, hgl, Nat.le_refl]
end Go.Proofs.YteeiaaogmjbcjaaGreat
