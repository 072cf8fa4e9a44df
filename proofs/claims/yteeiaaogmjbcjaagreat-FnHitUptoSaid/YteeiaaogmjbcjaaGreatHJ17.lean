/-
 dataOf, by its abstract text. Conditions: none.
-/
import Derived.Test.YteeiaaogmjbcjaaGreatHJ16
import Derived.Test.YteeiaaogmjbcjaaGreatProg
import Derived.Test.YteeiaaogmjbcjaaGreatHAvDraw
import Derived.Test.YteeiaaogmjbcjaaGreatHJ05
set_option linter.unusedVariables false
set_option linter.unusedSimpArgs false
set_option maxRecDepth 100000
namespace Go.Proofs.YteeiaaogmjbcjaaGreat
open Go.RowKit Go.Proofs.YteeiaaogmjbcjaaGreat.Av Go.Proofs.YteeiaaogmjbcjaaGreat.Ml
open Go.Proofs.YteeiaaogmjbcjaaGreat.Av.AVal (av)

def dflat (e : Px) : List DNode := (flatX 0 e).map fun p => ⟨p.kind, p.n, p.s, p.kids⟩
theorem dflat_len (e : Px) : (dflat e).length = pxN e := by simp [dflat, flatX_len]
theorem dflat_av (e : Px) : (flatX 0 e).map (av : PNode → AV) = (dflat e).map av := by
 unfold dflat
 rw [List.map_map]
 refine List.map_congr_left fun p _ => ?_
 show av p = av (⟨p.kind, p.n, p.s, p.kids⟩ : DNode)
 rw [av_PNode, av_DNode]
def rowC (k u : Nat) : AV := if k = 0 then .nils else .row 24 u k
def rowD (k u : Nat) (es : List AV) : Hp := if k = 0 then [] else [(24, ⟨u, false, 116, 4, es⟩)]
theorem dataOf_ok (e : Px) (hb : pxN e ≤ 1048576) : CallsF Tryz.prog 33 [av e] (av (⟨dflat e⟩ : Data)) := by
 refine ir_impl_dataOf.F rfl (by simp; exact AVal.clean e) (AVal.clean _) ?_
 have C := flatPat_ok e [] .nils [] (.inl ⟨rfl, rfl, rfl⟩) (by simpa using hb)
 unfold FlatPost at C
 have hp := pxN_pos e
 have hl := dflat_len e
 simp only [List.length_nil, List.nil_append, Nat.zero_add, dflat_av] at C
 rw [av_Data]
 rw [← hl] at C
 have hb2 : (dflat e).length ≤ 1048576 := by rw [hl]; exact hb
 have hLn : 1 ≤ (dflat e).length := by rw [hl]; exact hp
 clear hl hp hb
 generalize dflat e = L at *
 simp +contextual -dsimp (maxSteps := 2000000) only [↓SD, SU, SB, Nat.reduceAdd, Nat.reduceBEq, Nat.reduceEqDiff, Nat.reduceLeDiff, Nat.reduceLT, Nat.reduceSub, ↓reduceIte, reduceCtorEq, Int.reduceToNat, Int.reduceEq, Int.reduceLT, Int.reduceLE, Int.reduceNeg, Int.reduceAdd, Int.reduceSub, ir_impl_dataOf, px_cells, px_pur, px_pur1, px_purA, px_one, px_ok]
 intro u2
 refine aCallH_of [] C (by simp +contextual -dsimp only [↓SD, SU, SB, Nat.reduceAdd, Nat.reduceBEq, Nat.reduceEqDiff, Nat.reduceLeDiff, Nat.reduceLT, Nat.reduceSub, ↓reduceIte, reduceCtorEq, Int.reduceToNat, px_purA]) ?_
 rintro r hp' ⟨v, rfl, rfl⟩
 simp +contextual -dsimp (maxSteps := 2000000) only [↓SD, SU, SB, Nat.reduceAdd, Nat.reduceBEq, Nat.reduceEqDiff, Nat.reduceLeDiff, Nat.reduceLT, Nat.reduceSub, ↓reduceIte, reduceCtorEq, Int.reduceToNat, Int.reduceEq, Int.reduceLT, Int.reduceLE, Int.reduceNeg, Int.reduceAdd, Int.reduceSub]
 intro u5
 refine aLoop_of (X := Nat × Nat) (fun q => ⟨[(2, .ptr 2 u2 0 0), (5, .ptr 5 u5 0 0), (14, .row 29 v L.length), (15, .int .i64 L.length), (16, .int .i64 q.1)], (2, ⟨u2, false, 28, 1, [.agg [.nils]]⟩) :: (5, ⟨u5, false, 28, 1, [.agg [rowC q.1 q.2]]⟩) :: (29, ⟨v, false, 36, 4, L.map av⟩) :: rowD q.1 q.2 ((L.take q.1).map av)⟩) (fun q => q.1 ≤ L.length) (fun q => L.length - q.1) (0, 0) (Nat.zero_le _) (by simp +contextual -dsimp only [↓SD, SU, SB, Nat.reduceAdd, Nat.reduceBEq, Nat.reduceEqDiff, Nat.reduceLeDiff, Nat.reduceLT, Nat.reduceSub, ↓reduceIte, reduceCtorEq, Int.reduceToNat]) (by simp +contextual -dsimp only [↓SD, SU, SB, Nat.reduceAdd, Nat.reduceBEq, Nat.reduceEqDiff, Nat.reduceLeDiff, Nat.reduceLT, Nat.reduceSub, ↓reduceIte, reduceCtorEq, Int.reduceToNat, rowC, rowD]) ?_
 rintro ⟨j, u⟩ hj
 dsimp only at hj ⊢
 by_cases hlt : j < L.length
 ·have e1 := getD_map av L j .top hlt
  have hk1 : ¬ j + 1 = 0 := by omega
  have rC1 : ∀ u, rowC (j + 1) u = .row 24 u (j + 1) := fun u => if_neg hk1
  have rD1 : ∀ u es, rowD (j + 1) u es = [(24, ⟨u, false, 116, 4, es⟩)] := fun u es => if_neg hk1
  have ht : (L.take (j + 1)).map (av : DNode → AV) = (L.take j).map av ++ [av L[j]] := by rw [List.take_succ_eq_append_getElem hlt, List.map_append]; rfl
  have htl : ((L.take j).map (av : DNode → AV)).length = j := by simp; omega
  have htt : List.take j ((L.take j).map (av : DNode → AV)) = (L.take j).map av := List.take_of_length_le (by rw [htl]; exact Nat.le_refl _)
  generalize L[j] = a at *
  rw [av_DNode] at ht
  by_cases h0 : j = 0
  ·subst h0
   have c0 : ∀ u, rowC 0 u = .nils := fun _ => rfl
   have d0 : ∀ u es, rowD 0 u es = [] := fun _ _ => rfl
   have hlt' : (0 : Int) < L.length := by omega
   rw [c0, d0]
   simp +contextual -dsimp (maxSteps := 2000000) only [↓SD, SU, SB, Nat.reduceAdd, Nat.reduceBEq, Nat.reduceEqDiff, Nat.reduceLeDiff, Nat.reduceLT, Nat.reduceSub, ↓reduceIte, reduceCtorEq, Int.reduceToNat, Int.reduceEq, Int.reduceLT, Int.reduceLE, Int.reduceNeg, Int.reduceAdd, Int.reduceSub, hlt, hlt', map_len, e1, av_DNode]
   intro u7
   refine ⟨⟨by omega, by unfold maxLen; omega⟩, fun w => ?_⟩
   simp only [List.take_zero, List.map_nil, List.nil_append, Nat.zero_add] at ht rC1 rD1
   exact Goes.le ⟨(1, w), ⟨hlt, (by first | omega | (simp only; omega))⟩, rfl⟩ (by simp +contextual -dsimp only [↓SD, SU, SB, Nat.reduceAdd, Nat.reduceBEq, Nat.reduceEqDiff, Nat.reduceLeDiff, Nat.reduceLT, Nat.reduceSub, ↓reduceIte, reduceCtorEq, Int.reduceToNat]) (by simp +contextual -dsimp only [↓SD, SU, SB, Nat.reduceAdd, Nat.reduceBEq, Nat.reduceEqDiff, Nat.reduceLeDiff, Nat.reduceLT, Nat.reduceSub, ↓reduceIte, reduceCtorEq, Int.reduceToNat, rC1, rD1, ht])
  ·have rC : ∀ u, rowC j u = .row 24 u j := fun u => if_neg h0
   have rD : ∀ u es, rowD j u es = [(24, ⟨u, false, 116, 4, es⟩)] := fun u es => if_neg h0
   rw [rC, rD]
   generalize (L.take j).map (av : DNode → AV) = G at *
   simp +contextual -dsimp (maxSteps := 2000000) only [↓SD, SU, SB, Nat.reduceAdd, Nat.reduceBEq, Nat.reduceEqDiff, Nat.reduceLeDiff, Nat.reduceLT, Nat.reduceSub, ↓reduceIte, reduceCtorEq, Int.reduceToNat, Int.reduceEq, Int.reduceLT, Int.reduceLE, Int.reduceNeg, Int.reduceAdd, Int.reduceSub, hlt, map_len, e1, av_DNode, htl, htt]
   intro u7
   refine ⟨⟨by omega, by unfold maxLen; omega⟩, fun w => ⟨by omega, ?_⟩⟩
   exact Goes.le ⟨(j + 1, w), ⟨hlt, (by first | omega | (simp only; omega))⟩, rfl⟩ (by simp +contextual -dsimp only [↓SD, SU, SB, Nat.reduceAdd, Nat.reduceBEq, Nat.reduceEqDiff, Nat.reduceLeDiff, Nat.reduceLT, Nat.reduceSub, ↓reduceIte, reduceCtorEq, Int.reduceToNat, Int.natCast_add]) (by simp +contextual -dsimp only [↓SD, SU, SB, Nat.reduceAdd, Nat.reduceBEq, Nat.reduceEqDiff, Nat.reduceLeDiff, Nat.reduceLT, Nat.reduceSub, ↓reduceIte, reduceCtorEq, Int.reduceToNat, rC1, rD1, ht])
 ·obtain rfl : j = L.length := by omega
  have h0 : ¬ L.length = 0 := by omega
  have rC : ∀ u, rowC L.length u = .row 24 u L.length := fun u => if_neg h0
  have rD : ∀ u es, rowD L.length u es = [(24, ⟨u, false, 116, 4, es⟩)] := fun u es => if_neg h0
  have t0 : List.take L.length (L.map (av : DNode → AV)) = L.map av := List.take_of_length_le (by simp)
  rw [rC, rD, List.take_length]
  simp +contextual -dsimp (maxSteps := 2000000) only [↓SD, SU, SB, Nat.reduceAdd, Nat.reduceBEq, Nat.reduceEqDiff, Nat.reduceLeDiff, Nat.reduceLT, Nat.reduceSub, ↓reduceIte, reduceCtorEq, Int.reduceToNat, Int.reduceEq, Int.reduceLT, Int.reduceLE, Int.reduceNeg, Int.reduceAdd, Int.reduceSub, Nat.lt_irrefl, map_len, map_nop, t0, Nat.le_refl]
  trace_state
end Go.Proofs.YteeiaaogmjbcjaaGreat
set_option linter.unusedVariables false
set_option maxRecDepth 100000
namespace Go.Proofs.YteeiaaogmjbcjaaGreat
open Go.Proofs.YteeiaaogmjbcjaaGreat.Av

theorem follows_HitD : Tryz.prog.follows .mixedOrders = true := by kernel_rfl

def ir_spec_l07Data : Ir Tryz.prog 22 [(17, 7777), (26, 7777), (32, 7777), (42, 7777), (9, 7777)] [9999] 2 := ⟨_, _, Tryz.func22, follows_HitD, by kernel_rfl, low_of [10007] Tryz.progTables (by conv => lhs; cbv) (by kernel_rfl)⟩
def ir_spec_l07Pattern : Ir Tryz.prog 23 [(15, 7777), (51, 7777), (65, 7777)] [9999] 3 := ⟨_, _, Tryz.func23, follows_HitD, by kernel_rfl, low_of [] Tryz.progTables (by conv => lhs; cbv) (by kernel_rfl)⟩
def ir_spec_l07Lay : Ir Tryz.prog 27 [(13,13),(32,32), (40, 7777)] [9999, 10] 2 := ⟨_, _, Tryz.func27, follows_HitD, by kernel_rfl, low_of [] Tryz.progTables (by conv => lhs; cbv) (by kernel_rfl)⟩
def ir_spec_DrawHit : Ir Tryz.prog 6 [(10, 7777), (12, 7777), (16, 7777), (20, 7777), (23, 7777), (26, 7777), (28, 7777), (31, 7777), (34, 7777)] [9999, 5] 1 := ⟨_, _, Tryz.func6, follows_HitD, by kernel_rfl, low_of [10009] Tryz.progTables (by conv => lhs; cbv) (by kernel_rfl)⟩
def ir_laws_FnHit : Ir Tryz.prog 3 [(20, 7777)] [20] 1 := ⟨_, _, Tryz.func3, follows_HitD, by kernel_rfl, low_of [] Tryz.progTables (by conv => lhs; cbv) (by kernel_rfl)⟩
end Go.Proofs.YteeiaaogmjbcjaaGreat
set_option linter.unusedVariables false
namespace Go.Proofs.YteeiaaogmjbcjaaGreat
open Go.RowKit Go.Proofs.YteeiaaogmjbcjaaGreat.Av
open Go.Proofs.YteeiaaogmjbcjaaGreat.Av.AVal (av)

theorem Goes.frzs {fr : List (Nat × AV)} {T : St → Prop} : ∀ (ks : List Nat) {hp : Hp}, Goes ⟨fr, frzL ks hp⟩ T → Goes ⟨fr, hp⟩ T
 | [], _, h => h
 | k :: r, _, h => Goes.frz k (Goes.frzs r h)
end Go.Proofs.YteeiaaogmjbcjaaGreat
