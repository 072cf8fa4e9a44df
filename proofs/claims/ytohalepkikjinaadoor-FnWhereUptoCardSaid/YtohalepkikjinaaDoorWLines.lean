/-
  THE LAW FnLines, by its abstract text: it returns true. Conditions: the code's bulk is at most 1048576; block MaxLen holds an int.
-/
import Derived.Test.YtohalepkikjinaaDoorLineQ
import Derived.Test.YtohalepkikjinaaDoorLineF
import Derived.Test.YtohalepkikjinaaDoorLines
import Derived.Test.YtohalepkikjinaaDoorDrawT
import Derived.Test.YtohalepkikjinaaDoorDByte
set_option linter.unusedVariables false
set_option linter.unusedSimpArgs false
set_option maxRecDepth 100000
namespace Go.Proofs.YtohalepkikjinaaDoor
open Go.RowKit Go.Proofs.YtohalepkikjinaaDoor.Av Go.Proofs.YtohalepkikjinaaDoor.Ml
open Go.Proofs.YtohalepkikjinaaDoor.Av.AVal (av)

theorem implLines_okF (s : ByteArray) (hs : s.size ≤ 1048576) : CallsF Tryd.prog 6 [.str s] (.int .i64 (linesI s)) := by
  have r := lineN_le s.data.toList
  have hl : s.data.toList.length = s.size := by simp
  exact callsF_sc (by kernel_rfl) rfl (fun S w => vr_int64 (by unfold linesI; omega)) fun w => (impl_Lines s hs).mono fun e w' ⟨h1, h2⟩ => ⟨h1, h2 ▸ Below.refl _ _⟩
theorem specLines_okF (s : ByteArray) (hs : s.size ≤ 1048576) : CallsF Tryd.prog 7 [.str s] (.int .i64 (linesI s)) := by
  have r := lineN_le s.data.toList
  have hl : s.data.toList.length = s.size := by simp
  exact callsF_sc (by kernel_rfl) rfl (fun S w => vr_int64 (by unfold linesI; omega)) fun w => spec_Lines s hs
theorem lineOk_in (s : ByteArray) {j : Nat} (hj : j < (pcs [] s.data.toList).length) : lineOk s ((j : Int) + 1) = true := by
  rw [lineOk_len]; simp; omega
theorem lawLinesD_ok (c : List UInt8) (m : Int) (ty : Nat) (hk : Bulk.bulk c ≤ 1048576) : CallsH Tryd.prog 3 [.sl (c.map av)] [gint 0 ty m] (GPost (.bool true) (gint 0 ty m)) := by
  have hc := bulk_length c
  have hg : ¬ (1048576 : Int) < c.length := by omega
  refine funH_laws_FnLines rfl ?_
  have CL := fun (s : ByteArray) (n : Int) (hs : s.size ≤ 1048576) => implLineOf_okH s n hs m ty
  obtain ⟨G, hG⟩ : ∃ G : Box, G = (gint 0 ty m).2 := ⟨_, rfl⟩
  have hG5 : gint 0 ty m = (5000, G) := by rw [hG]; rfl
  rw [hG5] at CL ⊢
  simp +contextual -dsimp (maxSteps := 2000000) only [↓SD, SU, SB, Nat.reduceAdd, Nat.reduceBEq, Nat.reduceEqDiff, Nat.reduceLeDiff, Nat.reduceLT, Nat.reduceSub, ↓reduceIte, zA, zI, zN, reduceCtorEq, Int.reduceToNat, zE, Int.reduceEq, Int.reduceLT, Int.reduceLE, Int.reduceNeg, Int.reduceAdd, Int.reduceSub, ir_laws_FnLines, rs_laws_FnLines, map_len, hg]
  refine aCallH_of [] (DrawLines_ok c (by omega)) (by simp +contextual -dsimp only [↓SD, SU, SB, Nat.reduceAdd, Nat.reduceBEq, Nat.reduceEqDiff, Nat.reduceLeDiff, Nat.reduceLT, Nat.reduceSub, ↓reduceIte, zA, zI, zN, reduceCtorEq, Int.reduceToNat, zE]) ?_
  rintro r hp' ⟨s, rfl, hs, rfl⟩
  simp +contextual -dsimp (maxSteps := 2000000) only [↓SD, SU, SB, Nat.reduceAdd, Nat.reduceBEq, Nat.reduceEqDiff, Nat.reduceLeDiff, Nat.reduceLT, Nat.reduceSub, ↓reduceIte, zA, zI, zN, reduceCtorEq, Int.reduceToNat, zE, Int.reduceEq, Int.reduceLT, Int.reduceLE, Int.reduceNeg, Int.reduceAdd, Int.reduceSub]
  refine aCallK_of _ (implLines_okF s (by omega)) ?_
  simp +contextual -dsimp (maxSteps := 2000000) only [↓SD, SU, SB, Nat.reduceAdd, Nat.reduceBEq, Nat.reduceEqDiff, Nat.reduceLeDiff, Nat.reduceLT, Nat.reduceSub, ↓reduceIte, zA, zI, zN, reduceCtorEq, Int.reduceToNat, zE, Int.reduceEq, Int.reduceLT, Int.reduceLE, Int.reduceNeg, Int.reduceAdd, Int.reduceSub]
  refine aCallK_of _ (specLines_okF s (by omega)) ?_
  have hn := linesI_pcs s
  have hL := linesB_le s
  have hl : (linesB s).length = (pcs [] s.data.toList).length := by simp [linesB]
  have hfull := outB_full s
  have hne : 1 ≤ (pcs [] s.data.toList).length := by have := pcs_ne [] s.data.toList; cases h : pcs [] s.data.toList with | nil => exact absurd h this | cons a b => simp
  rw [hn]
  obtain ⟨N, hN⟩ : ∃ N, N = (pcs [] s.data.toList).length := ⟨_, rfl⟩
  have hstep := fun k (h : k < N) => outB_step s (k := k) (by omega)
  have hok := fun k (h : k < N) => lineOk_in s (j := k) (by omega)
  have hmore : lineOk s ((N : Int) + 1) = false := by rw [lineOk_len]; simp; omega
  rw [← hN] at hfull hne hl ⊢
  simp +contextual -dsimp (maxSteps := 2000000) only [↓SD, SU, SB, Nat.reduceAdd, Nat.reduceBEq, Nat.reduceEqDiff, Nat.reduceLeDiff, Nat.reduceLT, Nat.reduceSub, ↓reduceIte, zA, zI, zN, reduceCtorEq, Int.reduceToNat, zE, Int.reduceEq, Int.reduceLT, Int.reduceLE, Int.reduceNeg, Int.reduceAdd, Int.reduceSub]
  refine aLoop_of (X := Nat) (fun k => ⟨[(3, .str s), (4, .int .i64 N), (5, .str (outB s k)), (6, .int .i64 ((k : Int) + 1))], [(5000, G)]⟩) (fun k => k ≤ N) (fun k => N - k) 0 (Nat.zero_le _) (by simp +contextual -dsimp only [↓SD, SU, SB, Nat.reduceAdd, Nat.reduceBEq, Nat.reduceEqDiff, Nat.reduceLeDiff, Nat.reduceLT, Nat.reduceSub, ↓reduceIte, zA, zI, zN, reduceCtorEq, Int.reduceToNat, zE, outB_zero, Int.zero_add]) (by simp +contextual -dsimp only [↓SD, SU, SB, Nat.reduceAdd, Nat.reduceBEq, Nat.reduceEqDiff, Nat.reduceLeDiff, Nat.reduceLT, Nat.reduceSub, ↓reduceIte, zA, zI, zN, reduceCtorEq, Int.reduceToNat, zE]) ?_
  rintro k hk1
  by_cases hlt : k < N
  · have hlt' : (k : Int) + 1 ≤ (N : Int) := by omega
    have hst := hstep k hlt
    have hkk := hok k hlt
    have o1 := outB_size s k
    have o2 := lineOfB_le s ((k : Int) + 1)
    have hb10 : (bs [10]).size = 1 := by rw [bszT]; rfl
    have C1 := CL s ((k : Int) + 1) (by omega)
    rw [hkk] at C1
    simp +contextual -dsimp (maxSteps := 2000000) only [↓SD, SU, SB, Nat.reduceAdd, Nat.reduceBEq, Nat.reduceEqDiff, Nat.reduceLeDiff, Nat.reduceLT, Nat.reduceSub, ↓reduceIte, zA, zI, zN, reduceCtorEq, Int.reduceToNat, zE, Int.reduceEq, Int.reduceLT, Int.reduceLE, Int.reduceNeg, Int.reduceAdd, Int.reduceSub, hlt']
    refine aCallH_of [5000] C1 (by simp +contextual -dsimp only [↓SD, SU, SB, Nat.reduceAdd, Nat.reduceBEq, Nat.reduceEqDiff, Nat.reduceLeDiff, Nat.reduceLT, Nat.reduceSub, ↓reduceIte, zA, zI, zN, reduceCtorEq, Int.reduceToNat, zE]) ?_
    rintro r' hp' ⟨rfl, rfl⟩
    by_cases h0 : k = 0
    · subst h0
      rw [if_pos rfl] at hst
      have o2' : (lineOfB s 1).size ≤ s.size := o2
      simp +contextual -dsimp (maxSteps := 2000000) only [↓SD, SU, SB, Nat.reduceAdd, Nat.reduceBEq, Nat.reduceEqDiff, Nat.reduceLeDiff, Nat.reduceLT, Nat.reduceSub, ↓reduceIte, zA, zI, zN, reduceCtorEq, Int.reduceToNat, zE, Int.reduceEq, Int.reduceLT, Int.reduceLE, Int.reduceNeg, Int.reduceAdd, Int.reduceSub, Int.zero_add, Int.lt_irrefl]
      (repeat' (first | intro _ | refine And.intro ?_ ?_))
      all_goals first | omega | ((try simp only [ByteArray.size_append]); unfold maxLen; omega) | skip
      refine Goes.le (t := ⟨[(3, .str s), (4, .int .i64 N), (5, .str (outB s 1)), (6, .int .i64 2)], [(5000, G)]⟩) ⟨1, ⟨hlt, by omega⟩, rfl⟩ ?_ (by simp +contextual -dsimp only [↓SD, SU, SB, Nat.reduceAdd, Nat.reduceBEq, Nat.reduceEqDiff, Nat.reduceLeDiff, Nat.reduceLT, Nat.reduceSub, ↓reduceIte, zA, zI, zN, reduceCtorEq, Int.reduceToNat, zE])
      have hst1 : outB s 1 = outB s 0 ++ lineOfB s 1 := hst
      simp +contextual -dsimp (maxSteps := 2000000) only [↓SD, SU, SB, Nat.reduceAdd, Nat.reduceBEq, Nat.reduceEqDiff, Nat.reduceLeDiff, Nat.reduceLT, Nat.reduceSub, ↓reduceIte, zA, zI, zN, reduceCtorEq, Int.reduceToNat, zE, hst1]
    · have hgt : (1 : Int) < (k : Int) + 1 := by omega
      rw [if_neg h0] at hst
      simp +contextual -dsimp (maxSteps := 2000000) only [↓SD, SU, SB, Nat.reduceAdd, Nat.reduceBEq, Nat.reduceEqDiff, Nat.reduceLeDiff, Nat.reduceLT, Nat.reduceSub, ↓reduceIte, zA, zI, zN, reduceCtorEq, Int.reduceToNat, zE, Int.reduceEq, Int.reduceLT, Int.reduceLE, Int.reduceNeg, Int.reduceAdd, Int.reduceSub, hgt]
      (repeat' (first | intro _ | refine And.intro ?_ ?_))
      all_goals first | omega | ((try simp only [ByteArray.size_append]); unfold maxLen; omega) | skip
      exact Goes.le ⟨k + 1, ⟨hlt, (by first | omega | (simp only; omega))⟩, rfl⟩ (by simp +contextual -dsimp only [↓SD, SU, SB, Nat.reduceAdd, Nat.reduceBEq, Nat.reduceEqDiff, Nat.reduceLeDiff, Nat.reduceLT, Nat.reduceSub, ↓reduceIte, zA, zI, zN, reduceCtorEq, Int.reduceToNat, zE, hst, Int.natCast_add]) (by simp +contextual -dsimp only [↓SD, SU, SB, Nat.reduceAdd, Nat.reduceBEq, Nat.reduceEqDiff, Nat.reduceLeDiff, Nat.reduceLT, Nat.reduceSub, ↓reduceIte, zA, zI, zN, reduceCtorEq, Int.reduceToNat, zE])
  · obtain rfl : k = N := by omega
    have hgt : ¬ ((k : Int) + 1 ≤ (k : Int)) := by omega
    have C1 := CL s ((k : Int) + 1) (by omega)
    rw [hmore] at C1
    simp +contextual -dsimp (maxSteps := 2000000) only [↓SD, SU, SB, Nat.reduceAdd, Nat.reduceBEq, Nat.reduceEqDiff, Nat.reduceLeDiff, Nat.reduceLT, Nat.reduceSub, ↓reduceIte, zA, zI, zN, reduceCtorEq, Int.reduceToNat, zE, Int.reduceEq, Int.reduceLT, Int.reduceLE, Int.reduceNeg, Int.reduceAdd, Int.reduceSub, hgt]
    refine ⟨by omega, ?_⟩
    refine aCallH_of [5000] C1 (by simp +contextual -dsimp only [↓SD, SU, SB, Nat.reduceAdd, Nat.reduceBEq, Nat.reduceEqDiff, Nat.reduceLeDiff, Nat.reduceLT, Nat.reduceSub, ↓reduceIte, zA, zI, zN, reduceCtorEq, Int.reduceToNat, zE]) ?_
    rintro r' hp' ⟨rfl, rfl⟩
    simp +contextual -dsimp (maxSteps := 2000000) only [↓SD, SU, SB, Nat.reduceAdd, Nat.reduceBEq, Nat.reduceEqDiff, Nat.reduceLeDiff, Nat.reduceLT, Nat.reduceSub, ↓reduceIte, zA, zI, zN, reduceCtorEq, Int.reduceToNat, zE, Int.reduceEq, Int.reduceLT, Int.reduceLE, Int.reduceNeg, Int.reduceAdd, Int.reduceSub, hfull]
    refine Goes.post [(5000, G)] ?_
    simp +contextual -dsimp (maxSteps := 2000000) only [↓SD, SU, SB, Nat.reduceAdd, Nat.reduceBEq, Nat.reduceEqDiff, Nat.reduceLeDiff, Nat.reduceLT, Nat.reduceSub, ↓reduceIte, zA, zI, zN, reduceCtorEq, Int.reduceToNat, zE]
    exact ⟨rfl, rfl⟩
end Go.Proofs.YtohalepkikjinaaDoor
