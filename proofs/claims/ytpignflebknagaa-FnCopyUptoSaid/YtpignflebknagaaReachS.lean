/-
  Sweep AND Reach OF THE REFERENCE, by abstract texts. Conditions: none.
-/
import Derived.Test.YtpignflebknagaaReachW
set_option linter.unusedVariables false
set_option linter.unusedSimpArgs false
set_option maxRecDepth 100000
namespace Go.Proofs.Ytpignflebknagaa
open Go.RowKit Go.Proofs.Ytpignflebknagaa.Av Go.Proofs.Ytpignflebknagaa.Ml
open Go.Proofs.Ytpignflebknagaa.Av.AVal (av)

theorem specReach_ok (h : List Cell) (r : List Val) (hl : h.length ≤ 1048576) (hr : r.length ≤ 1048576) (hh : ∀ c ∈ h, ValR c.a ∧ ValR c.b) (hv : ∀ v ∈ r, ValR v) : CallsF Try.prog 11 [.sl (h.map av), .sl (r.map av)] (.sl ((reachL h r).map av)) := by
  refine fun_spec_Reach rfl (by simp; exact ⟨lav_clean h, lav_clean r⟩) (lav_clean _) ?_
  have C := specHeapOk_ok h r hl hr hh hv
  simp +contextual -dsimp (maxSteps := 2000000) only [↓SD, SU, SB, Nat.reduceAdd, Nat.reduceBEq, Nat.reduceEqDiff, Nat.reduceLeDiff, Nat.reduceLT, Nat.reduceSub, ↓reduceIte, zA, zI, zN, reduceCtorEq, Int.reduceToNat, zE, Int.reduceEq, Int.reduceLT, Int.reduceLE, Int.reduceNeg, Int.reduceAdd, Int.reduceSub, ir_spec_Reach, rs_spec_Reach, map_len]
  intro u
  cases hb : heapB h r with
  | false =>
    rw [hb] at C
    have hs : reachL h r = [] := by simp [reachL, hb]
    rw [hs]
    refine aCallK_of _ C ?_
    simp +contextual -dsimp (maxSteps := 2000000) only [↓SD, SU, SB, Nat.reduceAdd, Nat.reduceBEq, Nat.reduceEqDiff, Nat.reduceLeDiff, Nat.reduceLT, Nat.reduceSub, ↓reduceIte, zA, zI, zN, reduceCtorEq, Int.reduceToNat, zE, Int.reduceEq, Int.reduceLT, Int.reduceLE, Int.reduceNeg, Int.reduceAdd, Int.reduceSub]
  | true =>
    rw [hb] at C
    have hn : h.length ≤ 4000 := by simp [heapB] at hb; exact hb.1.1
    have hs : reachL h r = pickI (fun i => decide (i ∈ reachO h r)) h.length := by simp [reachL, hb]
    rw [hs]
    have CM := marks_ok h r hb hr
    obtain ⟨m, hm⟩ : ∃ m, m = (List.range h.length).map fun i => decide (i ∈ reachO h r) := ⟨_, rfl⟩
    rw [← hm] at CM
    have hml : m.length = h.length := by rw [hm]; simp
    refine aCallK_of _ C ?_
    simp +contextual -dsimp (maxSteps := 2000000) only [↓SD, SU, SB, Nat.reduceAdd, Nat.reduceBEq, Nat.reduceEqDiff, Nat.reduceLeDiff, Nat.reduceLT, Nat.reduceSub, ↓reduceIte, zA, zI, zN, reduceCtorEq, Int.reduceToNat, zE, Int.reduceEq, Int.reduceLT, Int.reduceLE, Int.reduceNeg, Int.reduceAdd, Int.reduceSub]
    refine aCallK_of _ CM ?_
    simp +contextual -dsimp (maxSteps := 2000000) only [↓SD, SU, SB, Nat.reduceAdd, Nat.reduceBEq, Nat.reduceEqDiff, Nat.reduceLeDiff, Nat.reduceLT, Nat.reduceSub, ↓reduceIte, zA, zI, zN, reduceCtorEq, Int.reduceToNat, zE, Int.reduceEq, Int.reduceLT, Int.reduceLE, Int.reduceNeg, Int.reduceAdd, Int.reduceSub, map_len, hml]
    refine aLoop_of (X := Nat × Nat) (fun x => ⟨[(5, .row 8 x.2 (pickI (fun i => decide (i ∈ reachO h r)) x.1).length), (16, .sl (m.map av)), (17, .int .i64 h.length), (18, .int .i64 x.1)], [(8, ⟨x.2, false, 3, 1, (pickI (fun i => decide (i ∈ reachO h r)) x.1).map av⟩)]⟩) (fun x => x.1 ≤ h.length) (fun x => h.length - x.1) (0, u) (Nat.zero_le _) (by simp +contextual -dsimp only [↓SD, SU, SB, Nat.reduceAdd, Nat.reduceBEq, Nat.reduceEqDiff, Nat.reduceLeDiff, Nat.reduceLT, Nat.reduceSub, ↓reduceIte, zA, zI, zN, reduceCtorEq, Int.reduceToNat, zE, pickI, List.range_zero, List.filter_nil]) (by simp +contextual -dsimp only [↓SD, SU, SB, Nat.reduceAdd, Nat.reduceBEq, Nat.reduceEqDiff, Nat.reduceLeDiff, Nat.reduceLT, Nat.reduceSub, ↓reduceIte, zA, zI, zN, reduceCtorEq, Int.reduceToNat, zE, pickI, List.range_zero, List.filter_nil]) ?_
    rintro ⟨k, v⟩ hk
    simp only at hk
    have hst := pickI_step (fun i => decide (i ∈ reachO h r)) k
    have hpl := pickI_len (fun i => decide (i ∈ reachO h r)) k
    obtain ⟨L, hL⟩ : ∃ L, L = pickI (fun i => decide (i ∈ reachO h r)) k := ⟨_, rfl⟩
    rw [← hL] at hst hpl ⊢
    have ht : List.take L.length (L.map (av : Int → AV)) = L.map av := List.take_of_length_le (by simp)
    by_cases hlt : k < h.length
    · have e := getD_map av m k .top (by rw [hml]; exact hlt)
      have hmk : m[k]'(by rw [hml]; exact hlt) = decide (k ∈ reachO h r) := by simp [hm]
      rw [hmk] at e
      by_cases hin : k ∈ reachO h r
      · rw [decide_eq_true hin] at e
        rw [if_pos (by simp [hin])] at hst
        simp +contextual -dsimp (maxSteps := 2000000) only [↓SD, SU, SB, Nat.reduceAdd, Nat.reduceBEq, Nat.reduceEqDiff, Nat.reduceLeDiff, Nat.reduceLT, Nat.reduceSub, ↓reduceIte, zA, zI, zN, reduceCtorEq, Int.reduceToNat, zE, Int.reduceEq, Int.reduceLT, Int.reduceLE, Int.reduceNeg, Int.reduceAdd, Int.reduceSub, hlt, map_len, hml, e, av_bool, ht, Nat.le_refl]
        exact ⟨⟨by omega, by unfold maxLen; omega⟩, fun v' => ⟨by omega, Goes.le ⟨(k + 1, v'), ⟨hlt, (by first | omega | (simp only; omega))⟩, rfl⟩ (by simp +contextual -dsimp only [↓SD, SU, SB, Nat.reduceAdd, Nat.reduceBEq, Nat.reduceEqDiff, Nat.reduceLeDiff, Nat.reduceLT, Nat.reduceSub, ↓reduceIte, zA, zI, zN, reduceCtorEq, Int.reduceToNat, zE, Int.natCast_add, hst, List.length_append]) (by simp +contextual -dsimp only [↓SD, SU, SB, Nat.reduceAdd, Nat.reduceBEq, Nat.reduceEqDiff, Nat.reduceLeDiff, Nat.reduceLT, Nat.reduceSub, ↓reduceIte, zA, zI, zN, reduceCtorEq, Int.reduceToNat, zE, hst, List.map_append, av_int])⟩⟩
      · rw [decide_eq_false hin] at e
        rw [if_neg (by simp [hin]), List.append_nil] at hst
        simp +contextual -dsimp (maxSteps := 2000000) only [↓SD, SU, SB, Nat.reduceAdd, Nat.reduceBEq, Nat.reduceEqDiff, Nat.reduceLeDiff, Nat.reduceLT, Nat.reduceSub, ↓reduceIte, zA, zI, zN, reduceCtorEq, Int.reduceToNat, zE, Int.reduceEq, Int.reduceLT, Int.reduceLE, Int.reduceNeg, Int.reduceAdd, Int.reduceSub, hlt, map_len, hml, e, av_bool]
        exact ⟨by omega, Goes.le ⟨(k + 1, v), ⟨hlt, (by first | omega | (simp only; omega))⟩, rfl⟩ (by simp +contextual -dsimp only [↓SD, SU, SB, Nat.reduceAdd, Nat.reduceBEq, Nat.reduceEqDiff, Nat.reduceLeDiff, Nat.reduceLT, Nat.reduceSub, ↓reduceIte, zA, zI, zN, reduceCtorEq, Int.reduceToNat, zE, Int.natCast_add, hst]) (by simp +contextual -dsimp only [↓SD, SU, SB, Nat.reduceAdd, Nat.reduceBEq, Nat.reduceEqDiff, Nat.reduceLeDiff, Nat.reduceLT, Nat.reduceSub, ↓reduceIte, zA, zI, zN, reduceCtorEq, Int.reduceToNat, zE, hst])⟩
    · obtain rfl : k = h.length := by omega
      have ht2 : List.take L.length (L.map (av : Int → AV)) = L.map av := List.take_of_length_le (by simp)
      simp +contextual -dsimp (maxSteps := 2000000) only [↓SD, SU, SB, Nat.reduceAdd, Nat.reduceBEq, Nat.reduceEqDiff, Nat.reduceLeDiff, Nat.reduceLT, Nat.reduceSub, ↓reduceIte, zA, zI, zN, reduceCtorEq, Int.reduceToNat, zE, Int.reduceEq, Int.reduceLT, Int.reduceLE, Int.reduceNeg, Int.reduceAdd, Int.reduceSub, Nat.lt_irrefl, map_len, map_nop, ht2, Nat.le_refl]
      rw [hL]
end Go.Proofs.Ytpignflebknagaa
