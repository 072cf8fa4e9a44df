/-
  THE LAW FnSweep, by its abstract text: it returns true. Conditions: the code's bulk is at most 1048576.
-/
import Derived.Test.YtpignflebknagaaReachS
import Derived.Test.YtpignflebknagaaDraw11
import Derived.Test.YtpignflebknagaaDByte
import Derived.Test.YtpignflebknagaaIrLSweepD
set_option linter.unusedVariables false
set_option linter.unusedSimpArgs false
set_option maxRecDepth 100000
namespace Go.Proofs.Ytpignflebknagaa
open Go.RowKit Go.Proofs.Ytpignflebknagaa.Av Go.Proofs.Ytpignflebknagaa.Ml
open Go.Proofs.Ytpignflebknagaa.Av.AVal (av)

theorem hasInt_ok (l : List Int) (hl : l.length ≤ 1048576) (n : Int) : CallsF Try.prog 10 [.sl (l.map av), .int .i64 n] (.bool (decide (n ∈ l))) := by
  refine fun_laws_hasInt rfl (by simp; exact ⟨lav_clean l, pint _⟩) (AvPure.bool _) ?_
  simp +contextual -dsimp (maxSteps := 2000000) only [↓SD, SU, SB, Nat.reduceAdd, Nat.reduceBEq, Nat.reduceEqDiff, Nat.reduceLeDiff, Nat.reduceLT, Nat.reduceSub, ↓reduceIte, zA, zI, zN, reduceCtorEq, Int.reduceToNat, zE, Int.reduceEq, Int.reduceLT, Int.reduceLE, Int.reduceNeg, Int.reduceAdd, Int.reduceSub, ir_laws_hasInt, rs_laws_hasInt, map_len]
  refine aLoop_of (X := Nat) (fun k => ⟨[(1, .int .i64 n), (7, .sl (l.map av)), (8, .int .i64 l.length), (9, .int .i64 k)], []⟩) (fun k => k ≤ l.length ∧ (l.take k).all (fun x => !decide (x = n)) = true) (fun k => l.length - k) 0 ⟨Nat.zero_le _, rfl⟩ (by simp +contextual -dsimp only [↓SD, SU, SB, Nat.reduceAdd, Nat.reduceBEq, Nat.reduceEqDiff, Nat.reduceLeDiff, Nat.reduceLT, Nat.reduceSub, ↓reduceIte, zA, zI, zN, reduceCtorEq, Int.reduceToNat, zE]) (by trivial) ?_
  rintro k ⟨hk, hp⟩
  by_cases hlt : k < l.length
  · have e := getD_map av l k .top hlt
    have ht := all_take' (p := fun x => !decide (x = n)) hlt hp
    have hm : l[k] ∈ l := List.getElem_mem _
    generalize l[k] = a at *
    by_cases ha : a = n
    · subst ha
      simp +contextual -dsimp (maxSteps := 2000000) only [↓SD, SU, SB, Nat.reduceAdd, Nat.reduceBEq, Nat.reduceEqDiff, Nat.reduceLeDiff, Nat.reduceLT, Nat.reduceSub, ↓reduceIte, zA, zI, zN, reduceCtorEq, Int.reduceToNat, zE, Int.reduceEq, Int.reduceLT, Int.reduceLE, Int.reduceNeg, Int.reduceAdd, Int.reduceSub, hlt, map_len, e, av_int, hm]
    · simp +contextual -dsimp (maxSteps := 2000000) only [↓SD, SU, SB, Nat.reduceAdd, Nat.reduceBEq, Nat.reduceEqDiff, Nat.reduceLeDiff, Nat.reduceLT, Nat.reduceSub, ↓reduceIte, zA, zI, zN, reduceCtorEq, Int.reduceToNat, zE, Int.reduceEq, Int.reduceLT, Int.reduceLE, Int.reduceNeg, Int.reduceAdd, Int.reduceSub, hlt, map_len, e, av_int, ha]
      exact ⟨by omega, Goes.le ⟨k + 1, ⟨⟨hlt, (by rw [ht]; simp [ha])⟩, (by first | omega | (simp only; omega))⟩, rfl⟩ (by simp +contextual -dsimp only [↓SD, SU, SB, Nat.reduceAdd, Nat.reduceBEq, Nat.reduceEqDiff, Nat.reduceLeDiff, Nat.reduceLT, Nat.reduceSub, ↓reduceIte, zA, zI, zN, reduceCtorEq, Int.reduceToNat, zE, Int.natCast_add]) (by trivial)⟩
  · have hk' : k = l.length := by omega
    subst hk'
    have hn : n ∉ l := fun h => by
      rw [List.take_length, List.all_eq_true] at hp
      have := hp n h
      simp at this
    simp +contextual -dsimp (maxSteps := 2000000) only [↓SD, SU, SB, Nat.reduceAdd, Nat.reduceBEq, Nat.reduceEqDiff, Nat.reduceLeDiff, Nat.reduceLT, Nat.reduceSub, ↓reduceIte, zA, zI, zN, reduceCtorEq, Int.reduceToNat, zE, Int.reduceEq, Int.reduceLT, Int.reduceLE, Int.reduceNeg, Int.reduceAdd, Int.reduceSub, Nat.lt_irrefl, map_len, hn]
theorem pickI_mem {p : Nat → Bool} {n i : Nat} : ((i : Int) ∈ pickI p n) ↔ i < n ∧ p i = true := by
  unfold pickI
  simp only [List.mem_map, List.mem_filter, List.mem_range]
  constructor
  · rintro ⟨a, h, e⟩
    have : a = i := by omega
    subst this; exact h
  · intro h; exact ⟨i, h, rfl⟩
theorem pick_sum (p : Nat → Bool) : ∀ n : Nat, (pickI p n).length + (pickI (fun i => !p i) n).length = n
  | 0 => by simp [pickI]
  | n + 1 => by
    have h1 := pickI_step p n
    have h2 := pickI_step (fun i => !p i) n
    have ih := pick_sum p n
    rw [h1, h2, List.length_append, List.length_append]
    cases p n <;> simp <;> omega
theorem DrawnPost.ranges {l : List Cell} {rs : List Val} (hD : ∀ x ∈ l, CellD x) (hR : ∀ x ∈ rs, ValD x) : (∀ c ∈ l, ValR c.a ∧ ValR c.b) ∧ ∀ v ∈ rs, ValR v :=
  ⟨fun c hc => ⟨(hD c hc).2.2.1.1, (hD c hc).2.2.2.1⟩, fun v hv => (hR v hv).1⟩
theorem lawSweepD_ok (c : List UInt8) (hk : Bulk.bulk c ≤ 1048576) : CallsF Try.prog 3 [.sl (c.map av)] (.bool true) := by
  have hc := bulk_length c
  refine fun_laws_FnSweep rfl (by simp; exact lav_u8 c) (AvPure.bool _) ?_
  have hg : ¬ (1048576 : Int) < c.length := by omega
  simp +contextual -dsimp (maxSteps := 2000000) only [↓SD, SU, SB, Nat.reduceAdd, Nat.reduceBEq, Nat.reduceEqDiff, Nat.reduceLeDiff, Nat.reduceLT, Nat.reduceSub, ↓reduceIte, zA, zI, zN, reduceCtorEq, Int.reduceToNat, zE, Int.reduceEq, Int.reduceLT, Int.reduceLE, Int.reduceNeg, Int.reduceAdd, Int.reduceSub, ir_laws_FnSweep, rs_laws_FnSweep, map_len, hg]
  refine aCallH_of [] (DrawSweep_ok c (by omega)) (by simp +contextual -dsimp only [↓SD, SU, SB, Nat.reduceAdd, Nat.reduceBEq, Nat.reduceEqDiff, Nat.reduceLeDiff, Nat.reduceLT, Nat.reduceSub, ↓reduceIte, zA, zI, zN, reduceCtorEq, Int.reduceToNat, zE]) ?_
  rintro r hp' ⟨l, rs, u1, u2, rfl, ⟨hl, hD⟩, ⟨hr, hR⟩, rfl⟩
  obtain ⟨hrc, hrv⟩ := DrawnPost.ranges hD hR
  have t0 : List.take l.length (l.map (av : Cell → AV)) = l.map av := List.take_of_length_le (by simp)
  have t1 : List.take rs.length (rs.map (av : Val → AV)) = rs.map av := List.take_of_length_le (by simp)
  have CH := specHeapOk_ok l rs (by omega) (by omega) hrc hrv
  have CI := implHeapOk_ok l rs (by omega) (by omega)
  have CR := implReach_okB l rs (by omega) (by omega)
  have CS := implSweep_okB l rs (by omega) (by omega)
  have CT := specReach_ok l rs (by omega) (by omega) hrc hrv
  simp +contextual -dsimp (maxSteps := 2000000) only [↓SD, SU, SB, Nat.reduceAdd, Nat.reduceBEq, Nat.reduceEqDiff, Nat.reduceLeDiff, Nat.reduceLT, Nat.reduceSub, ↓reduceIte, zA, zI, zN, reduceCtorEq, Int.reduceToNat, zE, Int.reduceEq, Int.reduceLT, Int.reduceLE, Int.reduceNeg, Int.reduceAdd, Int.reduceSub]
  refine ghost_of (Goes.frz 10 (Goes.frz 61 (Goes.pur 3 (Goes.pur 4 (Goes.here ?_)))))
  simp +contextual -dsimp (maxSteps := 2000000) only [↓SD, SU, SB, Nat.reduceAdd, Nat.reduceBEq, Nat.reduceEqDiff, Nat.reduceLeDiff, Nat.reduceLT, Nat.reduceSub, ↓reduceIte, zA, zI, zN, reduceCtorEq, Int.reduceToNat, zE, Int.reduceEq, Int.reduceLT, Int.reduceLE, Int.reduceNeg, Int.reduceAdd, Int.reduceSub, map_len, map_nop, t0, t1, Nat.le_refl]
  cases hb : heapB l rs with
  | false =>
    rw [hb] at CH CI CR CS
    refine aCallH_of [] CR (by simp +contextual -dsimp only [↓SD, SU, SB, Nat.reduceAdd, Nat.reduceBEq, Nat.reduceEqDiff, Nat.reduceLeDiff, Nat.reduceLT, Nat.reduceSub, ↓reduceIte, zA, zI, zN, reduceCtorEq, Int.reduceToNat, zE, map_len, map_nop, t0, t1, Nat.le_refl]) ?_
    rintro r hp' (⟨_, rfl, rfl, _⟩ | ⟨h, _⟩)
    · simp +contextual -dsimp (maxSteps := 2000000) only [↓SD, SU, SB, Nat.reduceAdd, Nat.reduceBEq, Nat.reduceEqDiff, Nat.reduceLeDiff, Nat.reduceLT, Nat.reduceSub, ↓reduceIte, zA, zI, zN, reduceCtorEq, Int.reduceToNat, zE, Int.reduceEq, Int.reduceLT, Int.reduceLE, Int.reduceNeg, Int.reduceAdd, Int.reduceSub, map_len, map_nop, t0, t1, Nat.le_refl]
      refine aCallH_of [] CS (by simp +contextual -dsimp only [↓SD, SU, SB, Nat.reduceAdd, Nat.reduceBEq, Nat.reduceEqDiff, Nat.reduceLeDiff, Nat.reduceLT, Nat.reduceSub, ↓reduceIte, zA, zI, zN, reduceCtorEq, Int.reduceToNat, zE, map_len, map_nop, t0, t1, Nat.le_refl]) ?_
      rintro r hp' (⟨_, rfl, rfl, _⟩ | ⟨h, _⟩)
      · simp +contextual -dsimp (maxSteps := 2000000) only [↓SD, SU, SB, Nat.reduceAdd, Nat.reduceBEq, Nat.reduceEqDiff, Nat.reduceLeDiff, Nat.reduceLT, Nat.reduceSub, ↓reduceIte, zA, zI, zN, reduceCtorEq, Int.reduceToNat, zE, Int.reduceEq, Int.reduceLT, Int.reduceLE, Int.reduceNeg, Int.reduceAdd, Int.reduceSub, map_len, map_nop, t0, t1, Nat.le_refl]
        refine ghost_of (Goes.here ?_)
        simp +contextual -dsimp (maxSteps := 2000000) only [↓SD, SU, SB, Nat.reduceAdd, Nat.reduceBEq, Nat.reduceEqDiff, Nat.reduceLeDiff, Nat.reduceLT, Nat.reduceSub, ↓reduceIte, zA, zI, zN, reduceCtorEq, Int.reduceToNat, zE, Int.reduceEq, Int.reduceLT, Int.reduceLE, Int.reduceNeg, Int.reduceAdd, Int.reduceSub, map_len, map_nop, t0, t1, Nat.le_refl]
        refine aCallK_of _ CH ?_
        simp +contextual -dsimp (maxSteps := 2000000) only [↓SD, SU, SB, Nat.reduceAdd, Nat.reduceBEq, Nat.reduceEqDiff, Nat.reduceLeDiff, Nat.reduceLT, Nat.reduceSub, ↓reduceIte, zA, zI, zN, reduceCtorEq, Int.reduceToNat, zE, Int.reduceEq, Int.reduceLT, Int.reduceLE, Int.reduceNeg, Int.reduceAdd, Int.reduceSub, map_len, map_nop, t0, t1, Nat.le_refl]
        refine aCallK_of _ CI ?_
        simp +contextual -dsimp (maxSteps := 2000000) only [↓SD, SU, SB, Nat.reduceAdd, Nat.reduceBEq, Nat.reduceEqDiff, Nat.reduceLeDiff, Nat.reduceLT, Nat.reduceSub, ↓reduceIte, zA, zI, zN, reduceCtorEq, Int.reduceToNat, zE, Int.reduceEq, Int.reduceLT, Int.reduceLE, Int.reduceNeg, Int.reduceAdd, Int.reduceSub, map_len, map_nop, t0, t1, Nat.le_refl]
      · cases h
    · cases h
  | true =>
    rw [hb] at CH CI CR CS
    have eR : reachL l rs = pickI (fun i => decide (i ∈ reachO l rs)) l.length := by unfold reachL; rw [if_pos hb]
    have eS : sweepL l rs = pickI (fun i => !decide (i ∈ reachO l rs)) l.length := by unfold sweepL; rw [if_pos hb]; rfl
    have hsum := pick_sum (fun i => decide (i ∈ reachO l rs)) l.length
    rw [← eR] at hsum
    rw [← eS] at hsum
    have hmem : ∀ i, i < l.length → (decide ((i : Int) ∈ reachL l rs) = !decide ((i : Int) ∈ sweepL l rs)) := fun i hi => by
      have h1 := pickI_mem (p := fun i => decide (i ∈ reachO l rs)) (n := l.length) (i := i)
      have h2 := pickI_mem (p := fun i => !decide (i ∈ reachO l rs)) (n := l.length) (i := i)
      rw [← eR] at h1
      rw [← eS] at h2
      by_cases hm : i ∈ reachO l rs
      · rw [decide_eq_true (h1.2 ⟨hi, by simpa using hm⟩), decide_eq_false (fun h => by simpa [hm] using (h2.1 h).2)]; rfl
      · rw [decide_eq_false (fun h => by simpa [hm] using (h1.1 h).2), decide_eq_true (h2.2 ⟨hi, by simpa using hm⟩)]; rfl
    clear eR eS
    obtain ⟨A, hA⟩ : ∃ A, A = reachL l rs := ⟨_, rfl⟩
    obtain ⟨B, hB⟩ : ∃ B, B = sweepL l rs := ⟨_, rfl⟩
    rw [← hA] at CR CT hsum hmem
    rw [← hB] at CS hsum hmem
    clear hA hB
    have HA := fun n => hasInt_ok A (by omega) n
    have HB := fun n => hasInt_ok B (by omega) n
    refine aCallH_of [] CR (by simp +contextual -dsimp only [↓SD, SU, SB, Nat.reduceAdd, Nat.reduceBEq, Nat.reduceEqDiff, Nat.reduceLeDiff, Nat.reduceLT, Nat.reduceSub, ↓reduceIte, zA, zI, zN, reduceCtorEq, Int.reduceToNat, zE, map_len, map_nop, t0, t1, Nat.le_refl]) ?_
    rintro r hp' (⟨h, _⟩ | ⟨_, va, rfl, rfl⟩)
    · cases h
    simp +contextual -dsimp (maxSteps := 2000000) only [↓SD, SU, SB, Nat.reduceAdd, Nat.reduceBEq, Nat.reduceEqDiff, Nat.reduceLeDiff, Nat.reduceLT, Nat.reduceSub, ↓reduceIte, zA, zI, zN, reduceCtorEq, Int.reduceToNat, zE, Int.reduceEq, Int.reduceLT, Int.reduceLE, Int.reduceNeg, Int.reduceAdd, Int.reduceSub, map_len, map_nop, t0, t1, Nat.le_refl]
    refine aCallH_of [] CS (by simp +contextual -dsimp only [↓SD, SU, SB, Nat.reduceAdd, Nat.reduceBEq, Nat.reduceEqDiff, Nat.reduceLeDiff, Nat.reduceLT, Nat.reduceSub, ↓reduceIte, zA, zI, zN, reduceCtorEq, Int.reduceToNat, zE, map_len, map_nop, t0, t1, Nat.le_refl]) ?_
    rintro r hp' (⟨h, _⟩ | ⟨_, vb, rfl, rfl⟩)
    · cases h
    have tA : List.take A.length (A.map (av : Int → AV)) = A.map av := List.take_of_length_le (by simp)
    have tB : List.take B.length (B.map (av : Int → AV)) = B.map av := List.take_of_length_le (by simp)
    simp +contextual -dsimp (maxSteps := 2000000) only [↓SD, SU, SB, Nat.reduceAdd, Nat.reduceBEq, Nat.reduceEqDiff, Nat.reduceLeDiff, Nat.reduceLT, Nat.reduceSub, ↓reduceIte, zA, zI, zN, reduceCtorEq, Int.reduceToNat, zE, Int.reduceEq, Int.reduceLT, Int.reduceLE, Int.reduceNeg, Int.reduceAdd, Int.reduceSub, map_len, map_nop, t0, t1, Nat.le_refl]
    refine ghost_of (Goes.frz 13 (Goes.frz 20 (Goes.pur 5 (Goes.pur 6 (Goes.here ?_)))))
    simp +contextual -dsimp (maxSteps := 2000000) only [↓SD, SU, SB, Nat.reduceAdd, Nat.reduceBEq, Nat.reduceEqDiff, Nat.reduceLeDiff, Nat.reduceLT, Nat.reduceSub, ↓reduceIte, zA, zI, zN, reduceCtorEq, Int.reduceToNat, zE, Int.reduceEq, Int.reduceLT, Int.reduceLE, Int.reduceNeg, Int.reduceAdd, Int.reduceSub, map_len, map_nop, t0, t1, tA, tB, Nat.le_refl]
    refine aCallK_of _ CH ?_
    simp +contextual -dsimp (maxSteps := 2000000) only [↓SD, SU, SB, Nat.reduceAdd, Nat.reduceBEq, Nat.reduceEqDiff, Nat.reduceLeDiff, Nat.reduceLT, Nat.reduceSub, ↓reduceIte, zA, zI, zN, reduceCtorEq, Int.reduceToNat, zE, Int.reduceEq, Int.reduceLT, Int.reduceLE, Int.reduceNeg, Int.reduceAdd, Int.reduceSub, map_len, map_nop, t0, t1, Nat.le_refl]
    refine aLoop_of (X := Nat) (fun k => ⟨[(3, .sl (l.map av)), (4, .sl (rs.map av)), (5, .sl (A.map av)), (6, .sl (B.map av)), (41, .int .i64 l.length), (42, .int .i64 k)], []⟩) (fun k => k ≤ l.length) (fun k => l.length - k) 0 (Nat.zero_le _) (by simp +contextual -dsimp only [↓SD, SU, SB, Nat.reduceAdd, Nat.reduceBEq, Nat.reduceEqDiff, Nat.reduceLeDiff, Nat.reduceLT, Nat.reduceSub, ↓reduceIte, zA, zI, zN, reduceCtorEq, Int.reduceToNat, zE, map_len, map_nop, tA, tB, Nat.le_refl]) (by trivial) ?_
    have bt : (true == false) = false := rfl
    have bf : (false == true) = false := rfl
    intro k hkl
    by_cases hlt : k < l.length
    · have hm := hmem k hlt
      simp +contextual -dsimp (maxSteps := 2000000) only [↓SD, SU, SB, Nat.reduceAdd, Nat.reduceBEq, Nat.reduceEqDiff, Nat.reduceLeDiff, Nat.reduceLT, Nat.reduceSub, ↓reduceIte, zA, zI, zN, reduceCtorEq, Int.reduceToNat, zE, Int.reduceEq, Int.reduceLT, Int.reduceLE, Int.reduceNeg, Int.reduceAdd, Int.reduceSub, hlt]
      refine aCallK_of _ (HA k) ?_
      simp +contextual -dsimp (maxSteps := 2000000) only [↓SD, SU, SB, Nat.reduceAdd, Nat.reduceBEq, Nat.reduceEqDiff, Nat.reduceLeDiff, Nat.reduceLT, Nat.reduceSub, ↓reduceIte, zA, zI, zN, reduceCtorEq, Int.reduceToNat, zE, Int.reduceEq, Int.reduceLT, Int.reduceLE, Int.reduceNeg, Int.reduceAdd, Int.reduceSub, map_len, map_nop, t0, t1, Nat.le_refl]
      refine aCallK_of _ (HB k) ?_
      generalize decide ((k : Int) ∈ A) = a at hm ⊢
      generalize decide ((k : Int) ∈ B) = b at hm ⊢
      subst hm
      cases b <;>
      · simp +contextual -dsimp (maxSteps := 2000000) only [↓SD, SU, SB, Nat.reduceAdd, Nat.reduceBEq, Nat.reduceEqDiff, Nat.reduceLeDiff, Nat.reduceLT, Nat.reduceSub, ↓reduceIte, zA, zI, zN, reduceCtorEq, Int.reduceToNat, zE, Int.reduceEq, Int.reduceLT, Int.reduceLE, Int.reduceNeg, Int.reduceAdd, Int.reduceSub, bt, bf]
        exact ⟨by omega, Goes.le ⟨k + 1, ⟨hlt, (by first | omega | (simp only; omega))⟩, rfl⟩ (by simp +contextual -dsimp only [↓SD, SU, SB, Nat.reduceAdd, Nat.reduceBEq, Nat.reduceEqDiff, Nat.reduceLeDiff, Nat.reduceLT, Nat.reduceSub, ↓reduceIte, zA, zI, zN, reduceCtorEq, Int.reduceToNat, zE, Int.natCast_add]) (by trivial)⟩
    · obtain rfl : k = l.length := by omega
      have hs : (A.length : Int) + B.length = l.length := by omega
      simp +contextual -dsimp (maxSteps := 2000000) only [↓SD, SU, SB, Nat.reduceAdd, Nat.reduceBEq, Nat.reduceEqDiff, Nat.reduceLeDiff, Nat.reduceLT, Nat.reduceSub, ↓reduceIte, zA, zI, zN, reduceCtorEq, Int.reduceToNat, zE, Int.reduceEq, Int.reduceLT, Int.reduceLE, Int.reduceNeg, Int.reduceAdd, Int.reduceSub, Nat.lt_irrefl, map_len, hs]
      refine ⟨by omega, ?_⟩
      refine aCallK_of _ CT ?_
      simp +contextual -dsimp (maxSteps := 2000000) only [↓SD, SU, SB, Nat.reduceAdd, Nat.reduceBEq, Nat.reduceEqDiff, Nat.reduceLeDiff, Nat.reduceLT, Nat.reduceSub, ↓reduceIte, zA, zI, zN, reduceCtorEq, Int.reduceToNat, zE, Int.reduceEq, Int.reduceLT, Int.reduceLE, Int.reduceNeg, Int.reduceAdd, Int.reduceSub, map_len, map_nop, t0, t1, Nat.le_refl]
end Go.Proofs.Ytpignflebknagaa
