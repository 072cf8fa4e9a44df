/-
  THE LAW FnCopy, by its abstract text: it returns true. Conditions: the code's bulk is at most 1048576.
-/
import Derived.Test.YtpignflebknagaaIsoP
import Derived.Test.YtpignflebknagaaCopyW
import Derived.Test.YtpignflebknagaaShow
import Derived.Test.YtpignflebknagaaWSweep
import Derived.Test.YtpignflebknagaaIrLCopyD
set_option linter.unusedVariables false
set_option linter.unusedSimpArgs false
set_option maxRecDepth 100000
namespace Go.Proofs.Ytpignflebknagaa
open Go.RowKit Go.Proofs.Ytpignflebknagaa.Av Go.Proofs.Ytpignflebknagaa.Ml
open Go.Proofs.Ytpignflebknagaa.Av.AVal (av)

/-- what the law looks at, told plainly -/
structure CopyFacts (l : List Cell) (rs : List Val) (L : List Cell) (M : List Val) : Prop where
  len : L.length ≤ l.length
  lenM : M.length = rs.length
  right : heapB L M = true
  reach : (reachL l rs).length = L.length
  again : copyR L M = M
  againH : (copyH L M).length = L.length
  sweep : (sweepL L M).length = 0
  shows : ∀ k (h1 : k < rs.length) (h2 : k < M.length), showS L (M[k]'h2) 6 = showS l (rs[k]'h1) 6 ∧ ¬ showS l (rs[k]'h1) 6 = bs []
  smallH : (∀ c ∈ l, SmallC c ∧ CellR c) → ∀ c ∈ L, SmallC c ∧ CellR c
  smallV : (∀ v ∈ rs, SmallV v) → ∀ v ∈ M, SmallV v
theorem copyV_small {R : List Nat} {v : Val} (h : SmallV v) : SmallV (copyV R v) := by
  unfold copyV; split <;> exact h
theorem copyV_rng {R : List Nat} {v : Val} (hR : R.length ≤ 4000) (h : ValR v) : ValR (copyV R v) := by
  unfold copyV; split
  · have := List.idxOf_le_length (l := R) (a := v.n.toNat)
    unfold ValR; simp only; omega
  · exact h
theorem heapB_one {h : List Cell} {roots : List Val} (hb : heapB h roots = true) {v : Val} (hv : v ∈ roots) : heapB h [v] = true := by
  simp only [heapB, Bool.and_eq_true, decide_eq_true_eq, List.all_eq_true, List.all_cons, List.all_nil, Bool.and_true] at hb ⊢
  exact ⟨hb.1, hb.2 v hv⟩
theorem copy_facts {l : List Cell} {rs : List Val} (hb : heapB l rs = true) : CopyFacts l rs (copyH l rs) (copyR l rs) := by
  have H := heapB_iso hb
  have hr := H.right
  have hl := H.e.inn.len
  have hn := H.n
  refine ⟨by rw [copyH_len]; omega, by simp [copyR], hr, ?_, H.again, ?_, ?_, ?_, ?_, ?_⟩
  · have e : reachL l rs = sortI (intsO (reachO l rs)) := by rw [sortI_pick H.e.inn]; unfold reachL; rw [if_pos hb]
    rw [e, sortI_len, intsO_len, copyH_len]
  · rw [copyH_len, H.reach, List.length_range, copyH_len]
  · have e : sweepL (copyH l rs) (copyR l rs) = pickI (sweepP (copyH l rs) (copyR l rs)) (copyH l rs).length := by unfold sweepL; rw [if_pos hr]
    rw [e]
    have : pickI (sweepP (copyH l rs) (copyR l rs)) (copyH l rs).length = [] := by
      unfold pickI
      rw [List.map_eq_nil_iff, List.filter_eq_nil_iff]
      intro a ha
      rw [List.mem_range, copyH_len] at ha
      unfold sweepP
      rw [H.reach, decide_eq_true (List.mem_range.2 ha)]; simp
    rw [this]; rfl
  · intro k h1 h2
    have hv := H.hv _ (List.getElem_mem h1)
    have hin : ∀ i, cellOf (rs[k]'h1) = some i → i ∈ reachO l rs := fun i hi => (reach_pre l rs).subset (fold_mem.2 (.inr ⟨_, List.getElem_mem h1, hi⟩))
    have e : (copyR l rs)[k]'h2 = copyV (reachO l rs) (rs[k]'h1) := by simp [copyR]
    have b1 := heapB_one hb (List.getElem_mem h1)
    have b2 := heapB_one hr (List.getElem_mem h2)
    have e1 : showS l (rs[k]'h1) 6 = showV l 6 (rs[k]'h1) := by unfold showS; rw [if_pos ⟨by omega, b1⟩]; rfl
    have e2 : showS (copyH l rs) ((copyR l rs)[k]'h2) 6 = showV (copyH l rs) 6 ((copyR l rs)[k]'h2) := by unfold showS; rw [if_pos ⟨by omega, b2⟩]; rfl
    refine ⟨by rw [e1, e2, e, H.show 6 _ hv hin], fun h0 => ?_⟩
    rw [e1] at h0
    have := showV_pos (h := l) hv 6
    rw [h0, bs_size] at this
    simp at this
  · intro hs c hc
    obtain ⟨i, hi, rfl⟩ := List.mem_map.1 hc
    obtain ⟨_, hm, _⟩ := H.getR (v := noVal) hi
    obtain ⟨⟨s1, s2, s3⟩, c1, c2, c3⟩ := hs _ hm
    exact ⟨⟨s1, copyV_small s2, copyV_small s3⟩, c1, copyV_rng (by omega) c2, copyV_rng (by omega) c3⟩
  · intro hs v hv
    obtain ⟨u, hu, rfl⟩ := List.mem_map.1 hv
    exact copyV_small (hs u hu)
theorem lawCopyD_ok (c : List UInt8) (hk : Bulk.bulk c ≤ 1048576) : CallsF Try.prog 4 [.sl (c.map av)] (.bool true) := by
  have hc := bulk_length c
  refine fun_laws_FnCopy rfl (by simp; exact lav_u8 c) (AvPure.bool _) ?_
  have hg : ¬ (1048576 : Int) < c.length := by omega
  simp +contextual -dsimp (maxSteps := 2000000) only [↓SD, SU, SB, Nat.reduceAdd, Nat.reduceBEq, Nat.reduceEqDiff, Nat.reduceLeDiff, Nat.reduceLT, Nat.reduceSub, ↓reduceIte, zA, zI, zN, reduceCtorEq, Int.reduceToNat, zE, Int.reduceEq, Int.reduceLT, Int.reduceLE, Int.reduceNeg, Int.reduceAdd, Int.reduceSub, ir_laws_FnCopy, rs_laws_FnCopy, map_len, hg]
  refine aCallH_of [] (DrawCopy_ok c (by omega)) (by simp +contextual -dsimp only [↓SD, SU, SB, Nat.reduceAdd, Nat.reduceBEq, Nat.reduceEqDiff, Nat.reduceLeDiff, Nat.reduceLT, Nat.reduceSub, ↓reduceIte, zA, zI, zN, reduceCtorEq, Int.reduceToNat, zE]) ?_
  rintro r hp' ⟨l, rs, u1, u2, rfl, ⟨hl, hD⟩, ⟨hr, hR⟩, rfl⟩
  obtain ⟨hrc, hrv⟩ := DrawnPost.ranges hD hR
  have t0 : List.take l.length (l.map (av : Cell → AV)) = l.map av := List.take_of_length_le (by simp)
  have t1 : List.take rs.length (rs.map (av : Val → AV)) = rs.map av := List.take_of_length_le (by simp)
  have CH := specHeapOk_ok l rs (by omega) (by omega) hrc hrv
  have CI := implHeapOk_ok l rs (by omega) (by omega)
  have CR := implReach_okB l rs (by omega) (by omega)
  have CC := implCopy_ok l rs (by omega) (by omega)
  have hS : ∀ c ∈ l, SmallC c ∧ CellR c := fun c hc => by
    obtain ⟨d1, d2, ⟨d3, d4⟩, d5, d6⟩ := hD c hc
    exact ⟨⟨by omega, by unfold SmallV; omega, by unfold SmallV; omega⟩, d1, d3, d5⟩
  have hV : ∀ v ∈ rs, SmallV v := fun v hv => by have := (hR v hv).2; unfold SmallV; omega
  have CW := fun k (h : k < rs.length) => implShow_ok l (rs[k]'h) 6 (by omega) hS (hV _ (List.getElem_mem h))
  simp +contextual -dsimp (maxSteps := 2000000) only [↓SD, SU, SB, Nat.reduceAdd, Nat.reduceBEq, Nat.reduceEqDiff, Nat.reduceLeDiff, Nat.reduceLT, Nat.reduceSub, ↓reduceIte, zA, zI, zN, reduceCtorEq, Int.reduceToNat, zE, Int.reduceEq, Int.reduceLT, Int.reduceLE, Int.reduceNeg, Int.reduceAdd, Int.reduceSub]
  refine ghost_of (Goes.frz 10 (Goes.frz 61 (Goes.pur 3 (Goes.pur 4 (Goes.here ?_)))))
  simp +contextual -dsimp (maxSteps := 2000000) only [↓SD, SU, SB, Nat.reduceAdd, Nat.reduceBEq, Nat.reduceEqDiff, Nat.reduceLeDiff, Nat.reduceLT, Nat.reduceSub, ↓reduceIte, zA, zI, zN, reduceCtorEq, Int.reduceToNat, zE, Int.reduceEq, Int.reduceLT, Int.reduceLE, Int.reduceNeg, Int.reduceAdd, Int.reduceSub, map_len, map_nop, t0, t1, Nat.le_refl]
  cases hb : heapB l rs with
  | false =>
    rw [hb] at CH CI
    refine aCallH_of [] CC (by simp +contextual -dsimp only [↓SD, SU, SB, Nat.reduceAdd, Nat.reduceBEq, Nat.reduceEqDiff, Nat.reduceLeDiff, Nat.reduceLT, Nat.reduceSub, ↓reduceIte, zA, zI, zN, reduceCtorEq, Int.reduceToNat, zE, map_len, map_nop, t0, t1, Nat.le_refl]) ?_
    rintro r hp' (⟨_, rfl, rfl⟩ | ⟨h, _⟩)
    · simp +contextual -dsimp (maxSteps := 2000000) only [↓SD, SU, SB, Nat.reduceAdd, Nat.reduceBEq, Nat.reduceEqDiff, Nat.reduceLeDiff, Nat.reduceLT, Nat.reduceSub, ↓reduceIte, zA, zI, zN, reduceCtorEq, Int.reduceToNat, zE, Int.reduceEq, Int.reduceLT, Int.reduceLE, Int.reduceNeg, Int.reduceAdd, Int.reduceSub, map_len, map_nop, t0, t1, Nat.le_refl]
      refine ghost_of (Goes.here ?_)
      simp +contextual -dsimp (maxSteps := 2000000) only [↓SD, SU, SB, Nat.reduceAdd, Nat.reduceBEq, Nat.reduceEqDiff, Nat.reduceLeDiff, Nat.reduceLT, Nat.reduceSub, ↓reduceIte, zA, zI, zN, reduceCtorEq, Int.reduceToNat, zE, Int.reduceEq, Int.reduceLT, Int.reduceLE, Int.reduceNeg, Int.reduceAdd, Int.reduceSub, map_len, map_nop, t0, t1, Nat.le_refl]
      refine aCallK_of _ CH ?_
      simp +contextual -dsimp (maxSteps := 2000000) only [↓SD, SU, SB, Nat.reduceAdd, Nat.reduceBEq, Nat.reduceEqDiff, Nat.reduceLeDiff, Nat.reduceLT, Nat.reduceSub, ↓reduceIte, zA, zI, zN, reduceCtorEq, Int.reduceToNat, zE, Int.reduceEq, Int.reduceLT, Int.reduceLE, Int.reduceNeg, Int.reduceAdd, Int.reduceSub, map_len, map_nop, t0, t1, Nat.le_refl]
      refine aCallK_of _ CI ?_
      simp +contextual -dsimp (maxSteps := 2000000) only [↓SD, SU, SB, Nat.reduceAdd, Nat.reduceBEq, Nat.reduceEqDiff, Nat.reduceLeDiff, Nat.reduceLT, Nat.reduceSub, ↓reduceIte, zA, zI, zN, reduceCtorEq, Int.reduceToNat, zE, Int.reduceEq, Int.reduceLT, Int.reduceLE, Int.reduceNeg, Int.reduceAdd, Int.reduceSub, map_len, map_nop, t0, t1, Nat.le_refl]
    · rw [hb] at h; cases h
  | true =>
    rw [hb] at CH CI CR
    have F := copy_facts hb
    unfold CopyPost PackPost at CC
    obtain ⟨L, hL⟩ : ∃ L, L = copyH l rs := ⟨_, rfl⟩
    obtain ⟨M, hM⟩ : ∃ M, M = copyR l rs := ⟨_, rfl⟩
    rw [← hL, ← hM] at F CC
    clear hL hM
    obtain ⟨A, hA⟩ : ∃ A, A = reachL l rs := ⟨_, rfl⟩
    have eA := F.reach
    have hLl := F.len
    have hMl := F.lenM
    rw [← hA] at CR eA
    clear hA
    have CI2 := implHeapOk_ok L M (by omega) (by omega)
    have CC2 := implCopy_ok L M (by omega) (by omega)
    have CS2 := implSweep_okB L M (by omega) (by omega)
    have hS2 := F.smallH hS
    have hV2 := F.smallV hV
    have CW2 := fun k (h : k < M.length) => implShow_ok L (M[k]'h) 6 (by omega) hS2 (hV2 _ (List.getElem_mem h))
    rw [F.right] at CI2 CS2
    have es := F.sweep
    unfold CopyPost PackPost at CC2
    rw [F.again, F.right] at CC2
    have eH := F.againH
    obtain ⟨H2, hH2⟩ : ∃ H2, H2 = copyH L M := ⟨_, rfl⟩
    obtain ⟨B, hB⟩ : ∃ B, B = sweepL L M := ⟨_, rfl⟩
    rw [← hH2] at CC2 eH
    rw [← hB] at CS2 es
    clear hH2 hB
    have hB0 : B = [] := List.eq_nil_of_length_eq_zero es
    subst hB0
    have hsh := F.shows
    clear F
    have t2 : List.take L.length (L.map (av : Cell → AV)) = L.map av := List.take_of_length_le (by simp)
    have t3 : List.take M.length (M.map (av : Val → AV)) = M.map av := List.take_of_length_le (by simp)
    have t3r : List.take rs.length (M.map (av : Val → AV)) = M.map av := List.take_of_length_le (by simp; omega)
    refine aCallH_of [] CC (by simp +contextual -dsimp only [↓SD, SU, SB, Nat.reduceAdd, Nat.reduceBEq, Nat.reduceEqDiff, Nat.reduceLeDiff, Nat.reduceLT, Nat.reduceSub, ↓reduceIte, zA, zI, zN, reduceCtorEq, Int.reduceToNat, zE, map_len, map_nop, t0, t1, Nat.le_refl]) ?_
    rintro r hp' (⟨h, _⟩ | ⟨_, v, u, rfl, rfl⟩)
    · rw [hb] at h; cases h
    simp +contextual -dsimp (maxSteps := 2000000) only [↓SD, SU, SB, Nat.reduceAdd, Nat.reduceBEq, Nat.reduceEqDiff, Nat.reduceLeDiff, Nat.reduceLT, Nat.reduceSub, ↓reduceIte, zA, zI, zN, reduceCtorEq, Int.reduceToNat, zE, Int.reduceEq, Int.reduceLT, Int.reduceLE, Int.reduceNeg, Int.reduceAdd, Int.reduceSub, map_len, map_nop, t0, t1, Nat.le_refl]
    refine ghost_of (Goes.frz 21 (Goes.frz 47 (Goes.pur 5 (Goes.pur 6 (Goes.here ?_)))))
    simp +contextual -dsimp (maxSteps := 2000000) only [↓SD, SU, SB, Nat.reduceAdd, Nat.reduceBEq, Nat.reduceEqDiff, Nat.reduceLeDiff, Nat.reduceLT, Nat.reduceSub, ↓reduceIte, zA, zI, zN, reduceCtorEq, Int.reduceToNat, zE, Int.reduceEq, Int.reduceLT, Int.reduceLE, Int.reduceNeg, Int.reduceAdd, Int.reduceSub, map_len, map_nop, t0, t1, t2, t3, t3r, Nat.le_refl]
    refine aCallK_of _ CH ?_
    simp +contextual -dsimp (maxSteps := 2000000) only [↓SD, SU, SB, Nat.reduceAdd, Nat.reduceBEq, Nat.reduceEqDiff, Nat.reduceLeDiff, Nat.reduceLT, Nat.reduceSub, ↓reduceIte, zA, zI, zN, reduceCtorEq, Int.reduceToNat, zE, Int.reduceEq, Int.reduceLT, Int.reduceLE, Int.reduceNeg, Int.reduceAdd, Int.reduceSub, map_len, map_nop, t0, t1, t2, t3, t3r, Nat.le_refl, hMl]
    refine aCallH_of [] CR (by simp +contextual -dsimp only [↓SD, SU, SB, Nat.reduceAdd, Nat.reduceBEq, Nat.reduceEqDiff, Nat.reduceLeDiff, Nat.reduceLT, Nat.reduceSub, ↓reduceIte, zA, zI, zN, reduceCtorEq, Int.reduceToNat, zE, map_len, map_nop, t0, t1, Nat.le_refl]) ?_
    rintro r hp' (⟨h, _⟩ | ⟨_, va, rfl, rfl⟩)
    · cases h
    simp +contextual -dsimp (maxSteps := 2000000) only [↓SD, SU, SB, Nat.reduceAdd, Nat.reduceBEq, Nat.reduceEqDiff, Nat.reduceLeDiff, Nat.reduceLT, Nat.reduceSub, ↓reduceIte, zA, zI, zN, reduceCtorEq, Int.reduceToNat, zE, Int.reduceEq, Int.reduceLT, Int.reduceLE, Int.reduceNeg, Int.reduceAdd, Int.reduceSub, map_len, map_nop, t0, t1, t2, t3, t3r, Nat.le_refl, hMl, eA]
    refine aCallK_of _ CI2 ?_
    simp +contextual -dsimp (maxSteps := 2000000) only [↓SD, SU, SB, Nat.reduceAdd, Nat.reduceBEq, Nat.reduceEqDiff, Nat.reduceLeDiff, Nat.reduceLT, Nat.reduceSub, ↓reduceIte, zA, zI, zN, reduceCtorEq, Int.reduceToNat, zE, Int.reduceEq, Int.reduceLT, Int.reduceLE, Int.reduceNeg, Int.reduceAdd, Int.reduceSub, map_len, map_nop, t0, t1, t2, t3, t3r, Nat.le_refl, hMl, eA]
    refine aLoop_of (X := Nat) (fun k => ⟨[(3, .sl (l.map av)), (4, .sl (rs.map av)), (5, .sl (L.map av)), (6, .sl (M.map av)), (64, .int .i64 rs.length), (65, .int .i64 k)], []⟩) (fun k => k ≤ rs.length) (fun k => rs.length - k) 0 (Nat.zero_le _) (by simp +contextual -dsimp only [↓SD, SU, SB, Nat.reduceAdd, Nat.reduceBEq, Nat.reduceEqDiff, Nat.reduceLeDiff, Nat.reduceLT, Nat.reduceSub, ↓reduceIte, zA, zI, zN, reduceCtorEq, Int.reduceToNat, zE, map_len, map_nop, t0, t1, t2, t3, t3r, Nat.le_refl]) (by trivial) ?_
    intro k hkl
    by_cases hlt : k < rs.length
    · have hlt2 : k < M.length := by omega
      obtain ⟨x1, x2⟩ := hsh k hlt hlt2
      have W1 := CW k hlt
      have W2 := CW2 k hlt2
      rw [x1] at W2
      generalize showS l (rs[k]'hlt) 6 = X at W1 W2 x2
      have e1 := getD_map av rs k .top hlt
      have e2 := getD_map av M k .top hlt2
      generalize rs[k]'hlt = a at *
      generalize M[k]'hlt2 = b at *
      rw [av_Val] at W1 W2
      simp +contextual -dsimp (maxSteps := 2000000) only [↓SD, SU, SB, Nat.reduceAdd, Nat.reduceBEq, Nat.reduceEqDiff, Nat.reduceLeDiff, Nat.reduceLT, Nat.reduceSub, ↓reduceIte, zA, zI, zN, reduceCtorEq, Int.reduceToNat, zE, Int.reduceEq, Int.reduceLT, Int.reduceLE, Int.reduceNeg, Int.reduceAdd, Int.reduceSub, hlt, hlt2, map_len, e1, e2, av_Val]
      refine aCallK_of _ W1 ?_
      simp +contextual -dsimp (maxSteps := 2000000) only [↓SD, SU, SB, Nat.reduceAdd, Nat.reduceBEq, Nat.reduceEqDiff, Nat.reduceLeDiff, Nat.reduceLT, Nat.reduceSub, ↓reduceIte, zA, zI, zN, reduceCtorEq, Int.reduceToNat, zE, Int.reduceEq, Int.reduceLT, Int.reduceLE, Int.reduceNeg, Int.reduceAdd, Int.reduceSub, hlt, hlt2, map_len, e1, e2, av_Val]
      refine aCallK_of _ W2 ?_
      simp +contextual -dsimp (maxSteps := 2000000) only [↓SD, SU, SB, Nat.reduceAdd, Nat.reduceBEq, Nat.reduceEqDiff, Nat.reduceLeDiff, Nat.reduceLT, Nat.reduceSub, ↓reduceIte, zA, zI, zN, reduceCtorEq, Int.reduceToNat, zE, Int.reduceEq, Int.reduceLT, Int.reduceLE, Int.reduceNeg, Int.reduceAdd, Int.reduceSub, hlt, hlt2, map_len, e1, e2, av_Val]
      refine aCallK_of _ W1 ?_
      simp +contextual -dsimp (maxSteps := 2000000) only [↓SD, SU, SB, Nat.reduceAdd, Nat.reduceBEq, Nat.reduceEqDiff, Nat.reduceLeDiff, Nat.reduceLT, Nat.reduceSub, ↓reduceIte, zA, zI, zN, reduceCtorEq, Int.reduceToNat, zE, Int.reduceEq, Int.reduceLT, Int.reduceLE, Int.reduceNeg, Int.reduceAdd, Int.reduceSub, x2]
      exact ⟨by omega, Goes.le ⟨k + 1, ⟨hlt, (by first | omega | (simp only; omega))⟩, rfl⟩ (by simp +contextual -dsimp only [↓SD, SU, SB, Nat.reduceAdd, Nat.reduceBEq, Nat.reduceEqDiff, Nat.reduceLeDiff, Nat.reduceLT, Nat.reduceSub, ↓reduceIte, zA, zI, zN, reduceCtorEq, Int.reduceToNat, zE, Int.natCast_add]) (by trivial)⟩
    · obtain rfl : k = rs.length := by omega
      simp +contextual -dsimp (maxSteps := 2000000) only [↓SD, SU, SB, Nat.reduceAdd, Nat.reduceBEq, Nat.reduceEqDiff, Nat.reduceLeDiff, Nat.reduceLT, Nat.reduceSub, ↓reduceIte, zA, zI, zN, reduceCtorEq, Int.reduceToNat, zE, Int.reduceEq, Int.reduceLT, Int.reduceLE, Int.reduceNeg, Int.reduceAdd, Int.reduceSub, Nat.lt_irrefl, map_len]
      refine aCallH_of [] CC2 (by simp +contextual -dsimp only [↓SD, SU, SB, Nat.reduceAdd, Nat.reduceBEq, Nat.reduceEqDiff, Nat.reduceLeDiff, Nat.reduceLT, Nat.reduceSub, ↓reduceIte, zA, zI, zN, reduceCtorEq, Int.reduceToNat, zE]) ?_
      rintro r hp' (⟨h, _⟩ | ⟨_, v2, u2, rfl, rfl⟩)
      · cases h
      simp +contextual -dsimp (maxSteps := 2000000) only [↓SD, SU, SB, Nat.reduceAdd, Nat.reduceBEq, Nat.reduceEqDiff, Nat.reduceLeDiff, Nat.reduceLT, Nat.reduceSub, ↓reduceIte, zA, zI, zN, reduceCtorEq, Int.reduceToNat, zE, Int.reduceEq, Int.reduceLT, Int.reduceLE, Int.reduceNeg, Int.reduceAdd, Int.reduceSub, map_len]
      refine ghost_of (Goes.frz 21 (Goes.frz 47 (Goes.pur 8 (Goes.pur 9 (Goes.here ?_)))))
      have t4 : List.take H2.length (H2.map (av : Cell → AV)) = H2.map av := List.take_of_length_le (by simp)
      simp +contextual -dsimp (maxSteps := 2000000) only [↓SD, SU, SB, Nat.reduceAdd, Nat.reduceBEq, Nat.reduceEqDiff, Nat.reduceLeDiff, Nat.reduceLT, Nat.reduceSub, ↓reduceIte, zA, zI, zN, reduceCtorEq, Int.reduceToNat, zE, Int.reduceEq, Int.reduceLT, Int.reduceLE, Int.reduceNeg, Int.reduceAdd, Int.reduceSub, map_len, map_nop, t3, t4, Nat.le_refl]
      refine aLoop_of (X := Nat) (fun k => ⟨[(5, .sl (L.map av)), (6, .sl (M.map av)), (8, .sl (H2.map av)), (9, .sl (M.map av)), (98, .int .i64 M.length), (99, .int .i64 k)], []⟩) (fun k => k ≤ M.length) (fun k => M.length - k) 0 (Nat.zero_le _) (by simp +contextual -dsimp only [↓SD, SU, SB, Nat.reduceAdd, Nat.reduceBEq, Nat.reduceEqDiff, Nat.reduceLeDiff, Nat.reduceLT, Nat.reduceSub, ↓reduceIte, zA, zI, zN, reduceCtorEq, Int.reduceToNat, zE, map_len, map_nop, t2, t3, t4, Nat.le_refl]) (by trivial) ?_
      intro j hjl
      by_cases hlt : j < M.length
      · have e1 := getD_map av M j .top hlt
        generalize M[j]'hlt = a at *
        simp +contextual -dsimp (maxSteps := 2000000) only [↓SD, SU, SB, Nat.reduceAdd, Nat.reduceBEq, Nat.reduceEqDiff, Nat.reduceLeDiff, Nat.reduceLT, Nat.reduceSub, ↓reduceIte, zA, zI, zN, reduceCtorEq, Int.reduceToNat, zE, Int.reduceEq, Int.reduceLT, Int.reduceLE, Int.reduceNeg, Int.reduceAdd, Int.reduceSub, hlt, map_len, e1, av_Val]
        exact ⟨by omega, Goes.le ⟨j + 1, ⟨hlt, (by first | omega | (simp only; omega))⟩, rfl⟩ (by simp +contextual -dsimp only [↓SD, SU, SB, Nat.reduceAdd, Nat.reduceBEq, Nat.reduceEqDiff, Nat.reduceLeDiff, Nat.reduceLT, Nat.reduceSub, ↓reduceIte, zA, zI, zN, reduceCtorEq, Int.reduceToNat, zE, Int.natCast_add]) (by trivial)⟩
      · obtain rfl : j = M.length := by omega
        simp +contextual -dsimp (maxSteps := 2000000) only [↓SD, SU, SB, Nat.reduceAdd, Nat.reduceBEq, Nat.reduceEqDiff, Nat.reduceLeDiff, Nat.reduceLT, Nat.reduceSub, ↓reduceIte, zA, zI, zN, reduceCtorEq, Int.reduceToNat, zE, Int.reduceEq, Int.reduceLT, Int.reduceLE, Int.reduceNeg, Int.reduceAdd, Int.reduceSub, Nat.lt_irrefl, map_len, eH]
        refine aCallH_of [] CS2 (by simp +contextual -dsimp only [↓SD, SU, SB, Nat.reduceAdd, Nat.reduceBEq, Nat.reduceEqDiff, Nat.reduceLeDiff, Nat.reduceLT, Nat.reduceSub, ↓reduceIte, zA, zI, zN, reduceCtorEq, Int.reduceToNat, zE]) ?_
        rintro r hp' (⟨h, _⟩ | ⟨_, v3, rfl, rfl⟩)
        · cases h
        simp +contextual -dsimp (maxSteps := 2000000) only [↓SD, SU, SB, Nat.reduceAdd, Nat.reduceBEq, Nat.reduceEqDiff, Nat.reduceLeDiff, Nat.reduceLT, Nat.reduceSub, ↓reduceIte, zA, zI, zN, reduceCtorEq, Int.reduceToNat, zE, Int.reduceEq, Int.reduceLT, Int.reduceLE, Int.reduceNeg, Int.reduceAdd, Int.reduceSub]
end Go.Proofs.Ytpignflebknagaa
