/-
  Show, of the program and of the reference, by abstract texts. Conditions: none.
-/
import Derived.Test.YtpignflebknagaaShowP
import Derived.Test.YtpignflebknagaaNumI
import Derived.Test.YtpignflebknagaaIrShow
set_option linter.unusedVariables false
set_option linter.unusedSimpArgs false
set_option maxRecDepth 100000
namespace Go.Proofs.Ytpignflebknagaa
open Go.RowKit Go.Proofs.Ytpignflebknagaa.Av Go.Proofs.Ytpignflebknagaa.Ml
open Go.Proofs.Ytpignflebknagaa.Av.AVal (av)

theorem kindV {v : Val} {n : Int} (h : valB v n = true) : v.kind = 1 ∨ v.kind = 2 ∨ v.kind = 3 ∨ v.kind = 4 ∨ v.kind = 5 ∨ v.kind = 7 ∨ (v.kind = 6 ∧ 0 ≤ v.n ∧ v.n < n) := by
  by_cases h6 : v.kind = 6
  · have h' := h
    simp [valB, h6] at h'
    omega
  · unfold valB at h
    (repeat' split at h) <;> first | omega | (cases h)
theorem valB_range {v : Val} {n : Int} (h : valB v n = true) (k : v.kind = 1) : -9223372036854775808 ≤ v.n ∧ v.n ≤ 9223372036854775807 := by
  simp [valB, k] at h
  omega
theorem cellB_kind {c : Cell} {n : Int} (h : cellB c n = true) : c.kind = 1 ∨ c.kind = 2 ∨ c.kind = 3 ∨ c.kind = 4 ∨ c.kind = 5 ∨ c.kind = 6 := by
  simp only [cellB, Bool.and_eq_true, decide_eq_true_eq] at h
  omega
theorem cellB_vals {c : Cell} {n : Int} (h : cellB c n = true) : valB c.a n = true ∧ ((c.kind = 2 ∨ c.kind = 6) → valB c.b n = true) := by
  simp only [cellB, Bool.and_eq_true] at h
  obtain ⟨⟨⟨⟨h1, h2⟩, h3⟩, h4⟩, h5⟩ := h
  refine ⟨h2, fun hk => ?_⟩
  have : twoB c = true := by simp [twoB]; exact hk
  rwa [if_pos this] at h3
theorem impl_shown_ok (h : List Cell) (hl : h.length ≤ 4000) (hh : ∀ c ∈ h, SmallC c ∧ CellR c ∧ cellB c h.length = true) : ∀ (d : Nat) (n : Int) (v : Val), n.toNat = d → n ≤ 12 → valB v h.length = true → SmallV v → CallsF Try.prog 27 [.sl (h.map av), av v, .int .i64 n] (.str (showV h d v)) := by
  intro d
  induction d with
  | zero =>
    intro n v hn h12 hv hs
    have h0 : n ≤ 0 := by omega
    refine fun_impl_shown rfl (by simp; exact ⟨lav_clean h, AVal.clean v, pint _⟩) (AvPure.str _) ?_
    have hq := hs
    unfold SmallV at hq
    rcases kindV hv with k | k | k | k | k | k | ⟨k, kn⟩
    · have he : showV h 0 v = numS v.n := by rw [showV, leafV]; simp [k]
      rw [he]
      have C := implNumText_ok v.n (valB_range hv k)
      simp +contextual -dsimp (maxSteps := 2000000) only [↓SD, SU, SB, Nat.reduceAdd, Nat.reduceBEq, Nat.reduceEqDiff, Nat.reduceLeDiff, Nat.reduceLT, Nat.reduceSub, ↓reduceIte, zA, zI, zN, reduceCtorEq, Int.reduceToNat, zE, Int.reduceEq, Int.reduceLT, Int.reduceLE, Int.reduceNeg, Int.reduceAdd, Int.reduceSub, ir_impl_shown, rs_impl_shown, av_Val, k]
      refine aCallK_of _ C ?_
      simp +contextual -dsimp (maxSteps := 2000000) only [↓SD, SU, SB, Nat.reduceAdd, Nat.reduceBEq, Nat.reduceEqDiff, Nat.reduceLeDiff, Nat.reduceLT, Nat.reduceSub, ↓reduceIte, zA, zI, zN, reduceCtorEq, Int.reduceToNat, zE, Int.reduceEq, Int.reduceLT, Int.reduceLE, Int.reduceNeg, Int.reduceAdd, Int.reduceSub]
    · have he : showV h 0 v = quoteS v.s := by rw [showV, leafV]; simp [k]
      rw [he]
      have C := implQuote_ok v.s hq
      simp +contextual -dsimp (maxSteps := 2000000) only [↓SD, SU, SB, Nat.reduceAdd, Nat.reduceBEq, Nat.reduceEqDiff, Nat.reduceLeDiff, Nat.reduceLT, Nat.reduceSub, ↓reduceIte, zA, zI, zN, reduceCtorEq, Int.reduceToNat, zE, Int.reduceEq, Int.reduceLT, Int.reduceLE, Int.reduceNeg, Int.reduceAdd, Int.reduceSub, ir_impl_shown, rs_impl_shown, av_Val, k]
      refine aCallK_of _ C ?_
      simp +contextual -dsimp (maxSteps := 2000000) only [↓SD, SU, SB, Nat.reduceAdd, Nat.reduceBEq, Nat.reduceEqDiff, Nat.reduceLeDiff, Nat.reduceLT, Nat.reduceSub, ↓reduceIte, zA, zI, zN, reduceCtorEq, Int.reduceToNat, zE, Int.reduceEq, Int.reduceLT, Int.reduceLE, Int.reduceNeg, Int.reduceAdd, Int.reduceSub]
    · have he : showV h 0 v = bs [40, 41] := by rw [showV, leafV]; simp [k]
      rw [he]
      simp +contextual -dsimp (maxSteps := 2000000) only [↓SD, SU, SB, Nat.reduceAdd, Nat.reduceBEq, Nat.reduceEqDiff, Nat.reduceLeDiff, Nat.reduceLT, Nat.reduceSub, ↓reduceIte, zA, zI, zN, reduceCtorEq, Int.reduceToNat, zE, Int.reduceEq, Int.reduceLT, Int.reduceLE, Int.reduceNeg, Int.reduceAdd, Int.reduceSub, ir_impl_shown, rs_impl_shown, av_Val, k]
    · have he : showV h 0 v = v.s := by rw [showV, leafV]; simp [k]
      rw [he]
      simp +contextual -dsimp (maxSteps := 2000000) only [↓SD, SU, SB, Nat.reduceAdd, Nat.reduceBEq, Nat.reduceEqDiff, Nat.reduceLeDiff, Nat.reduceLT, Nat.reduceSub, ↓reduceIte, zA, zI, zN, reduceCtorEq, Int.reduceToNat, zE, Int.reduceEq, Int.reduceLT, Int.reduceLE, Int.reduceNeg, Int.reduceAdd, Int.reduceSub, ir_impl_shown, rs_impl_shown, av_Val, k]
    · have he : showV h 0 v = bs [60] ++ v.s ++ bs [62] := by rw [showV, leafV]; simp [k]
      rw [he]
      simp +contextual -dsimp (maxSteps := 2000000) only [↓SD, SU, SB, Nat.reduceAdd, Nat.reduceBEq, Nat.reduceEqDiff, Nat.reduceLeDiff, Nat.reduceLT, Nat.reduceSub, ↓reduceIte, zA, zI, zN, reduceCtorEq, Int.reduceToNat, zE, Int.reduceEq, Int.reduceLT, Int.reduceLE, Int.reduceNeg, Int.reduceAdd, Int.reduceSub, ir_impl_shown, rs_impl_shown, av_Val, k, ByteArray.size_append, bs_size]
      unfold maxLen; omega
    · have he : showV h 0 v = bs [45] := by rw [showV, leafV]; simp [k]
      rw [he]
      simp +contextual -dsimp (maxSteps := 2000000) only [↓SD, SU, SB, Nat.reduceAdd, Nat.reduceBEq, Nat.reduceEqDiff, Nat.reduceLeDiff, Nat.reduceLT, Nat.reduceSub, ↓reduceIte, zA, zI, zN, reduceCtorEq, Int.reduceToNat, zE, Int.reduceEq, Int.reduceLT, Int.reduceLE, Int.reduceNeg, Int.reduceAdd, Int.reduceSub, ir_impl_shown, rs_impl_shown, av_Val, k]
    · have he : showV h 0 v = bs [63] := by rw [showV, leafV]; simp [k]
      rw [he]
      simp +contextual -dsimp (maxSteps := 2000000) only [↓SD, SU, SB, Nat.reduceAdd, Nat.reduceBEq, Nat.reduceEqDiff, Nat.reduceLeDiff, Nat.reduceLT, Nat.reduceSub, ↓reduceIte, zA, zI, zN, reduceCtorEq, Int.reduceToNat, zE, Int.reduceEq, Int.reduceLT, Int.reduceLE, Int.reduceNeg, Int.reduceAdd, Int.reduceSub, ir_impl_shown, rs_impl_shown, av_Val, k, h0]
  | succ d ih =>
    intro n v hn h12 hv hs
    have h0 : ¬ n ≤ 0 := by omega
    have hq := hs
    unfold SmallV at hq
    have hv0 := hv
    refine fun_impl_shown rfl (by simp; exact ⟨lav_clean h, AVal.clean v, pint _⟩) (AvPure.str _) ?_
    rcases kindV hv with k | k | k | k | k | k | ⟨k, kn⟩
    · have he : showV h (d + 1) v = numS v.n := by rw [showV, leafV]; simp [k]
      rw [he]
      have C := implNumText_ok v.n (valB_range hv k)
      simp +contextual -dsimp (maxSteps := 2000000) only [↓SD, SU, SB, Nat.reduceAdd, Nat.reduceBEq, Nat.reduceEqDiff, Nat.reduceLeDiff, Nat.reduceLT, Nat.reduceSub, ↓reduceIte, zA, zI, zN, reduceCtorEq, Int.reduceToNat, zE, Int.reduceEq, Int.reduceLT, Int.reduceLE, Int.reduceNeg, Int.reduceAdd, Int.reduceSub, ir_impl_shown, rs_impl_shown, av_Val, k]
      refine aCallK_of _ C ?_
      simp +contextual -dsimp (maxSteps := 2000000) only [↓SD, SU, SB, Nat.reduceAdd, Nat.reduceBEq, Nat.reduceEqDiff, Nat.reduceLeDiff, Nat.reduceLT, Nat.reduceSub, ↓reduceIte, zA, zI, zN, reduceCtorEq, Int.reduceToNat, zE, Int.reduceEq, Int.reduceLT, Int.reduceLE, Int.reduceNeg, Int.reduceAdd, Int.reduceSub]
    · have he : showV h (d + 1) v = quoteS v.s := by rw [showV, leafV]; simp [k]
      rw [he]
      have C := implQuote_ok v.s hq
      simp +contextual -dsimp (maxSteps := 2000000) only [↓SD, SU, SB, Nat.reduceAdd, Nat.reduceBEq, Nat.reduceEqDiff, Nat.reduceLeDiff, Nat.reduceLT, Nat.reduceSub, ↓reduceIte, zA, zI, zN, reduceCtorEq, Int.reduceToNat, zE, Int.reduceEq, Int.reduceLT, Int.reduceLE, Int.reduceNeg, Int.reduceAdd, Int.reduceSub, ir_impl_shown, rs_impl_shown, av_Val, k]
      refine aCallK_of _ C ?_
      simp +contextual -dsimp (maxSteps := 2000000) only [↓SD, SU, SB, Nat.reduceAdd, Nat.reduceBEq, Nat.reduceEqDiff, Nat.reduceLeDiff, Nat.reduceLT, Nat.reduceSub, ↓reduceIte, zA, zI, zN, reduceCtorEq, Int.reduceToNat, zE, Int.reduceEq, Int.reduceLT, Int.reduceLE, Int.reduceNeg, Int.reduceAdd, Int.reduceSub]
    · have he : showV h (d + 1) v = bs [40, 41] := by rw [showV, leafV]; simp [k]
      rw [he]
      simp +contextual -dsimp (maxSteps := 2000000) only [↓SD, SU, SB, Nat.reduceAdd, Nat.reduceBEq, Nat.reduceEqDiff, Nat.reduceLeDiff, Nat.reduceLT, Nat.reduceSub, ↓reduceIte, zA, zI, zN, reduceCtorEq, Int.reduceToNat, zE, Int.reduceEq, Int.reduceLT, Int.reduceLE, Int.reduceNeg, Int.reduceAdd, Int.reduceSub, ir_impl_shown, rs_impl_shown, av_Val, k]
    · have he : showV h (d + 1) v = v.s := by rw [showV, leafV]; simp [k]
      rw [he]
      simp +contextual -dsimp (maxSteps := 2000000) only [↓SD, SU, SB, Nat.reduceAdd, Nat.reduceBEq, Nat.reduceEqDiff, Nat.reduceLeDiff, Nat.reduceLT, Nat.reduceSub, ↓reduceIte, zA, zI, zN, reduceCtorEq, Int.reduceToNat, zE, Int.reduceEq, Int.reduceLT, Int.reduceLE, Int.reduceNeg, Int.reduceAdd, Int.reduceSub, ir_impl_shown, rs_impl_shown, av_Val, k]
    · have he : showV h (d + 1) v = bs [60] ++ v.s ++ bs [62] := by rw [showV, leafV]; simp [k]
      rw [he]
      simp +contextual -dsimp (maxSteps := 2000000) only [↓SD, SU, SB, Nat.reduceAdd, Nat.reduceBEq, Nat.reduceEqDiff, Nat.reduceLeDiff, Nat.reduceLT, Nat.reduceSub, ↓reduceIte, zA, zI, zN, reduceCtorEq, Int.reduceToNat, zE, Int.reduceEq, Int.reduceLT, Int.reduceLE, Int.reduceNeg, Int.reduceAdd, Int.reduceSub, ir_impl_shown, rs_impl_shown, av_Val, k, ByteArray.size_append, bs_size]
      unfold maxLen; omega
    · have he : showV h (d + 1) v = bs [45] := by rw [showV, leafV]; simp [k]
      rw [he]
      simp +contextual -dsimp (maxSteps := 2000000) only [↓SD, SU, SB, Nat.reduceAdd, Nat.reduceBEq, Nat.reduceEqDiff, Nat.reduceLeDiff, Nat.reduceLT, Nat.reduceSub, ↓reduceIte, zA, zI, zN, reduceCtorEq, Int.reduceToNat, zE, Int.reduceEq, Int.reduceLT, Int.reduceLE, Int.reduceNeg, Int.reduceAdd, Int.reduceSub, ir_impl_shown, rs_impl_shown, av_Val, k]
    · obtain ⟨m, hm⟩ : ∃ m : Nat, v.n = m := ⟨v.n.toNat, by omega⟩
      have hmlt : m < h.length := by omega
      have e := getD_map av h m .top hmlt
      obtain ⟨c1, c2, c3⟩ := hh _ (List.getElem_mem hmlt)
      have he : showV h (d + 1) v = cellT h[m] (showV h d h[m].a) (showV h d h[m].b) := by
        rw [showV, leafV]
        have : h.getD v.n.toNat noCell = h[m] := by rw [hm, Int.toNat_natCast, List.getD_eq_getElem?_getD, List.getElem?_eq_getElem hmlt]; rfl
        simp only [k, this]; rfl
      rw [he]
      have sa := showV_size (fun c hc => (hh c hc).1) d h[m].a c1.2.1
      have sb := showV_size (fun c hc => (hh c hc).1) d h[m].b c1.2.2
      have hpow : 4 ^ d ≤ 4 ^ 12 := Nat.pow_le_pow_right (by decide) (by omega)
      have hbig : ∀ x, x ≤ 8388608 * 4 ^ d → x ≤ 140737488355328 := fun x hx => Nat.le_trans hx (Nat.le_trans (Nat.mul_le_mul_left _ hpow) (by decide))
      replace sa := hbig _ sa
      replace sb := hbig _ sb
      clear hbig hpow
      have hcs := c1.1
      have hnum := numS_le h[m].n
      obtain ⟨hva, hvb⟩ := cellB_vals c3
      have CA := ih (n - 1) h[m].a (by omega) (by omega) hva c1.2.1
      have CB := fun hk => ih (n - 1) h[m].b (by omega) (by omega) (hvb hk) c1.2.2
      have CN := implNumText_ok h[m].n c2.1
      have hkc := cellB_kind c3
      rw [av_Val] at CA CB
      clear he hh c1 c2 c3 ih hva hvb
      generalize h[m] = c at *
      generalize showV h d c.a = A at *
      generalize showV h d c.b = B at *
      rcases hkc with kc | kc | kc | kc | kc | kc
      · simp +contextual -dsimp (maxSteps := 2000000) only [↓SD, SU, SB, Nat.reduceAdd, Nat.reduceBEq, Nat.reduceEqDiff, Nat.reduceLeDiff, Nat.reduceLT, Nat.reduceSub, ↓reduceIte, zA, zI, zN, reduceCtorEq, Int.reduceToNat, zE, Int.reduceEq, Int.reduceLT, Int.reduceLE, Int.reduceNeg, Int.reduceAdd, Int.reduceSub, ir_impl_shown, rs_impl_shown, av_Val, k, h0, hm, hmlt, map_len, e, av_Cell]
        intro v7
        refine ⟨by omega, ?_⟩
        refine aCallK_of _ CA ?_
        have hct : cellT c A B = bs [40] ++ c.s ++ bs [32] ++ A ++ bs [41] := by simp [cellT, kc]
        rw [hct]
        simp +contextual -dsimp (maxSteps := 2000000) only [↓SD, SU, SB, Nat.reduceAdd, Nat.reduceBEq, Nat.reduceEqDiff, Nat.reduceLeDiff, Nat.reduceLT, Nat.reduceSub, ↓reduceIte, zA, zI, zN, reduceCtorEq, Int.reduceToNat, zE, Int.reduceEq, Int.reduceLT, Int.reduceLE, Int.reduceNeg, Int.reduceAdd, Int.reduceSub, kc, ByteArray.size_append, bs_size]
        (repeat' (refine And.intro ?_ ?_)) <;> first | rfl | omega | (unfold maxLen; omega)
      · simp +contextual -dsimp (maxSteps := 2000000) only [↓SD, SU, SB, Nat.reduceAdd, Nat.reduceBEq, Nat.reduceEqDiff, Nat.reduceLeDiff, Nat.reduceLT, Nat.reduceSub, ↓reduceIte, zA, zI, zN, reduceCtorEq, Int.reduceToNat, zE, Int.reduceEq, Int.reduceLT, Int.reduceLE, Int.reduceNeg, Int.reduceAdd, Int.reduceSub, ir_impl_shown, rs_impl_shown, av_Val, k, h0, hm, hmlt, map_len, e, av_Cell]
        intro v7
        refine ⟨by omega, ?_⟩
        refine aCallK_of _ CA ?_
        have hct : cellT c A B = bs [40] ++ A ++ bs [44, 32] ++ B ++ bs [41] := by simp [cellT, kc]
        rw [hct]
        simp +contextual -dsimp (maxSteps := 2000000) only [↓SD, SU, SB, Nat.reduceAdd, Nat.reduceBEq, Nat.reduceEqDiff, Nat.reduceLeDiff, Nat.reduceLT, Nat.reduceSub, ↓reduceIte, zA, zI, zN, reduceCtorEq, Int.reduceToNat, zE, Int.reduceEq, Int.reduceLT, Int.reduceLE, Int.reduceNeg, Int.reduceAdd, Int.reduceSub, kc, ByteArray.size_append, bs_size]
        refine ⟨by unfold maxLen; omega, by unfold maxLen; omega, by omega, ?_⟩
        refine aCallK_of _ (CB (by omega)) ?_
        simp +contextual -dsimp (maxSteps := 2000000) only [↓SD, SU, SB, Nat.reduceAdd, Nat.reduceBEq, Nat.reduceEqDiff, Nat.reduceLeDiff, Nat.reduceLT, Nat.reduceSub, ↓reduceIte, zA, zI, zN, reduceCtorEq, Int.reduceToNat, zE, Int.reduceEq, Int.reduceLT, Int.reduceLE, Int.reduceNeg, Int.reduceAdd, Int.reduceSub, ByteArray.size_append, bs_size]
        (repeat' (refine And.intro ?_ ?_)) <;> first | rfl | omega | (unfold maxLen; omega)
      · simp +contextual -dsimp (maxSteps := 2000000) only [↓SD, SU, SB, Nat.reduceAdd, Nat.reduceBEq, Nat.reduceEqDiff, Nat.reduceLeDiff, Nat.reduceLT, Nat.reduceSub, ↓reduceIte, zA, zI, zN, reduceCtorEq, Int.reduceToNat, zE, Int.reduceEq, Int.reduceLT, Int.reduceLE, Int.reduceNeg, Int.reduceAdd, Int.reduceSub, ir_impl_shown, rs_impl_shown, av_Val, k, h0, hm, hmlt, map_len, e, av_Cell]
        intro v7
        refine ⟨by omega, ?_⟩
        refine aCallK_of _ CA ?_
        have hct : cellT c A B = bs [60, 102, 117, 110, 32] ++ numS c.n ++ bs [32] ++ A ++ bs [62] := by simp [cellT, kc]
        rw [hct]
        simp +contextual -dsimp (maxSteps := 2000000) only [↓SD, SU, SB, Nat.reduceAdd, Nat.reduceBEq, Nat.reduceEqDiff, Nat.reduceLeDiff, Nat.reduceLT, Nat.reduceSub, ↓reduceIte, zA, zI, zN, reduceCtorEq, Int.reduceToNat, zE, Int.reduceEq, Int.reduceLT, Int.reduceLE, Int.reduceNeg, Int.reduceAdd, Int.reduceSub, kc, ByteArray.size_append, bs_size]
        refine aCallK_of _ CN ?_
        simp +contextual -dsimp (maxSteps := 2000000) only [↓SD, SU, SB, Nat.reduceAdd, Nat.reduceBEq, Nat.reduceEqDiff, Nat.reduceLeDiff, Nat.reduceLT, Nat.reduceSub, ↓reduceIte, zA, zI, zN, reduceCtorEq, Int.reduceToNat, zE, Int.reduceEq, Int.reduceLT, Int.reduceLE, Int.reduceNeg, Int.reduceAdd, Int.reduceSub, ByteArray.size_append, bs_size]
        (repeat' (refine And.intro ?_ ?_)) <;> first | rfl | omega | (unfold maxLen; omega)
      · simp +contextual -dsimp (maxSteps := 2000000) only [↓SD, SU, SB, Nat.reduceAdd, Nat.reduceBEq, Nat.reduceEqDiff, Nat.reduceLeDiff, Nat.reduceLT, Nat.reduceSub, ↓reduceIte, zA, zI, zN, reduceCtorEq, Int.reduceToNat, zE, Int.reduceEq, Int.reduceLT, Int.reduceLE, Int.reduceNeg, Int.reduceAdd, Int.reduceSub, ir_impl_shown, rs_impl_shown, av_Val, k, h0, hm, hmlt, map_len, e, av_Cell]
        intro v7
        refine ⟨by omega, ?_⟩
        refine aCallK_of _ CA ?_
        have hct : cellT c A B = bs [60, 114, 101, 99, 32] ++ numS c.n ++ bs [32] ++ A ++ bs [62] := by simp [cellT, kc]
        rw [hct]
        simp +contextual -dsimp (maxSteps := 2000000) only [↓SD, SU, SB, Nat.reduceAdd, Nat.reduceBEq, Nat.reduceEqDiff, Nat.reduceLeDiff, Nat.reduceLT, Nat.reduceSub, ↓reduceIte, zA, zI, zN, reduceCtorEq, Int.reduceToNat, zE, Int.reduceEq, Int.reduceLT, Int.reduceLE, Int.reduceNeg, Int.reduceAdd, Int.reduceSub, kc, ByteArray.size_append, bs_size]
        refine aCallK_of _ CN ?_
        simp +contextual -dsimp (maxSteps := 2000000) only [↓SD, SU, SB, Nat.reduceAdd, Nat.reduceBEq, Nat.reduceEqDiff, Nat.reduceLeDiff, Nat.reduceLT, Nat.reduceSub, ↓reduceIte, zA, zI, zN, reduceCtorEq, Int.reduceToNat, zE, Int.reduceEq, Int.reduceLT, Int.reduceLE, Int.reduceNeg, Int.reduceAdd, Int.reduceSub, ByteArray.size_append, bs_size]
        (repeat' (refine And.intro ?_ ?_)) <;> first | rfl | omega | (unfold maxLen; omega)
      · simp +contextual -dsimp (maxSteps := 2000000) only [↓SD, SU, SB, Nat.reduceAdd, Nat.reduceBEq, Nat.reduceEqDiff, Nat.reduceLeDiff, Nat.reduceLT, Nat.reduceSub, ↓reduceIte, zA, zI, zN, reduceCtorEq, Int.reduceToNat, zE, Int.reduceEq, Int.reduceLT, Int.reduceLE, Int.reduceNeg, Int.reduceAdd, Int.reduceSub, ir_impl_shown, rs_impl_shown, av_Val, k, h0, hm, hmlt, map_len, e, av_Cell]
        intro v7
        refine ⟨by omega, ?_⟩
        refine aCallK_of _ CA ?_
        have hct : cellT c A B = bs [123] ++ A ++ bs [125] := by simp [cellT, kc]
        rw [hct]
        simp +contextual -dsimp (maxSteps := 2000000) only [↓SD, SU, SB, Nat.reduceAdd, Nat.reduceBEq, Nat.reduceEqDiff, Nat.reduceLeDiff, Nat.reduceLT, Nat.reduceSub, ↓reduceIte, zA, zI, zN, reduceCtorEq, Int.reduceToNat, zE, Int.reduceEq, Int.reduceLT, Int.reduceLE, Int.reduceNeg, Int.reduceAdd, Int.reduceSub, kc, ByteArray.size_append, bs_size]
        (repeat' (refine And.intro ?_ ?_)) <;> first | rfl | omega | (unfold maxLen; omega)
      · simp +contextual -dsimp (maxSteps := 2000000) only [↓SD, SU, SB, Nat.reduceAdd, Nat.reduceBEq, Nat.reduceEqDiff, Nat.reduceLeDiff, Nat.reduceLT, Nat.reduceSub, ↓reduceIte, zA, zI, zN, reduceCtorEq, Int.reduceToNat, zE, Int.reduceEq, Int.reduceLT, Int.reduceLE, Int.reduceNeg, Int.reduceAdd, Int.reduceSub, ir_impl_shown, rs_impl_shown, av_Val, k, h0, hm, hmlt, map_len, e, av_Cell]
        intro v7
        refine ⟨by omega, ?_⟩
        refine aCallK_of _ CA ?_
        have hct : cellT c A B = bs [91] ++ A ++ bs [32] ++ B ++ bs [93] := by simp [cellT, kc]
        rw [hct]
        simp +contextual -dsimp (maxSteps := 2000000) only [↓SD, SU, SB, Nat.reduceAdd, Nat.reduceBEq, Nat.reduceEqDiff, Nat.reduceLeDiff, Nat.reduceLT, Nat.reduceSub, ↓reduceIte, zA, zI, zN, reduceCtorEq, Int.reduceToNat, zE, Int.reduceEq, Int.reduceLT, Int.reduceLE, Int.reduceNeg, Int.reduceAdd, Int.reduceSub, kc, ByteArray.size_append, bs_size]
        refine ⟨by unfold maxLen; omega, by unfold maxLen; omega, by omega, ?_⟩
        refine aCallK_of _ (CB (by omega)) ?_
        simp +contextual -dsimp (maxSteps := 2000000) only [↓SD, SU, SB, Nat.reduceAdd, Nat.reduceBEq, Nat.reduceEqDiff, Nat.reduceLeDiff, Nat.reduceLT, Nat.reduceSub, ↓reduceIte, zA, zI, zN, reduceCtorEq, Int.reduceToNat, zE, Int.reduceEq, Int.reduceLT, Int.reduceLE, Int.reduceNeg, Int.reduceAdd, Int.reduceSub, ByteArray.size_append, bs_size]
        (repeat' (refine And.intro ?_ ?_)) <;> first | rfl | omega | (unfold maxLen; omega)
/-- what Show returns -/
def showS (h : List Cell) (v : Val) (n : Int) : ByteArray := if n ≤ 12 ∧ heapB h [v] = true then showV h n.toNat v else bs []
theorem heapB_in {h : List Cell} {v : Val} (hb : heapB h [v] = true) : h.length ≤ 4000 ∧ (∀ c ∈ h, cellB c h.length = true) ∧ valB v h.length = true := by
  simp only [heapB, Bool.and_eq_true, decide_eq_true_eq, List.all_eq_true, List.all_cons, List.all_nil, Bool.and_true] at hb
  exact ⟨hb.1.1, hb.1.2, hb.2⟩
theorem implShow_ok (h : List Cell) (v : Val) (n : Int) (hl : h.length ≤ 1048576) (hh : ∀ c ∈ h, SmallC c ∧ CellR c) (hv : SmallV v) : CallsF Try.prog 14 [.sl (h.map av), av v, .int .i64 n] (.str (showS h v n)) := by
  refine fun_impl_Show rfl (by simp; exact ⟨lav_clean h, AVal.clean v, pint _⟩) (AvPure.str _) ?_
  have C := implHeapOk_ok h [v] hl (by simp)
  rw [List.map_cons, List.map_nil, av_Val] at C
  by_cases hn : n ≤ 12
  · have hn' : ¬ 12 < n := by omega
    cases hb : heapB h [v] with
    | false =>
      rw [hb] at C
      have he : showS h v n = bs [] := by unfold showS; rw [if_neg (by simp [hb])]
      rw [he]
      simp +contextual -dsimp (maxSteps := 2000000) only [↓SD, SU, SB, Nat.reduceAdd, Nat.reduceBEq, Nat.reduceEqDiff, Nat.reduceLeDiff, Nat.reduceLT, Nat.reduceSub, ↓reduceIte, zA, zI, zN, reduceCtorEq, Int.reduceToNat, zE, Int.reduceEq, Int.reduceLT, Int.reduceLE, Int.reduceNeg, Int.reduceAdd, Int.reduceSub, ir_impl_Show, rs_impl_Show, av_Val, hn']
      refine aCallK_of _ C ?_
      simp +contextual -dsimp (maxSteps := 2000000) only [↓SD, SU, SB, Nat.reduceAdd, Nat.reduceBEq, Nat.reduceEqDiff, Nat.reduceLeDiff, Nat.reduceLT, Nat.reduceSub, ↓reduceIte, zA, zI, zN, reduceCtorEq, Int.reduceToNat, zE, Int.reduceEq, Int.reduceLT, Int.reduceLE, Int.reduceNeg, Int.reduceAdd, Int.reduceSub]
    | true =>
      rw [hb] at C
      obtain ⟨b1, b2, b3⟩ := heapB_in hb
      have he : showS h v n = showV h n.toNat v := by unfold showS; rw [if_pos ⟨hn, hb⟩]
      rw [he]
      have C2 := impl_shown_ok h b1 (fun c hc => ⟨(hh c hc).1, (hh c hc).2, b2 c hc⟩) n.toNat n v rfl hn b3 hv
      rw [av_Val] at C2
      simp +contextual -dsimp (maxSteps := 2000000) only [↓SD, SU, SB, Nat.reduceAdd, Nat.reduceBEq, Nat.reduceEqDiff, Nat.reduceLeDiff, Nat.reduceLT, Nat.reduceSub, ↓reduceIte, zA, zI, zN, reduceCtorEq, Int.reduceToNat, zE, Int.reduceEq, Int.reduceLT, Int.reduceLE, Int.reduceNeg, Int.reduceAdd, Int.reduceSub, ir_impl_Show, rs_impl_Show, av_Val, hn']
      refine aCallK_of _ C ?_
      simp +contextual -dsimp (maxSteps := 2000000) only [↓SD, SU, SB, Nat.reduceAdd, Nat.reduceBEq, Nat.reduceEqDiff, Nat.reduceLeDiff, Nat.reduceLT, Nat.reduceSub, ↓reduceIte, zA, zI, zN, reduceCtorEq, Int.reduceToNat, zE, Int.reduceEq, Int.reduceLT, Int.reduceLE, Int.reduceNeg, Int.reduceAdd, Int.reduceSub]
      refine aCallK_of _ C2 ?_
      simp +contextual -dsimp (maxSteps := 2000000) only [↓SD, SU, SB, Nat.reduceAdd, Nat.reduceBEq, Nat.reduceEqDiff, Nat.reduceLeDiff, Nat.reduceLT, Nat.reduceSub, ↓reduceIte, zA, zI, zN, reduceCtorEq, Int.reduceToNat, zE, Int.reduceEq, Int.reduceLT, Int.reduceLE, Int.reduceNeg, Int.reduceAdd, Int.reduceSub]
  · have hn' : 12 < n := by omega
    have he : showS h v n = bs [] := by unfold showS; rw [if_neg (by simp [hn])]
    rw [he]
    simp +contextual -dsimp (maxSteps := 2000000) only [↓SD, SU, SB, Nat.reduceAdd, Nat.reduceBEq, Nat.reduceEqDiff, Nat.reduceLeDiff, Nat.reduceLT, Nat.reduceSub, ↓reduceIte, zA, zI, zN, reduceCtorEq, Int.reduceToNat, zE, Int.reduceEq, Int.reduceLT, Int.reduceLE, Int.reduceNeg, Int.reduceAdd, Int.reduceSub, ir_impl_Show, rs_impl_Show, av_Val, hn']
theorem small_heap {h : List Cell} (hx : Bulk.bulk h ≤ 1048576) : ∀ c ∈ h, SmallC c := by
  intro c hc
  have h1 := bulk_mem hc
  have h2 : Bulk.bulk c = Bulk.bulk c.kind + Bulk.bulk c.n + Bulk.bulk c.s + Bulk.bulk c.a + Bulk.bulk c.b + 1 := rfl
  have h3 : Bulk.bulk c.s = c.s.size + 1 := rfl
  have h4 := val_range (x := c.a) (by omega)
  have h5 := val_range (x := c.b) (by omega)
  exact ⟨by omega, h4, h5⟩
end Go.Proofs.Ytpignflebknagaa
