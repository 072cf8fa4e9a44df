/-
 PATTERNS TAKEN BY THE REFERENCE'S READER, told weakly: some tree within bounds. Conditions: none.
-/
import Derived.Test.YtoffpbehgncakaaGreatKReadT
import Derived.Test.YtoffpbehgncakaaGreatKJ18
set_option linter.unusedVariables false
set_option linter.unusedSimpArgs false
set_option maxRecDepth 100000
namespace Go.Proofs.YtoffpbehgncakaaGreat
open Go.RowKit Go.Proofs.YtoffpbehgncakaaGreat.Av Go.Proofs.YtoffpbehgncakaaGreat.Ml
open Go.Proofs.YtoffpbehgncakaaGreat.Av.AVal (av)

def AbR (C : RC) (s : RS) (s' : RS) (r : AV) : Prop := ∃ t : Px, r = psA t ∧ PxW C.m t ∧ pxN t + 3 * s.i ≤ 3 * s'.i + 1
def PaC (C : RC) (s : RS) (d : Int) : Prop := AW Tryz.prog 189 [.ptr 2100 C.v 0 0, .int .i64 d] (rdB C s) (RP C s (AbR C s))
def Uh (C : RC) (s : RS) (d : Int) : Prop := AW Tryz.prog 176 [.ptr 2100 C.v 0 0, .int .i64 d] (rdB C s) (RP C s (AbR C s))
theorem px0 (n : Hd) : pxN (.mk n []) = 1 := by simp [pxN, Df]
theorem px1 (n : Hd) (a : Px) : pxN (.mk n [a]) = 1 + pxN a := by simp [pxN, Df]
theorem px2 (n : Hd) (a b : Px) : pxN (.mk n [a, b]) = 1 + pxN a + pxN b := by simp [pxN, Df]; omega
theorem AcB {m : Nat} (k n : Int) (s : ByteArray) (h1 : 0 ≤ k ∧ k ≤ 7) (h2 : -9000000000000000000 ≤ n ∧ n ≤ 9000000000000000000) (h3 : s.size ≤ m) : PxW m (.mk ⟨k, n, s⟩ []) := .mk _ _ h1 h2 h3 (by simp) (fun k hk => by cases hk)
theorem Ab7 {m : Nat} (k n : Int) (s : ByteArray) (a : Px) (h1 : 0 ≤ k ∧ k ≤ 7) (h2 : -9000000000000000000 ≤ n ∧ n ≤ 9000000000000000000) (h3 : s.size ≤ m) (ha : PxW m a) : PxW m (.mk ⟨k, n, s⟩ [a]) := .mk _ _ h1 h2 h3 (by simp) (fun k hk => by rw [List.mem_singleton.1 hk]; exact ha)
theorem Ab6 {m : Nat} (k n : Int) (s : ByteArray) (a b : Px) (h1 : 0 ≤ k ∧ k ≤ 7) (h2 : -9000000000000000000 ≤ n ∧ n ≤ 9000000000000000000) (h3 : s.size ≤ m) (ha : PxW m a) (hb : PxW m b) : PxW m (.mk ⟨k, n, s⟩ [a, b]) := .mk _ _ h1 h2 h3 (by simp) (fun k hk => by
 rcases List.mem_cons.1 hk with rfl | hk
 ·exact ha
 ·rw [List.mem_singleton.1 hk]; exact hb)
theorem ps0 (n : Hd) : psA (.mk n []) = .agg [.int .i64 n.kind, .int .i64 n.n, .str n.s, .Au, .Au] := by rw [Gt]; rfl
theorem ps1 (n : Hd) (a : Px) : psA (.mk n [a]) = .agg [.int .i64 n.kind, .int .i64 n.n, .str n.s, .Au, .sl [psA a]] := by rw [Gt]; rfl
theorem ps2 (n : Hd) (a b : Px) : psA (.mk n [a, b]) = .agg [.int .i64 n.kind, .int .i64 n.n, .str n.s, .Au, .sl [psA a, psA b]] := by rw [Gt]; rfl
theorem D0 (t : Px) : AV.agg (List.take 5 (psA t).cells) = psA t := by cases t with | mk n ks => rw [Gt]; rfl
theorem Dt {C : RC} {s s' : RS} (hs : Bm C s') (k n : Int) (x : ByteArray) (h1 : 0 ≤ k ∧ k ≤ 7) (h2 : -9000000000000000000 ≤ n ∧ n ≤ 9000000000000000000) (h3 : x.size ≤ C.m) (hi : s.i ≤ s'.i) (hc : s'.code = 0 → s.code = 0) : RP C s (AbR C s) (.agg [.int .i64 k, .int .i64 n, .str x, .Au, .Au]) (rdB C s') :=
 ⟨s', rfl, hs, hi, hc, .mk ⟨k, n, x⟩ [], by rw [ps0], AcB k n x h1 h2 h3, by rw [px0]; omega⟩
theorem Aax {C : RC} {s : RS} (hs : Bm C s) (h : s.i < C.L.length) {x : ByteArray} (hx : x.size ≤ C.m) (v : Nat) : Bm C { s with i := s.i + 1, seen := s.seen ++ [x], sv := v } := by
 obtain ⟨g0, g1, g2, g3, g4, g5, g6⟩ := hs
 exact ⟨g0, h, g2, g3, g4, by simp only [List.length_append, List.length_cons, List.length_nil]; omega, fun y hy => by
  rcases List.mem_append.1 hy with h | h
  ·exact g6 y h
  ·rw [List.mem_singleton.1 h]; exact hx⟩
set_option maxHeartbeats 4000000 in
theorem Sx (C : RC) (s : RS) (hs : Bm C s) (d : Int) (hd : 0 ≤ d ∧ d ≤ 100) (IH : ∀ s1 d, Bm C s1 → s.i < s1.i → 0 ≤ d ∧ d ≤ 200 → Uh C s1 d ∧ (d ≤ 100 → PaC C s1 d)) : PaC C s d := by
 obtain ⟨ht, hat⟩ := Cw hs
 have hsm := hs.small
 have e : (s.i : Int) + 1 = ((s.i + 1 : Nat) : Int) := by omega
 have hz : (bs []).size ≤ C.m := Nat.zero_le _
 have hm1 : s.i < C.L.length → 1 ≤ C.m := fun h => by have := hs.1.1; omega
 unfold PaC
 refine GW.H rfl ?_
 simp +contextual -dsimp (maxSteps := 2000000) only [↓SD, SU, simprocAttr, rdB, Ab, Aa, GW]
 intro v4
 (refine Ad [2100, 2101] (Be C s hs) (by first | (simp +contextual -dsimp (maxSteps := 2000000) only [↓SD, SU, simprocAttr, rdB]; done) | (simp +contextual -dsimp (maxSteps := 2000000) only [↓SD, SU, simprocAttr, rdB, Af]; done) | (simp +contextual -dsimp (maxSteps := 2000000) only [↓SD, SU, simprocAttr, rdB, c0]; done)) ?_; rintro r hp' ⟨rfl, rfl⟩)
 by_cases h3 : (A6 C s).kind = 3
 ·obtain ⟨k1, k2⟩ := hat (by omega)
  have CS := MW C s hs (A6 C s)
  rw [h3] at CS
  have hsl : (s.seen.map (av : ByteArray → AV)).length = s.seen.length := List.length_map _
  have hst : List.take s.seen.length (s.seen.map (av : ByteArray → AV)) = s.seen.map av := List.take_of_length_le (by simp)
  have hsn : s.seen.length ≤ s.i := hs.2.2.2.2.2.1
  cases hb : Jo s.seen (A6 C s) with
  | true =>
   rw [hb] at CS
   simp +contextual -dsimp (maxSteps := 2000000) only [↓SD, SU, simprocAttr, rdB, Ab, Aa, AY, h3]
   intro v5
   (refine Ad [2100, 2101] (CS) (by first | (simp +contextual -dsimp (maxSteps := 2000000) only [↓SD, SU, simprocAttr, rdB]; done) | (simp +contextual -dsimp (maxSteps := 2000000) only [↓SD, SU, simprocAttr, rdB, Af]; done) | (simp +contextual -dsimp (maxSteps := 2000000) only [↓SD, SU, simprocAttr, rdB, c0]; done)) ?_; rintro r hp' ⟨rfl, rfl⟩)
   simp +contextual -dsimp (maxSteps := 2000000) only [↓SD, SU, simprocAttr, rdB, Ab, Aa]
   (refine Ad [2100, 2101] (B4 C s hs 8 (by omega)) (by first | (simp +contextual -dsimp (maxSteps := 2000000) only [↓SD, SU, simprocAttr, rdB]; done) | (simp +contextual -dsimp (maxSteps := 2000000) only [↓SD, SU, simprocAttr, rdB, Af]; done) | (simp +contextual -dsimp (maxSteps := 2000000) only [↓SD, SU, simprocAttr, rdB, c0]; done)) ?_; rintro r hp' ⟨s1, rfl, hs1, hi1, hc1, rfl, _, _⟩)
   simp +contextual -dsimp (maxSteps := 2000000) only [↓SD, SU, simprocAttr, rdB, Ab, Aa]
   refine Ai.post (rdB C s1) ?_
   simp +contextual -dsimp (maxSteps := 2000000) only [↓SD, SU, simprocAttr, rdB, Ab, Aa]
   exact Dt hs1 0 0 (bs []) (by decide) (by decide) hz hi1 hc1
  | false =>
   rw [hb] at CS
   simp +contextual -dsimp (maxSteps := 2000000) only [↓SD, SU, simprocAttr, rdB, Ab, Aa, AY, h3]
   intro v5
   (refine Ad [2100, 2101] (CS) (by first | (simp +contextual -dsimp (maxSteps := 2000000) only [↓SD, SU, simprocAttr, rdB]; done) | (simp +contextual -dsimp (maxSteps := 2000000) only [↓SD, SU, simprocAttr, rdB, Af]; done) | (simp +contextual -dsimp (maxSteps := 2000000) only [↓SD, SU, simprocAttr, rdB, c0]; done)) ?_; rintro r hp' ⟨rfl, rfl⟩)
   simp +contextual -dsimp (maxSteps := 2000000) only [↓SD, SU, simprocAttr, rdB, Ab, Aa, e, hsl, hst]
   refine ⟨⟨by omega, by unfold maxLen; omega⟩, fun w => ⟨by omega, ?_⟩⟩
   refine Ai.post (rdB C { s with i := s.i + 1, seen := s.seen ++ [(A6 C s).s], sv := w }) ?_
   simp +contextual -dsimp (maxSteps := 2000000) only [↓SD, SU, simprocAttr, rdB, Ab, Aa, List.map_append, List.length_append, Ec]
   have hL := Dt (s := s) (s' := { s with i := s.i + 1, seen := s.seen ++ [(A6 C s).s], sv := w }) (Aax hs k1 ht.2.2.1 w) 2 0 _ (by decide) (by decide) ht.2.2.1 (Nat.le_succ _) (fun h => h)
   unfold rdB at hL
   simp only [List.map_append, List.map_cons, List.map_nil, List.length_append, List.length_cons, List.length_nil, Ec] at hL
   exact hL
 by_cases h1 : (A6 C s).kind = 1
 ·obtain ⟨k1, k2⟩ := hat (by omega)
  simp +contextual -dsimp (maxSteps := 2000000) only [↓SD, SU, simprocAttr, rdB, Ab, Aa, AY, h3, h1, e]
  intro v5
  refine ⟨by omega, ?_⟩
  refine Ai.post (rdB C { s with i := s.i + 1 }) ?_
  simp +contextual -dsimp (maxSteps := 2000000) only [↓SD, SU, simprocAttr, rdB, Ab, Aa]
  exact Dt (s' := { s with i := s.i + 1 }) (Bx hs k1) 3 _ _ (by decide) ht.2.1 hz (Nat.le_succ _) (fun h => h)
 by_cases h4 : (A6 C s).kind = 4
 ·obtain ⟨k1, k2⟩ := hat (by omega)
  have hs1 := Bx hs k1
  simp +contextual -dsimp (maxSteps := 2000000) only [↓SD, SU, simprocAttr, rdB, Ab, Aa, AY, h3, h1, h4, e]
  intro v5
  refine ⟨by omega, fun v6 => ?_⟩
  (refine Ad [2100, 2101] (Be C { s with i := s.i + 1 } hs1) (by first | (simp +contextual -dsimp (maxSteps := 2000000) only [↓SD, SU, simprocAttr, rdB]; done) | (simp +contextual -dsimp (maxSteps := 2000000) only [↓SD, SU, simprocAttr, rdB, Af]; done) | (simp +contextual -dsimp (maxSteps := 2000000) only [↓SD, SU, simprocAttr, rdB, c0]; done)) ?_; rintro r hp' ⟨rfl, rfl⟩)
  have CP := (IH { s with i := s.i + 1 } d hs1 (Nat.lt_succ_self _) (by omega)).2 hd.2
  unfold PaC at CP
  generalize A6 C { s with i := s.i + 1 } = u
  simp +contextual -dsimp (maxSteps := 2000000) only [↓SD, SU, simprocAttr, rdB, Ab, Aa, AY]
  intro v7
  refine Ac _ (CM u) ?_
  simp +contextual -dsimp (maxSteps := 2000000) only [↓SD, SU, simprocAttr, rdB, Ab, Aa]
  (repeat' (first | intro _ | refine And.intro ?_ ?_))
  any_goals (refine Ai.post (rdB C { s with i := s.i + 1 }) ?_; simp +contextual -dsimp (maxSteps := 2000000) only [↓SD, SU, simprocAttr, rdB, Ab, Aa]; exact Dt (s' := { s with i := s.i + 1 }) hs1 4 0 _ (by decide) (by decide) ht.2.2.1 (Nat.le_succ _) (fun h => h))
  all_goals
   (refine Ad [2100, 2101] (CP) (by first | (simp +contextual -dsimp (maxSteps := 2000000) only [↓SD, SU, simprocAttr, rdB]; done) | (simp +contextual -dsimp (maxSteps := 2000000) only [↓SD, SU, simprocAttr, rdB, Af]; done) | (simp +contextual -dsimp (maxSteps := 2000000) only [↓SD, SU, simprocAttr, rdB, c0]; done)) ?_; rintro r hp' ⟨s8, rfl, hs8, hi8, hc8, t, rfl, htw, htn⟩)
   dsimp only at hi8 hc8 htn
   simp +contextual -dsimp (maxSteps := 2000000) only [↓SD, SU, simprocAttr, rdB, Ab, Aa, Qq, Ea, Hu, Es]
   refine Ai.post (rdB C s8) ?_
   simp +contextual -dsimp (maxSteps := 2000000) only [↓SD, SU, simprocAttr, rdB, Ab, Aa]
   exact ⟨s8, rfl, hs8, by omega, hc8, .mk ⟨4, 0, (A6 C s).s⟩ [t], by rw [ps1], Ab7 4 0 _ t (by decide) (by decide) ht.2.2.1 htw, by rw [px1]; omega⟩
 have hsz : ∀ {l : List Nat}, BF (A6 C s) = bs l → bs l ≠ bs [] → (bs l).size ≤ C.m := fun {l} h hne => by
  have h2 := ht.2.2.1
  unfold BF at h
  split at h
  ·rw [← h]; exact h2
  ·exact absurd h.symm hne
 have n10 : (bs [116, 114, 117, 101] = bs [95]) = False := eq_false (by decide)
 have n20 : (bs [102, 97, 108, 115, 101] = bs [95]) = False := eq_false (by decide)
 have n21 : (bs [102, 97, 108, 115, 101] = bs [116, 114, 117, 101]) = False := eq_false (by decide)
 have n30 : (bs [91] = bs [95]) = False := eq_false (by decide)
 have n31 : (bs [91] = bs [116, 114, 117, 101]) = False := eq_false (by decide)
 have n32 : (bs [91] = bs [102, 97, 108, 115, 101]) = False := eq_false (by decide)
 have n40 : (bs [45] = bs [95]) = False := eq_false (by decide)
 have n41 : (bs [45] = bs [116, 114, 117, 101]) = False := eq_false (by decide)
 have n42 : (bs [45] = bs [102, 97, 108, 115, 101]) = False := eq_false (by decide)
 have n43 : (bs [45] = bs [91]) = False := eq_false (by decide)
 have n50 : (bs [40] = bs [95]) = False := eq_false (by decide)
 have n51 : (bs [40] = bs [116, 114, 117, 101]) = False := eq_false (by decide)
 have n52 : (bs [40] = bs [102, 97, 108, 115, 101]) = False := eq_false (by decide)
 have n53 : (bs [40] = bs [91]) = False := eq_false (by decide)
 have n54 : (bs [40] = bs [45]) = False := eq_false (by decide)
 by_cases g0 : BF (A6 C s) = bs [95]
 ·obtain ⟨k1, k2⟩ := Bz hs (by decide) g0
  have hs1 := Bx hs k1
  simp +contextual -dsimp (maxSteps := 2000000) only [↓SD, SU, simprocAttr, rdB, Ab, Aa, AY, h3, h1, h4]
  intro v5
  refine Ac _ (CM (A6 C s)) ?_
  simp +contextual -dsimp (maxSteps := 2000000) only [↓SD, SU, simprocAttr, rdB, Ab, Aa, g0, e]
  refine ⟨by omega, ?_⟩
  refine Ai.post (rdB C { s with i := s.i + 1 }) ?_
  simp +contextual -dsimp (maxSteps := 2000000) only [↓SD, SU, simprocAttr, rdB, Ab, Aa]
  exact Dt (s' := { s with i := s.i + 1 }) (Bx hs k1) 1 0 (bs []) (by decide) (by decide) hz (Nat.le_succ _) (fun h => h)
 by_cases g1 : BF (A6 C s) = bs [116, 114, 117, 101]
 ·obtain ⟨k1, k2⟩ := Bz hs (by decide) g1
  have hs1 := Bx hs k1
  simp +contextual -dsimp (maxSteps := 2000000) only [↓SD, SU, simprocAttr, rdB, Ab, Aa, AY, h3, h1, h4]
  intro v5
  refine Ac _ (CM (A6 C s)) ?_
  simp +contextual -dsimp (maxSteps := 2000000) only [↓SD, SU, simprocAttr, rdB, Ab, Aa, g1, e, n10]
  refine ⟨by omega, ?_⟩
  refine Ai.post (rdB C { s with i := s.i + 1 }) ?_
  simp +contextual -dsimp (maxSteps := 2000000) only [↓SD, SU, simprocAttr, rdB, Ab, Aa]
  exact Dt (s' := { s with i := s.i + 1 }) (Bx hs k1) 4 0 (bs [116, 114, 117, 101]) (by decide) (by decide) (hsz g1 (by decide)) (Nat.le_succ _) (fun h => h)
 by_cases g2 : BF (A6 C s) = bs [102, 97, 108, 115, 101]
 ·obtain ⟨k1, k2⟩ := Bz hs (by decide) g2
  have hs1 := Bx hs k1
  simp +contextual -dsimp (maxSteps := 2000000) only [↓SD, SU, simprocAttr, rdB, Ab, Aa, AY, h3, h1, h4]
  intro v5
  refine Ac _ (CM (A6 C s)) ?_
  simp +contextual -dsimp (maxSteps := 2000000) only [↓SD, SU, simprocAttr, rdB, Ab, Aa, g2, e, n20, n21]
  refine ⟨by omega, ?_⟩
  refine Ai.post (rdB C { s with i := s.i + 1 }) ?_
  simp +contextual -dsimp (maxSteps := 2000000) only [↓SD, SU, simprocAttr, rdB, Ab, Aa]
  exact Dt (s' := { s with i := s.i + 1 }) (Bx hs k1) 4 0 (bs [102, 97, 108, 115, 101]) (by decide) (by decide) (hsz g2 (by decide)) (Nat.le_succ _) (fun h => h)
 by_cases g3 : BF (A6 C s) = bs [91]
 ·obtain ⟨k1, k2⟩ := Bz hs (by decide) g3
  have hs1 := Bx hs k1
  simp +contextual -dsimp (maxSteps := 2000000) only [↓SD, SU, simprocAttr, rdB, Ab, Aa, AY, h3, h1, h4]
  intro v5
  refine Ac _ (CM (A6 C s)) ?_
  simp +contextual -dsimp (maxSteps := 2000000) only [↓SD, SU, simprocAttr, rdB, Ab, Aa, g3, e, n30, n31, n32]
  refine ⟨by omega, ?_⟩
  (refine Ad [2100, 2101] (A8 C { s with i := s.i + 1 } hs1 (bs [93]) (by decide)) (by first | (simp +contextual -dsimp (maxSteps := 2000000) only [↓SD, SU, simprocAttr, rdB]; done) | (simp +contextual -dsimp (maxSteps := 2000000) only [↓SD, SU, simprocAttr, rdB, Af]; done) | (simp +contextual -dsimp (maxSteps := 2000000) only [↓SD, SU, simprocAttr, rdB, c0]; done)) ?_; rintro r hp' ⟨s2, rfl, hs2, hi2, hc2, rfl, hp2⟩)
  dsimp only at hi2 hc2 hp2
  simp +contextual -dsimp (maxSteps := 2000000) only [↓SD, SU, simprocAttr, rdB, Ab, Aa]
  refine Ai.post (rdB C s2) ?_
  simp +contextual -dsimp (maxSteps := 2000000) only [↓SD, SU, simprocAttr, rdB, Ab, Aa]
  refine Dt hs2 4 0 (bs [91, 93]) (by decide) (by decide) ?_ (by omega) hc2
  rw [show (bs [91, 93]).size = 2 from rfl]
  exact hs.1.2.2.2.2.1
 by_cases g4 : BF (A6 C s) = bs [45]
 ·obtain ⟨k1, k2⟩ := Bz hs (by decide) g4
  have hs1 := Bx hs k1
  simp +contextual -dsimp (maxSteps := 2000000) only [↓SD, SU, simprocAttr, rdB, Ab, Aa, AY, h3, h1, h4]
  intro v5
  refine Ac _ (CM (A6 C s)) ?_
  simp +contextual -dsimp (maxSteps := 2000000) only [↓SD, SU, simprocAttr, rdB, Ab, Aa, g4, e, n40, n41, n42, n43]
  refine ⟨by omega, ?_⟩
  (refine Ad [2100, 2101] (Be C { s with i := s.i + 1 } hs1) (by first | (simp +contextual -dsimp (maxSteps := 2000000) only [↓SD, SU, simprocAttr, rdB]; done) | (simp +contextual -dsimp (maxSteps := 2000000) only [↓SD, SU, simprocAttr, rdB, Af]; done) | (simp +contextual -dsimp (maxSteps := 2000000) only [↓SD, SU, simprocAttr, rdB, c0]; done)) ?_; rintro r hp' ⟨rfl, rfl⟩)
  obtain ⟨hu, _⟩ := Cw hs1
  generalize A6 C { s with i := s.i + 1 } = u at *
  simp +contextual -dsimp (maxSteps := 2000000) only [↓SD, SU, simprocAttr, rdB, Ab, Aa, AY]
  intro v10
  (refine Ad [2100, 2101] (BX C { s with i := s.i + 1 } hs1 1 (by decide)) (by first | (simp +contextual -dsimp (maxSteps := 2000000) only [↓SD, SU, simprocAttr, rdB]; done) | (simp +contextual -dsimp (maxSteps := 2000000) only [↓SD, SU, simprocAttr, rdB, Af]; done) | (simp +contextual -dsimp (maxSteps := 2000000) only [↓SD, SU, simprocAttr, rdB, c0]; done)) ?_; rintro r hp' ⟨s2, rfl, hs2, hi2, hc2, x, rfl, hx, hp2⟩)
  dsimp only at hi2 hc2 hp2
  have hu2 := hu.2.1
  simp +contextual -dsimp (maxSteps := 2000000) only [↓SD, SU, simprocAttr, rdB, Ab, Aa]
  refine ⟨by omega, ?_⟩
  refine Ai.post (rdB C s2) ?_
  simp +contextual -dsimp (maxSteps := 2000000) only [↓SD, SU, simprocAttr, rdB, Ab, Aa]
  exact Dt hs2 3 _ (bs []) (by decide) (by omega) hz (by omega) hc2
 by_cases g5 : BF (A6 C s) = bs [40]
 ·obtain ⟨k1, k2⟩ := Bz hs (by decide) g5
  have hs1 := Bx hs k1
  simp +contextual -dsimp (maxSteps := 2000000) only [↓SD, SU, simprocAttr, rdB, Ab, Aa, AY, h3, h1, h4]
  intro v5
  refine Ac _ (CM (A6 C s)) ?_
  simp +contextual -dsimp (maxSteps := 2000000) only [↓SD, SU, simprocAttr, rdB, Ab, Aa, g5, e, n50, n51, n52, n53, n54]
  refine ⟨by omega, ?_⟩
  have CI := BP C { s with i := s.i + 1 } hs1 (bs [41])
  by_cases hcl : BF (A6 C { s with i := s.i + 1 }) = bs [41]
  ·obtain ⟨j1, j2⟩ := Bz hs1 (by decide) hcl
   dsimp only at j1 j2
   have e2 : ((s.i + 1 : Nat) : Int) + 1 = ((s.i + 2 : Nat) : Int) := by omega
   rw [decide_eq_true hcl] at CI
   (refine Ad [2100, 2101] (CI) (by first | (simp +contextual -dsimp (maxSteps := 2000000) only [↓SD, SU, simprocAttr, rdB]; done) | (simp +contextual -dsimp (maxSteps := 2000000) only [↓SD, SU, simprocAttr, rdB, Af]; done) | (simp +contextual -dsimp (maxSteps := 2000000) only [↓SD, SU, simprocAttr, rdB, c0]; done)) ?_; rintro r hp' ⟨rfl, rfl⟩)
   simp +contextual -dsimp (maxSteps := 2000000) only [↓SD, SU, simprocAttr, rdB, Ab, Aa, e2]
   refine ⟨by omega, ?_⟩
   refine Ai.post (rdB C { s with i := s.i + 2 }) ?_
   simp +contextual -dsimp (maxSteps := 2000000) only [↓SD, SU, simprocAttr, rdB, Ab, Aa]
   exact Dt (s' := { s with i := s.i + 2 }) (Bx hs1 j1) 6 0 (bs []) (by decide) (by decide) hz (by dsimp only; omega) (fun h => h)
  ·rw [decide_eq_false hcl] at CI
   (refine Ad [2100, 2101] (CI) (by first | (simp +contextual -dsimp (maxSteps := 2000000) only [↓SD, SU, simprocAttr, rdB]; done) | (simp +contextual -dsimp (maxSteps := 2000000) only [↓SD, SU, simprocAttr, rdB, Af]; done) | (simp +contextual -dsimp (maxSteps := 2000000) only [↓SD, SU, simprocAttr, rdB, c0]; done)) ?_; rintro r hp' ⟨rfl, rfl⟩)
   simp +contextual -dsimp (maxSteps := 2000000) only [↓SD, SU, simprocAttr, rdB, Ab, Aa]
   refine ⟨by omega, ?_⟩
   have CP := (IH { s with i := s.i + 1 } (d + 1) hs1 (Nat.lt_succ_self _) (by omega)).1
   unfold Uh at CP
   (refine Ad [2100, 2101] (CP) (by first | (simp +contextual -dsimp (maxSteps := 2000000) only [↓SD, SU, simprocAttr, rdB]; done) | (simp +contextual -dsimp (maxSteps := 2000000) only [↓SD, SU, simprocAttr, rdB, Af]; done) | (simp +contextual -dsimp (maxSteps := 2000000) only [↓SD, SU, simprocAttr, rdB, c0]; done)) ?_; rintro r hp' ⟨s2, rfl, hs2, hi2, hc2, a, rfl, haw, han⟩)
   dsimp only at hi2 hc2 han
   have hsm2 := hs2.small
   simp +contextual -dsimp (maxSteps := 2000000) only [↓SD, SU, simprocAttr, rdB, Ab, Aa, Ea, Hu, Es, D0]
   intro v11
   have CJ := BP C s2 hs2 (bs [44])
   by_cases hcm : BF (A6 C s2) = bs [44]
   ·obtain ⟨j1, j2⟩ := Bz hs2 (by decide) hcm
    have e2 : (s2.i : Int) + 1 = ((s2.i + 1 : Nat) : Int) := by omega
    have hs3 := Bx hs2 j1
    rw [decide_eq_true hcm] at CJ
    (refine Ad [2100, 2101] (CJ) (by first | (simp +contextual -dsimp (maxSteps := 2000000) only [↓SD, SU, simprocAttr, rdB]; done) | (simp +contextual -dsimp (maxSteps := 2000000) only [↓SD, SU, simprocAttr, rdB, Af]; done) | (simp +contextual -dsimp (maxSteps := 2000000) only [↓SD, SU, simprocAttr, rdB, c0]; done)) ?_; rintro r hp' ⟨rfl, rfl⟩)
    simp +contextual -dsimp (maxSteps := 2000000) only [↓SD, SU, simprocAttr, rdB, Ab, Aa, e2]
    refine ⟨by omega, by omega, ?_⟩
    have CQ := (IH { s2 with i := s2.i + 1 } (d + 1) hs3 (by dsimp only; omega) (by omega)).1
    unfold Uh at CQ
    (refine Ad [2100, 2101] (CQ) (by first | (simp +contextual -dsimp (maxSteps := 2000000) only [↓SD, SU, simprocAttr, rdB]; done) | (simp +contextual -dsimp (maxSteps := 2000000) only [↓SD, SU, simprocAttr, rdB, Af]; done) | (simp +contextual -dsimp (maxSteps := 2000000) only [↓SD, SU, simprocAttr, rdB, c0]; done)) ?_; rintro r hp' ⟨s4, rfl, hs4, hi4, hc4, b, rfl, hbw, hbn⟩)
    dsimp only at hi4 hc4 hbn
    simp +contextual -dsimp (maxSteps := 2000000) only [↓SD, SU, simprocAttr, rdB, Ab, Aa, Qq, Ea, Hu, Es, D0]
    intro v12
    (refine Ad [2100, 2101] (A8 C s4 hs4 (bs [41]) (by decide)) (by first | (simp +contextual -dsimp (maxSteps := 2000000) only [↓SD, SU, simprocAttr, rdB]; done) | (simp +contextual -dsimp (maxSteps := 2000000) only [↓SD, SU, simprocAttr, rdB, Af]; done) | (simp +contextual -dsimp (maxSteps := 2000000) only [↓SD, SU, simprocAttr, rdB, c0]; done)) ?_; rintro r hp' ⟨s5, rfl, hs5, hi5, hc5, rfl, hp5⟩)
    simp +contextual -dsimp (maxSteps := 2000000) only [↓SD, SU, simprocAttr, rdB, Ab, Aa, Ea, Hu, Es, D0]
    refine Ai.post (rdB C s5) ?_
    simp +contextual -dsimp (maxSteps := 2000000) only [↓SD, SU, simprocAttr, rdB, Ab, Aa]
    exact ⟨s5, rfl, hs5, by omega, fun h => hc2 (hc4 (hc5 h)), .mk ⟨5, 0, bs []⟩ [a, b], by rw [ps2], Ab6 5 0 _ a b (by decide) (by decide) hz haw hbw, by rw [px2]; omega⟩
   ·rw [decide_eq_false hcm] at CJ
    (refine Ad [2100, 2101] (CJ) (by first | (simp +contextual -dsimp (maxSteps := 2000000) only [↓SD, SU, simprocAttr, rdB]; done) | (simp +contextual -dsimp (maxSteps := 2000000) only [↓SD, SU, simprocAttr, rdB, Af]; done) | (simp +contextual -dsimp (maxSteps := 2000000) only [↓SD, SU, simprocAttr, rdB, c0]; done)) ?_; rintro r hp' ⟨rfl, rfl⟩)
    simp +contextual -dsimp (maxSteps := 2000000) only [↓SD, SU, simprocAttr, rdB, Ab, Aa]
    (refine Ad [2100, 2101] (A8 C s2 hs2 (bs [41]) (by decide)) (by first | (simp +contextual -dsimp (maxSteps := 2000000) only [↓SD, SU, simprocAttr, rdB]; done) | (simp +contextual -dsimp (maxSteps := 2000000) only [↓SD, SU, simprocAttr, rdB, Af]; done) | (simp +contextual -dsimp (maxSteps := 2000000) only [↓SD, SU, simprocAttr, rdB, c0]; done)) ?_; rintro r hp' ⟨s5, rfl, hs5, hi5, hc5, rfl, hp5⟩)
    simp +contextual -dsimp (maxSteps := 2000000) only [↓SD, SU, simprocAttr, rdB, Ab, Aa, Ea, Hu, Es, D0]
    refine Ai.post (rdB C s5) ?_
    simp +contextual -dsimp (maxSteps := 2000000) only [↓SD, SU, simprocAttr, rdB, Ab, Aa, Es, Ea, D0]
    exact ⟨s5, rfl, hs5, by omega, fun h => hc2 (hc5 h), a, rfl, haw, by omega⟩
 simp +contextual -dsimp (maxSteps := 2000000) only [↓SD, SU, simprocAttr, rdB, Ab, Aa, AY, h3, h1, h4]
 intro v5
 refine Ac _ (CM (A6 C s)) ?_
 simp +contextual -dsimp (maxSteps := 2000000) only [↓SD, SU, simprocAttr, rdB, Ab, Aa, g0, g1, g2, g3, g4, g5]
 (refine Ad [2100, 2101] (B4 C s hs 7 (by omega)) (by first | (simp +contextual -dsimp (maxSteps := 2000000) only [↓SD, SU, simprocAttr, rdB]; done) | (simp +contextual -dsimp (maxSteps := 2000000) only [↓SD, SU, simprocAttr, rdB, Af]; done) | (simp +contextual -dsimp (maxSteps := 2000000) only [↓SD, SU, simprocAttr, rdB, c0]; done)) ?_; rintro r hp' ⟨s1, rfl, hs1, hi1, hc1, rfl, _, _⟩)
 simp +contextual -dsimp (maxSteps := 2000000) only [↓SD, SU, simprocAttr, rdB, Ab, Aa]
 refine Ai.post (rdB C s1) ?_
 simp +contextual -dsimp (maxSteps := 2000000) only [↓SD, SU, simprocAttr, rdB, Ab, Aa]
 exact Dt hs1 0 0 (bs []) (by decide) (by decide) hz hi1 hc1
set_option maxHeartbeats 1000000 in
theorem UZ (C : RC) : ∀ (n : Nat) (s : RS), Bm C s → C.L.length - s.i = n → ∀ d : Int, 0 ≤ d ∧ d ≤ 200 → Uh C s d ∧ (d ≤ 100 → PaC C s d) := by
 intro n
 induction n using Nat.strongRecOn with
 | ind n ihn =>
 intro s hs hn d hd
 have IH : ∀ s1 d, Bm C s1 → s.i < s1.i → 0 ≤ d ∧ d ≤ 200 → Uh C s1 d ∧ (d ≤ 100 → PaC C s1 d) := fun s1 d h1 h2 h3 => ihn (C.L.length - s1.i) (by have := h1.2.1; omega) s1 h1 rfl d h3
 have CA : d ≤ 100 → PaC C s d := fun h => Sx C s hs d ⟨hd.1, h⟩ IH
 refine ⟨?_, CA⟩
 have hz : (bs []).size ≤ C.m := Nat.zero_le _
 unfold Uh
 refine DA.H rfl ?_
 by_cases hc : s.code = 0
 case neg =>
  have c0 := hc
  simp +contextual -dsimp (maxSteps := 2000000) only [↓SD, SU, simprocAttr, rdB, Ab, Aa, DA, hc]
  intro v4
  refine Ai.post (rdB C s) ?_
  simp +contextual -dsimp (maxSteps := 2000000) only [↓SD, SU, simprocAttr, rdB, Ab, Aa]
  exact Dt hs 0 0 (bs []) (by decide) (by decide) hz (Nat.le_refl _) (fun h => h)
 have c0 := hc
 by_cases h100 : 100 < d
 ·have CS := MW C s hs (A6 C s)
  cases hb : Jo s.seen (A6 C s) with
  | true =>
   rw [hb] at CS
   simp +contextual -dsimp (maxSteps := 2000000) only [↓SD, SU, simprocAttr, rdB, Ab, Aa, DA, hc, h100]
   intro v4
   (refine Ad [2100, 2101] (Be C s hs) (by first | (simp +contextual -dsimp (maxSteps := 2000000) only [↓SD, SU, simprocAttr, rdB]; done) | (simp +contextual -dsimp (maxSteps := 2000000) only [↓SD, SU, simprocAttr, rdB, Af]; done) | (simp +contextual -dsimp (maxSteps := 2000000) only [↓SD, SU, simprocAttr, rdB, c0]; done)) ?_; rintro r hp' ⟨rfl, rfl⟩)
   simp +contextual -dsimp (maxSteps := 2000000) only [↓SD, SU, simprocAttr, rdB, Ab, Aa, AY, c0]
   (refine Ad [2100, 2101] (CS) (by first | (simp +contextual -dsimp (maxSteps := 2000000) only [↓SD, SU, simprocAttr, rdB]; done) | (simp +contextual -dsimp (maxSteps := 2000000) only [↓SD, SU, simprocAttr, rdB, Af]; done) | (simp +contextual -dsimp (maxSteps := 2000000) only [↓SD, SU, simprocAttr, rdB, c0]; done)) ?_; rintro r hp' ⟨rfl, rfl⟩)
   simp +contextual -dsimp (maxSteps := 2000000) only [↓SD, SU, simprocAttr, rdB, Ab, Aa, c0]
   (refine Ad [2100, 2101] (B4 C s hs 8 (by omega)) (by first | (simp +contextual -dsimp (maxSteps := 2000000) only [↓SD, SU, simprocAttr, rdB]; done) | (simp +contextual -dsimp (maxSteps := 2000000) only [↓SD, SU, simprocAttr, rdB, Af]; done) | (simp +contextual -dsimp (maxSteps := 2000000) only [↓SD, SU, simprocAttr, rdB, c0]; done)) ?_; rintro r hp' ⟨s1, rfl, hs1, hi1, hc1, rfl, _, _⟩)
   simp +contextual -dsimp (maxSteps := 2000000) only [↓SD, SU, simprocAttr, rdB, Ab, Aa]
   refine Ai.post (rdB C s1) ?_
   simp +contextual -dsimp (maxSteps := 2000000) only [↓SD, SU, simprocAttr, rdB, Ab, Aa]
   exact Dt hs1 0 0 (bs []) (by decide) (by decide) hz hi1 hc1
  | false =>
   rw [hb] at CS
   simp +contextual -dsimp (maxSteps := 2000000) only [↓SD, SU, simprocAttr, rdB, Ab, Aa, DA, hc, h100]
   intro v4
   (refine Ad [2100, 2101] (Be C s hs) (by first | (simp +contextual -dsimp (maxSteps := 2000000) only [↓SD, SU, simprocAttr, rdB]; done) | (simp +contextual -dsimp (maxSteps := 2000000) only [↓SD, SU, simprocAttr, rdB, Af]; done) | (simp +contextual -dsimp (maxSteps := 2000000) only [↓SD, SU, simprocAttr, rdB, c0]; done)) ?_; rintro r hp' ⟨rfl, rfl⟩)
   simp +contextual -dsimp (maxSteps := 2000000) only [↓SD, SU, simprocAttr, rdB, Ab, Aa, AY, c0]
   (refine Ad [2100, 2101] (CS) (by first | (simp +contextual -dsimp (maxSteps := 2000000) only [↓SD, SU, simprocAttr, rdB]; done) | (simp +contextual -dsimp (maxSteps := 2000000) only [↓SD, SU, simprocAttr, rdB, Af]; done) | (simp +contextual -dsimp (maxSteps := 2000000) only [↓SD, SU, simprocAttr, rdB, c0]; done)) ?_; rintro r hp' ⟨rfl, rfl⟩)
   simp +contextual -dsimp (maxSteps := 2000000) only [↓SD, SU, simprocAttr, rdB, Ab, Aa, c0, h100]
   (refine Ad [2100, 2101] (Ok C s hs) (by first | (simp +contextual -dsimp (maxSteps := 2000000) only [↓SD, SU, simprocAttr, rdB]; done) | (simp +contextual -dsimp (maxSteps := 2000000) only [↓SD, SU, simprocAttr, rdB, Af]; done) | (simp +contextual -dsimp (maxSteps := 2000000) only [↓SD, SU, simprocAttr, rdB, c0]; done)) ?_; rintro r hp' ⟨b, rfl, rfl⟩)
   simp +contextual -dsimp (maxSteps := 2000000) only [↓SD, SU, simprocAttr, rdB, Ab, Aa, c0]
   (refine Ad [2100, 2101] (JS C s hs b) (by first | (simp +contextual -dsimp (maxSteps := 2000000) only [↓SD, SU, simprocAttr, rdB]; done) | (simp +contextual -dsimp (maxSteps := 2000000) only [↓SD, SU, simprocAttr, rdB, Af]; done) | (simp +contextual -dsimp (maxSteps := 2000000) only [↓SD, SU, simprocAttr, rdB, c0]; done)) ?_; rintro r hp' ⟨s1, rfl, hs1, hi1, hc1, rfl, _, _⟩)
   simp +contextual -dsimp (maxSteps := 2000000) only [↓SD, SU, simprocAttr, rdB, Ab, Aa]
   refine Ai.post (rdB C s1) ?_
   simp +contextual -dsimp (maxSteps := 2000000) only [↓SD, SU, simprocAttr, rdB, Ab, Aa]
   exact Dt hs1 0 0 (bs []) (by decide) (by decide) hz hi1 hc1
 have CP := CA (by omega)
 unfold PaC at CP
 simp +contextual -dsimp (maxSteps := 2000000) only [↓SD, SU, simprocAttr, rdB, Ab, Aa, DA, hc, h100]
 intro v4
 (refine Ad [2100, 2101] (CP) (by first | (simp +contextual -dsimp (maxSteps := 2000000) only [↓SD, SU, simprocAttr, rdB]; done) | (simp +contextual -dsimp (maxSteps := 2000000) only [↓SD, SU, simprocAttr, rdB, Af]; done) | (simp +contextual -dsimp (maxSteps := 2000000) only [↓SD, SU, simprocAttr, rdB, c0]; done)) ?_; rintro r hp' ⟨s2, rfl, hs2, hi2, hc2, a, rfl, haw, han⟩)
 have hsm2 := hs2.small
 simp +contextual -dsimp (maxSteps := 2000000) only [↓SD, SU, simprocAttr, rdB, Ab, Aa, Ea, Hu, Es, D0]
 intro v5
 have CJ := BP C s2 hs2 (bs [58, 58])
 clear c0
 by_cases hcm : BF (A6 C s2) = bs [58, 58]
 ·obtain ⟨j1, j2⟩ := Bz hs2 (by decide) hcm
  have e2 : (s2.i : Int) + 1 = ((s2.i + 1 : Nat) : Int) := by omega
  have hs3 := Bx hs2 j1
  rw [decide_eq_true hcm] at CJ
  (refine Ad [2100, 2101] (CJ) (by first | (simp +contextual -dsimp (maxSteps := 2000000) only [↓SD, SU, simprocAttr, rdB]; done) | (simp +contextual -dsimp (maxSteps := 2000000) only [↓SD, SU, simprocAttr, rdB, Af]; done) | (simp +contextual -dsimp (maxSteps := 2000000) only [↓SD, SU, simprocAttr, rdB, c0]; done)) ?_; rintro r hp' ⟨rfl, rfl⟩)
  simp +contextual -dsimp (maxSteps := 2000000) only [↓SD, SU, simprocAttr, rdB, Ab, Aa, e2]
  refine ⟨by omega, by omega, ?_⟩
  have CQ := (IH { s2 with i := s2.i + 1 } (d + 1) hs3 (by dsimp only; omega) (by omega)).1
  unfold Uh at CQ
  (refine Ad [2100, 2101] (CQ) (by first | (simp +contextual -dsimp (maxSteps := 2000000) only [↓SD, SU, simprocAttr, rdB]; done) | (simp +contextual -dsimp (maxSteps := 2000000) only [↓SD, SU, simprocAttr, rdB, Af]; done) | (simp +contextual -dsimp (maxSteps := 2000000) only [↓SD, SU, simprocAttr, rdB, c0]; done)) ?_; rintro r hp' ⟨s4, rfl, hs4, hi4, hc4, b, rfl, hbw, hbn⟩)
  dsimp only at hi4 hc4 hbn
  simp +contextual -dsimp (maxSteps := 2000000) only [↓SD, SU, simprocAttr, rdB, Ab, Aa, Qq, Ea, Hu, Es, D0]
  intro v6
  refine Ai.post (rdB C s4) ?_
  simp +contextual -dsimp (maxSteps := 2000000) only [↓SD, SU, simprocAttr, rdB, Ab, Aa, Ea]
  have hs2 : (bs [58, 58]).size ≤ C.m := by rw [show (bs [58, 58]).size = 2 from rfl]; exact hs.1.2.2.2.2.1
  exact ⟨s4, rfl, hs4, by omega, fun h => hc2 (hc4 h), .mk ⟨4, 0, bs [58, 58]⟩ [.mk ⟨5, 0, bs []⟩ [a, b]], by rw [ps1, ps2], Ab7 4 0 _ _ (by decide) (by decide) hs2 (Ab6 5 0 _ a b (by decide) (by decide) hz haw hbw), by rw [px1, px2]; omega⟩
 ·rw [decide_eq_false hcm] at CJ
  (refine Ad [2100, 2101] (CJ) (by first | (simp +contextual -dsimp (maxSteps := 2000000) only [↓SD, SU, simprocAttr, rdB]; done) | (simp +contextual -dsimp (maxSteps := 2000000) only [↓SD, SU, simprocAttr, rdB, Af]; done) | (simp +contextual -dsimp (maxSteps := 2000000) only [↓SD, SU, simprocAttr, rdB, c0]; done)) ?_; rintro r hp' ⟨rfl, rfl⟩)
  simp +contextual -dsimp (maxSteps := 2000000) only [↓SD, SU, simprocAttr, rdB, Ab, Aa, Ea, Hu, Es, D0]
  refine Ai.post (rdB C s2) ?_
  simp +contextual -dsimp (maxSteps := 2000000) only [↓SD, SU, simprocAttr, rdB, Ab, Aa, Es, Ea, D0]
  exact ⟨s2, rfl, hs2, hi2, hc2, a, rfl, haw, han⟩
end Go.Proofs.YtoffpbehgncakaaGreat
