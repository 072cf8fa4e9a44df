/-
 PATTERNS TAKEN BY THE REFERENCE'S READER, told weakly: some tree within bounds. Conditions: none.
-/
import Derived.Test.YteeiaaogmjbcjaaGreatUReadT
import Derived.Test.YteeiaaogmjbcjaaGreatUJ24
set_option linter.unusedVariables false
set_option linter.unusedSimpArgs false
set_option maxRecDepth 100000
namespace Go.Proofs.YteeiaaogmjbcjaaGreat
open Go.RowKit Go.Proofs.YteeiaaogmjbcjaaGreat.Av Go.Proofs.YteeiaaogmjbcjaaGreat.Ml
open Go.Proofs.YteeiaaogmjbcjaaGreat.Av.AVal (av)

def Ab8 (C : RC) (s : RS) (s' : RS) (r : AV) : Prop := ∃ t : Px, r = psA t ∧ PxW C.m t ∧ pxN t + 3 * s.i ≤ 3 * s'.i + 1
def PaC (C : RC) (s : RS) (d : Int) : Prop := AH Tryz.prog 164 [.ptr 2100 C.v 0 0, .int .i64 d] (rdB C s) (RP C s (Ab8 C s))
def T7 (C : RC) (s : RS) (d : Int) : Prop := AH Tryz.prog 155 [.ptr 2100 C.v 0 0, .int .i64 d] (rdB C s) (RP C s (Ab8 C s))
theorem px0 (n : Hd) : pxN (.mk n []) = 1 := by simp [pxN, Bg]
theorem px1 (n : Hd) (a : Px) : pxN (.mk n [a]) = 1 + pxN a := by simp [pxN, Bg]
theorem px2 (n : Hd) (a b : Px) : pxN (.mk n [a, b]) = 1 + pxN a + pxN b := by simp [pxN, Bg]; omega
theorem LY {m : Nat} (k n : Int) (s : ByteArray) (h1 : 0 ≤ k ∧ k ≤ 7) (h2 : -9000000000000000000 ≤ n ∧ n ≤ 9000000000000000000) (h3 : s.size ≤ m) : PxW m (.mk ⟨k, n, s⟩ []) := .mk _ _ h1 h2 h3 (by simp) (fun k hk => by cases hk)
theorem AaU {m : Nat} (k n : Int) (s : ByteArray) (a : Px) (h1 : 0 ≤ k ∧ k ≤ 7) (h2 : -9000000000000000000 ≤ n ∧ n ≤ 9000000000000000000) (h3 : s.size ≤ m) (ha : PxW m a) : PxW m (.mk ⟨k, n, s⟩ [a]) := .mk _ _ h1 h2 h3 (by simp) (fun k hk => by rw [List.mem_singleton.1 hk]; exact ha)
theorem Y4 {m : Nat} (k n : Int) (s : ByteArray) (a b : Px) (h1 : 0 ≤ k ∧ k ≤ 7) (h2 : -9000000000000000000 ≤ n ∧ n ≤ 9000000000000000000) (h3 : s.size ≤ m) (ha : PxW m a) (hb : PxW m b) : PxW m (.mk ⟨k, n, s⟩ [a, b]) := .mk _ _ h1 h2 h3 (by simp) (fun k hk => by
 rcases List.mem_cons.1 hk with rfl | hk
 ·exact ha
 ·rw [List.mem_singleton.1 hk]; exact hb)
theorem ps0 (n : Hd) : psA (.mk n []) = .agg [.int .i64 n.kind, .int .i64 n.n, .str n.s, .Au, .Au] := by rw [Ds]; rfl
theorem ps1 (n : Hd) (a : Px) : psA (.mk n [a]) = .agg [.int .i64 n.kind, .int .i64 n.n, .str n.s, .Au, .sl [psA a]] := by rw [Ds]; rfl
theorem ps2 (n : Hd) (a b : Px) : psA (.mk n [a, b]) = .agg [.int .i64 n.kind, .int .i64 n.n, .str n.s, .Au, .sl [psA a, psA b]] := by rw [Ds]; rfl
theorem Cz (t : Px) : AV.agg (List.take 5 (psA t).cells) = psA t := by cases t with | mk n ks => rw [Ds]; rfl
theorem Dw {C : RC} {s s' : RS} (hs : Bc C s') (k n : Int) (x : ByteArray) (h1 : 0 ≤ k ∧ k ≤ 7) (h2 : -9000000000000000000 ≤ n ∧ n ≤ 9000000000000000000) (h3 : x.size ≤ C.m) (hi : s.i ≤ s'.i) (hc : s'.code = 0 → s.code = 0) : RP C s (Ab8 C s) (.agg [.int .i64 k, .int .i64 n, .str x, .Au, .Au]) (rdB C s') :=
 ⟨s', rfl, hs, hi, hc, .mk ⟨k, n, x⟩ [], by rw [ps0], LY k n x h1 h2 h3, by rw [px0]; omega⟩
theorem AaM {C : RC} {s : RS} (hs : Bc C s) (h : s.i < C.L.length) {x : ByteArray} (hx : x.size ≤ C.m) (v : Nat) : Bc C { s with i := s.i + 1, seen := s.seen ++ [x], sv := v } := by
 obtain ⟨g0, g1, g2, g3, g4, g5, g6⟩ := hs
 exact ⟨g0, h, g2, g3, g4, by simp only [List.length_append, List.length_cons, List.length_nil]; omega, fun y hy => by
  rcases List.mem_append.1 hy with h | h
  ·exact g6 y h
  ·rw [List.mem_singleton.1 h]; exact hx⟩
set_option maxHeartbeats 4000000 in
theorem Sr (C : RC) (s : RS) (hs : Bc C s) (d : Int) (hd : 0 ≤ d ∧ d ≤ 100) (IH : ∀ s1 d, Bc C s1 → s.i < s1.i → 0 ≤ d ∧ d ≤ 200 → T7 C s1 d ∧ (d ≤ 100 → PaC C s1 d)) : PaC C s d := by
 obtain ⟨ht, hat⟩ := Cv hs
 have hsm := hs.small
 have e : (s.i : Int) + 1 = ((s.i + 1 : Nat) : Int) := by omega
 have hz : (bs []).size ≤ C.m := Nat.zero_le _
 have hm1 : s.i < C.L.length → 1 ≤ C.m := fun h => by have := hs.1.1; omega
 unfold PaC
 refine GM.H rfl ?_
 simp +contextual -dsimp (maxSteps := 2000000) only [↓SD, SU, simprocAttr, rdB, Ab, Aa, GM]
 intro v4
 (refine Ac [2100, 2101] (A1 C s hs) (by first | (simp +contextual -dsimp (maxSteps := 2000000) only [↓SD, SU, simprocAttr, rdB]; done) | (simp +contextual -dsimp (maxSteps := 2000000) only [↓SD, SU, simprocAttr, rdB, Ae]; done) | (simp +contextual -dsimp (maxSteps := 2000000) only [↓SD, SU, simprocAttr, rdB, c0]; done)) ?_; rintro r hp' ⟨rfl, rfl⟩)
 by_cases h3 : (AX C s).kind = 3
 ·obtain ⟨k1, k2⟩ := hat (by omega)
  have CS := MX C s hs (AX C s)
  rw [h3] at CS
  have hsl : (s.seen.map (av : ByteArray → AV)).length = s.seen.length := List.length_map _
  have hst : List.take s.seen.length (s.seen.map (av : ByteArray → AV)) = s.seen.map av := List.take_of_length_le (by simp)
  have hsn : s.seen.length ≤ s.i := hs.2.2.2.2.2.1
  cases hb : Jh s.seen (AX C s) with
  | true =>
   rw [hb] at CS
   simp +contextual -dsimp (maxSteps := 2000000) only [↓SD, SU, simprocAttr, rdB, Ab, Aa, AQ, h3]
   intro v5
   (refine Ac [2100, 2101] (CS) (by first | (simp +contextual -dsimp (maxSteps := 2000000) only [↓SD, SU, simprocAttr, rdB]; done) | (simp +contextual -dsimp (maxSteps := 2000000) only [↓SD, SU, simprocAttr, rdB, Ae]; done) | (simp +contextual -dsimp (maxSteps := 2000000) only [↓SD, SU, simprocAttr, rdB, c0]; done)) ?_; rintro r hp' ⟨rfl, rfl⟩)
   simp +contextual -dsimp (maxSteps := 2000000) only [↓SD, SU, simprocAttr, rdB, Ab, Aa]
   (refine Ac [2100, 2101] (BX C s hs 8 (by omega)) (by first | (simp +contextual -dsimp (maxSteps := 2000000) only [↓SD, SU, simprocAttr, rdB]; done) | (simp +contextual -dsimp (maxSteps := 2000000) only [↓SD, SU, simprocAttr, rdB, Ae]; done) | (simp +contextual -dsimp (maxSteps := 2000000) only [↓SD, SU, simprocAttr, rdB, c0]; done)) ?_; rintro r hp' ⟨s1, rfl, hs1, hi1, hc1, rfl, _, _⟩)
   simp +contextual -dsimp (maxSteps := 2000000) only [↓SD, SU, simprocAttr, rdB, Ab, Aa]
   refine Ai.post (rdB C s1) ?_
   simp +contextual -dsimp (maxSteps := 2000000) only [↓SD, SU, simprocAttr, rdB, Ab, Aa]
   exact Dw hs1 0 0 (bs []) (by decide) (by decide) hz hi1 hc1
  | false =>
   rw [hb] at CS
   simp +contextual -dsimp (maxSteps := 2000000) only [↓SD, SU, simprocAttr, rdB, Ab, Aa, AQ, h3]
   intro v5
   (refine Ac [2100, 2101] (CS) (by first | (simp +contextual -dsimp (maxSteps := 2000000) only [↓SD, SU, simprocAttr, rdB]; done) | (simp +contextual -dsimp (maxSteps := 2000000) only [↓SD, SU, simprocAttr, rdB, Ae]; done) | (simp +contextual -dsimp (maxSteps := 2000000) only [↓SD, SU, simprocAttr, rdB, c0]; done)) ?_; rintro r hp' ⟨rfl, rfl⟩)
   simp +contextual -dsimp (maxSteps := 2000000) only [↓SD, SU, simprocAttr, rdB, Ab, Aa, e, hsl, hst]
   refine ⟨⟨by omega, by unfold maxLen; omega⟩, fun w => ⟨by omega, ?_⟩⟩
   refine Ai.post (rdB C { s with i := s.i + 1, seen := s.seen ++ [(AX C s).s], sv := w }) ?_
   simp +contextual -dsimp (maxSteps := 2000000) only [↓SD, SU, simprocAttr, rdB, Ab, Aa, List.map_append, List.length_append, EU]
   have hL := Dw (s := s) (s' := { s with i := s.i + 1, seen := s.seen ++ [(AX C s).s], sv := w }) (AaM hs k1 ht.2.2.1 w) 2 0 _ (by decide) (by decide) ht.2.2.1 (Nat.le_succ _) (fun h => h)
   unfold rdB at hL
   simp only [List.map_append, List.map_cons, List.map_nil, List.length_append, List.length_cons, List.length_nil, EU] at hL
   exact hL
 by_cases h1 : (AX C s).kind = 1
 ·obtain ⟨k1, k2⟩ := hat (by omega)
  simp +contextual -dsimp (maxSteps := 2000000) only [↓SD, SU, simprocAttr, rdB, Ab, Aa, AQ, h3, h1, e]
  intro v5
  refine ⟨by omega, ?_⟩
  refine Ai.post (rdB C { s with i := s.i + 1 }) ?_
  simp +contextual -dsimp (maxSteps := 2000000) only [↓SD, SU, simprocAttr, rdB, Ab, Aa]
  exact Dw (s' := { s with i := s.i + 1 }) (Bl hs k1) 3 _ _ (by decide) ht.2.1 hz (Nat.le_succ _) (fun h => h)
 by_cases h4 : (AX C s).kind = 4
 ·obtain ⟨k1, k2⟩ := hat (by omega)
  have hs1 := Bl hs k1
  simp +contextual -dsimp (maxSteps := 2000000) only [↓SD, SU, simprocAttr, rdB, Ab, Aa, AQ, h3, h1, h4, e]
  intro v5
  refine ⟨by omega, fun v6 => ?_⟩
  (refine Ac [2100, 2101] (A1 C { s with i := s.i + 1 } hs1) (by first | (simp +contextual -dsimp (maxSteps := 2000000) only [↓SD, SU, simprocAttr, rdB]; done) | (simp +contextual -dsimp (maxSteps := 2000000) only [↓SD, SU, simprocAttr, rdB, Ae]; done) | (simp +contextual -dsimp (maxSteps := 2000000) only [↓SD, SU, simprocAttr, rdB, c0]; done)) ?_; rintro r hp' ⟨rfl, rfl⟩)
  have CP := (IH { s with i := s.i + 1 } d hs1 (Nat.lt_succ_self _) (by omega)).2 hd.2
  unfold PaC at CP
  generalize AX C { s with i := s.i + 1 } = u
  simp +contextual -dsimp (maxSteps := 2000000) only [↓SD, SU, simprocAttr, rdB, Ab, Aa, AQ]
  intro v7
  refine Ag _ (Cy u) ?_
  simp +contextual -dsimp (maxSteps := 2000000) only [↓SD, SU, simprocAttr, rdB, Ab, Aa]
  (repeat' (first | intro _ | refine And.intro ?_ ?_))
  any_goals (refine Ai.post (rdB C { s with i := s.i + 1 }) ?_; simp +contextual -dsimp (maxSteps := 2000000) only [↓SD, SU, simprocAttr, rdB, Ab, Aa]; exact Dw (s' := { s with i := s.i + 1 }) hs1 4 0 _ (by decide) (by decide) ht.2.2.1 (Nat.le_succ _) (fun h => h))
  all_goals
   (refine Ac [2100, 2101] (CP) (by first | (simp +contextual -dsimp (maxSteps := 2000000) only [↓SD, SU, simprocAttr, rdB]; done) | (simp +contextual -dsimp (maxSteps := 2000000) only [↓SD, SU, simprocAttr, rdB, Ae]; done) | (simp +contextual -dsimp (maxSteps := 2000000) only [↓SD, SU, simprocAttr, rdB, c0]; done)) ?_; rintro r hp' ⟨s8, rfl, hs8, hi8, hc8, t, rfl, htw, htn⟩)
   dsimp only at hi8 hc8 htn
   simp +contextual -dsimp (maxSteps := 2000000) only [↓SD, SU, simprocAttr, rdB, Ab, Aa, Qh, CZ, EY, CX]
   refine Ai.post (rdB C s8) ?_
   simp +contextual -dsimp (maxSteps := 2000000) only [↓SD, SU, simprocAttr, rdB, Ab, Aa]
   exact ⟨s8, rfl, hs8, by omega, hc8, .mk ⟨4, 0, (AX C s).s⟩ [t], by rw [ps1], AaU 4 0 _ t (by decide) (by decide) ht.2.2.1 htw, by rw [px1]; omega⟩
 have hsz : ∀ {l : List Nat}, Bv (AX C s) = bs l → bs l ≠ bs [] → (bs l).size ≤ C.m := fun {l} h hne => by
  have h2 := ht.2.2.1
  unfold Bv at h
  split at h
  ·rw [← h]; exact h2
  ·exact absurd h.symm hne
 have n10 : (bs [116, 114, 117, 101] = bs [95]) = False := eq_false (by decide)
 have n20 : (bs [102, 97, 108, 115, 101] = bs [95]) = False := eq_false (by decide)
 have n21 : (bs [102, 97, 108, 115, 101] = bs [116, 114, 117, 101]) = False := eq_false (by decide)
 have n30 : (bs [91] = bs [95]) = False := eq_false (by decide)
 have n31 : (bs [91] = bs [116, 114, 117, 101]) = False := eq_false (by decide)
 have n32 : (bs [91] = bs [102, 97, 108, 115, 101]) = False := eq_false (by decide)
 have n40 : (bs [45] = bs [95]) = False := eq_false (by decide)
 have n41 : (bs [45] = bs [116, 114, 117, 101]) = False := eq_false (by decide)
 have n42 : (bs [45] = bs [102, 97, 108, 115, 101]) = False := eq_false (by decide)
 have n43 : (bs [45] = bs [91]) = False := eq_false (by decide)
 have n50 : (bs [40] = bs [95]) = False := eq_false (by decide)
 have n51 : (bs [40] = bs [116, 114, 117, 101]) = False := eq_false (by decide)
 have n52 : (bs [40] = bs [102, 97, 108, 115, 101]) = False := eq_false (by decide)
 have n53 : (bs [40] = bs [91]) = False := eq_false (by decide)
 have n54 : (bs [40] = bs [45]) = False := eq_false (by decide)
 by_cases g0 : Bv (AX C s) = bs [95]
 ·obtain ⟨k1, k2⟩ := Bm hs (by decide) g0
  have hs1 := Bl hs k1
  simp +contextual -dsimp (maxSteps := 2000000) only [↓SD, SU, simprocAttr, rdB, Ab, Aa, AQ, h3, h1, h4]
  intro v5
  refine Ag _ (Cy (AX C s)) ?_
  simp +contextual -dsimp (maxSteps := 2000000) only [↓SD, SU, simprocAttr, rdB, Ab, Aa, g0, e]
  refine ⟨by omega, ?_⟩
  refine Ai.post (rdB C { s with i := s.i + 1 }) ?_
  simp +contextual -dsimp (maxSteps := 2000000) only [↓SD, SU, simprocAttr, rdB, Ab, Aa]
  exact Dw (s' := { s with i := s.i + 1 }) (Bl hs k1) 1 0 (bs []) (by decide) (by decide) hz (Nat.le_succ _) (fun h => h)
 by_cases g1 : Bv (AX C s) = bs [116, 114, 117, 101]
 ·obtain ⟨k1, k2⟩ := Bm hs (by decide) g1
  have hs1 := Bl hs k1
  simp +contextual -dsimp (maxSteps := 2000000) only [↓SD, SU, simprocAttr, rdB, Ab, Aa, AQ, h3, h1, h4]
  intro v5
  refine Ag _ (Cy (AX C s)) ?_
  simp +contextual -dsimp (maxSteps := 2000000) only [↓SD, SU, simprocAttr, rdB, Ab, Aa, g1, e, n10]
  refine ⟨by omega, ?_⟩
  refine Ai.post (rdB C { s with i := s.i + 1 }) ?_
  simp +contextual -dsimp (maxSteps := 2000000) only [↓SD, SU, simprocAttr, rdB, Ab, Aa]
  exact Dw (s' := { s with i := s.i + 1 }) (Bl hs k1) 4 0 (bs [116, 114, 117, 101]) (by decide) (by decide) (hsz g1 (by decide)) (Nat.le_succ _) (fun h => h)
 by_cases g2 : Bv (AX C s) = bs [102, 97, 108, 115, 101]
 ·obtain ⟨k1, k2⟩ := Bm hs (by decide) g2
  have hs1 := Bl hs k1
  simp +contextual -dsimp (maxSteps := 2000000) only [↓SD, SU, simprocAttr, rdB, Ab, Aa, AQ, h3, h1, h4]
  intro v5
  refine Ag _ (Cy (AX C s)) ?_
  simp +contextual -dsimp (maxSteps := 2000000) only [↓SD, SU, simprocAttr, rdB, Ab, Aa, g2, e, n20, n21]
  refine ⟨by omega, ?_⟩
  refine Ai.post (rdB C { s with i := s.i + 1 }) ?_
  simp +contextual -dsimp (maxSteps := 2000000) only [↓SD, SU, simprocAttr, rdB, Ab, Aa]
  exact Dw (s' := { s with i := s.i + 1 }) (Bl hs k1) 4 0 (bs [102, 97, 108, 115, 101]) (by decide) (by decide) (hsz g2 (by decide)) (Nat.le_succ _) (fun h => h)
 by_cases g3 : Bv (AX C s) = bs [91]
 ·obtain ⟨k1, k2⟩ := Bm hs (by decide) g3
  have hs1 := Bl hs k1
  simp +contextual -dsimp (maxSteps := 2000000) only [↓SD, SU, simprocAttr, rdB, Ab, Aa, AQ, h3, h1, h4]
  intro v5
  refine Ag _ (Cy (AX C s)) ?_
  simp +contextual -dsimp (maxSteps := 2000000) only [↓SD, SU, simprocAttr, rdB, Ab, Aa, g3, e, n30, n31, n32]
  refine ⟨by omega, ?_⟩
  (refine Ac [2100, 2101] (AY C { s with i := s.i + 1 } hs1 (bs [93]) (by decide)) (by first | (simp +contextual -dsimp (maxSteps := 2000000) only [↓SD, SU, simprocAttr, rdB]; done) | (simp +contextual -dsimp (maxSteps := 2000000) only [↓SD, SU, simprocAttr, rdB, Ae]; done) | (simp +contextual -dsimp (maxSteps := 2000000) only [↓SD, SU, simprocAttr, rdB, c0]; done)) ?_; rintro r hp' ⟨s2, rfl, hs2, hi2, hc2, rfl, hp2⟩)
  dsimp only at hi2 hc2 hp2
  simp +contextual -dsimp (maxSteps := 2000000) only [↓SD, SU, simprocAttr, rdB, Ab, Aa]
  refine Ai.post (rdB C s2) ?_
  simp +contextual -dsimp (maxSteps := 2000000) only [↓SD, SU, simprocAttr, rdB, Ab, Aa]
  refine Dw hs2 4 0 (bs [91, 93]) (by decide) (by decide) ?_ (by omega) hc2
  rw [show (bs [91, 93]).size = 2 from rfl]
  exact hs.1.2.2.2.2.1
 by_cases g4 : Bv (AX C s) = bs [45]
 ·obtain ⟨k1, k2⟩ := Bm hs (by decide) g4
  have hs1 := Bl hs k1
  simp +contextual -dsimp (maxSteps := 2000000) only [↓SD, SU, simprocAttr, rdB, Ab, Aa, AQ, h3, h1, h4]
  intro v5
  refine Ag _ (Cy (AX C s)) ?_
  simp +contextual -dsimp (maxSteps := 2000000) only [↓SD, SU, simprocAttr, rdB, Ab, Aa, g4, e, n40, n41, n42, n43]
  refine ⟨by omega, ?_⟩
  (refine Ac [2100, 2101] (A1 C { s with i := s.i + 1 } hs1) (by first | (simp +contextual -dsimp (maxSteps := 2000000) only [↓SD, SU, simprocAttr, rdB]; done) | (simp +contextual -dsimp (maxSteps := 2000000) only [↓SD, SU, simprocAttr, rdB, Ae]; done) | (simp +contextual -dsimp (maxSteps := 2000000) only [↓SD, SU, simprocAttr, rdB, c0]; done)) ?_; rintro r hp' ⟨rfl, rfl⟩)
  obtain ⟨hu, _⟩ := Cv hs1
  generalize AX C { s with i := s.i + 1 } = u at *
  simp +contextual -dsimp (maxSteps := 2000000) only [↓SD, SU, simprocAttr, rdB, Ab, Aa, AQ]
  intro v10
  (refine Ac [2100, 2101] (BO C { s with i := s.i + 1 } hs1 1 (by decide)) (by first | (simp +contextual -dsimp (maxSteps := 2000000) only [↓SD, SU, simprocAttr, rdB]; done) | (simp +contextual -dsimp (maxSteps := 2000000) only [↓SD, SU, simprocAttr, rdB, Ae]; done) | (simp +contextual -dsimp (maxSteps := 2000000) only [↓SD, SU, simprocAttr, rdB, c0]; done)) ?_; rintro r hp' ⟨s2, rfl, hs2, hi2, hc2, x, rfl, hx, hp2⟩)
  dsimp only at hi2 hc2 hp2
  have hu2 := hu.2.1
  simp +contextual -dsimp (maxSteps := 2000000) only [↓SD, SU, simprocAttr, rdB, Ab, Aa]
  refine ⟨by omega, ?_⟩
  refine Ai.post (rdB C s2) ?_
  simp +contextual -dsimp (maxSteps := 2000000) only [↓SD, SU, simprocAttr, rdB, Ab, Aa]
  exact Dw hs2 3 _ (bs []) (by decide) (by omega) hz (by omega) hc2
 by_cases g5 : Bv (AX C s) = bs [40]
 ·obtain ⟨k1, k2⟩ := Bm hs (by decide) g5
  have hs1 := Bl hs k1
  simp +contextual -dsimp (maxSteps := 2000000) only [↓SD, SU, simprocAttr, rdB, Ab, Aa, AQ, h3, h1, h4]
  intro v5
  refine Ag _ (Cy (AX C s)) ?_
  simp +contextual -dsimp (maxSteps := 2000000) only [↓SD, SU, simprocAttr, rdB, Ab, Aa, g5, e, n50, n51, n52, n53, n54]
  refine ⟨by omega, ?_⟩
  have CI := BG C { s with i := s.i + 1 } hs1 (bs [41])
  by_cases hcl : Bv (AX C { s with i := s.i + 1 }) = bs [41]
  ·obtain ⟨j1, j2⟩ := Bm hs1 (by decide) hcl
   dsimp only at j1 j2
   have e2 : ((s.i + 1 : Nat) : Int) + 1 = ((s.i + 2 : Nat) : Int) := by omega
   rw [decide_eq_true hcl] at CI
   (refine Ac [2100, 2101] (CI) (by first | (simp +contextual -dsimp (maxSteps := 2000000) only [↓SD, SU, simprocAttr, rdB]; done) | (simp +contextual -dsimp (maxSteps := 2000000) only [↓SD, SU, simprocAttr, rdB, Ae]; done) | (simp +contextual -dsimp (maxSteps := 2000000) only [↓SD, SU, simprocAttr, rdB, c0]; done)) ?_; rintro r hp' ⟨rfl, rfl⟩)
   simp +contextual -dsimp (maxSteps := 2000000) only [↓SD, SU, simprocAttr, rdB, Ab, Aa, e2]
   refine ⟨by omega, ?_⟩
   refine Ai.post (rdB C { s with i := s.i + 2 }) ?_
   simp +contextual -dsimp (maxSteps := 2000000) only [↓SD, SU, simprocAttr, rdB, Ab, Aa]
   exact Dw (s' := { s with i := s.i + 2 }) (Bl hs1 j1) 6 0 (bs []) (by decide) (by decide) hz (by dsimp only; omega) (fun h => h)
  ·rw [decide_eq_false hcl] at CI
   (refine Ac [2100, 2101] (CI) (by first | (simp +contextual -dsimp (maxSteps := 2000000) only [↓SD, SU, simprocAttr, rdB]; done) | (simp +contextual -dsimp (maxSteps := 2000000) only [↓SD, SU, simprocAttr, rdB, Ae]; done) | (simp +contextual -dsimp (maxSteps := 2000000) only [↓SD, SU, simprocAttr, rdB, c0]; done)) ?_; rintro r hp' ⟨rfl, rfl⟩)
   simp +contextual -dsimp (maxSteps := 2000000) only [↓SD, SU, simprocAttr, rdB, Ab, Aa]
   refine ⟨by omega, ?_⟩
   have CP := (IH { s with i := s.i + 1 } (d + 1) hs1 (Nat.lt_succ_self _) (by omega)).1
   unfold T7 at CP
   (refine Ac [2100, 2101] (CP) (by first | (simp +contextual -dsimp (maxSteps := 2000000) only [↓SD, SU, simprocAttr, rdB]; done) | (simp +contextual -dsimp (maxSteps := 2000000) only [↓SD, SU, simprocAttr, rdB, Ae]; done) | (simp +contextual -dsimp (maxSteps := 2000000) only [↓SD, SU, simprocAttr, rdB, c0]; done)) ?_; rintro r hp' ⟨s2, rfl, hs2, hi2, hc2, a, rfl, haw, han⟩)
   dsimp only at hi2 hc2 han
   have hsm2 := hs2.small
   simp +contextual -dsimp (maxSteps := 2000000) only [↓SD, SU, simprocAttr, rdB, Ab, Aa, CZ, EY, CX, Cz]
   intro v11
   have CJ := BG C s2 hs2 (bs [44])
   by_cases hcm : Bv (AX C s2) = bs [44]
   ·obtain ⟨j1, j2⟩ := Bm hs2 (by decide) hcm
    have e2 : (s2.i : Int) + 1 = ((s2.i + 1 : Nat) : Int) := by omega
    have hs3 := Bl hs2 j1
    rw [decide_eq_true hcm] at CJ
    (refine Ac [2100, 2101] (CJ) (by first | (simp +contextual -dsimp (maxSteps := 2000000) only [↓SD, SU, simprocAttr, rdB]; done) | (simp +contextual -dsimp (maxSteps := 2000000) only [↓SD, SU, simprocAttr, rdB, Ae]; done) | (simp +contextual -dsimp (maxSteps := 2000000) only [↓SD, SU, simprocAttr, rdB, c0]; done)) ?_; rintro r hp' ⟨rfl, rfl⟩)
    simp +contextual -dsimp (maxSteps := 2000000) only [↓SD, SU, simprocAttr, rdB, Ab, Aa, e2]
    refine ⟨by omega, by omega, ?_⟩
    have CQ := (IH { s2 with i := s2.i + 1 } (d + 1) hs3 (by dsimp only; omega) (by omega)).1
    unfold T7 at CQ
    (refine Ac [2100, 2101] (CQ) (by first | (simp +contextual -dsimp (maxSteps := 2000000) only [↓SD, SU, simprocAttr, rdB]; done) | (simp +contextual -dsimp (maxSteps := 2000000) only [↓SD, SU, simprocAttr, rdB, Ae]; done) | (simp +contextual -dsimp (maxSteps := 2000000) only [↓SD, SU, simprocAttr, rdB, c0]; done)) ?_; rintro r hp' ⟨s4, rfl, hs4, hi4, hc4, b, rfl, hbw, hbn⟩)
    dsimp only at hi4 hc4 hbn
    simp +contextual -dsimp (maxSteps := 2000000) only [↓SD, SU, simprocAttr, rdB, Ab, Aa, Qh, CZ, EY, CX, Cz]
    intro v12
    (refine Ac [2100, 2101] (AY C s4 hs4 (bs [41]) (by decide)) (by first | (simp +contextual -dsimp (maxSteps := 2000000) only [↓SD, SU, simprocAttr, rdB]; done) | (simp +contextual -dsimp (maxSteps := 2000000) only [↓SD, SU, simprocAttr, rdB, Ae]; done) | (simp +contextual -dsimp (maxSteps := 2000000) only [↓SD, SU, simprocAttr, rdB, c0]; done)) ?_; rintro r hp' ⟨s5, rfl, hs5, hi5, hc5, rfl, hp5⟩)
    simp +contextual -dsimp (maxSteps := 2000000) only [↓SD, SU, simprocAttr, rdB, Ab, Aa, CZ, EY, CX, Cz]
    refine Ai.post (rdB C s5) ?_
    simp +contextual -dsimp (maxSteps := 2000000) only [↓SD, SU, simprocAttr, rdB, Ab, Aa]
    exact ⟨s5, rfl, hs5, by omega, fun h => hc2 (hc4 (hc5 h)), .mk ⟨5, 0, bs []⟩ [a, b], by rw [ps2], Y4 5 0 _ a b (by decide) (by decide) hz haw hbw, by rw [px2]; omega⟩
   ·rw [decide_eq_false hcm] at CJ
    (refine Ac [2100, 2101] (CJ) (by first | (simp +contextual -dsimp (maxSteps := 2000000) only [↓SD, SU, simprocAttr, rdB]; done) | (simp +contextual -dsimp (maxSteps := 2000000) only [↓SD, SU, simprocAttr, rdB, Ae]; done) | (simp +contextual -dsimp (maxSteps := 2000000) only [↓SD, SU, simprocAttr, rdB, c0]; done)) ?_; rintro r hp' ⟨rfl, rfl⟩)
    simp +contextual -dsimp (maxSteps := 2000000) only [↓SD, SU, simprocAttr, rdB, Ab, Aa]
    (refine Ac [2100, 2101] (AY C s2 hs2 (bs [41]) (by decide)) (by first | (simp +contextual -dsimp (maxSteps := 2000000) only [↓SD, SU, simprocAttr, rdB]; done) | (simp +contextual -dsimp (maxSteps := 2000000) only [↓SD, SU, simprocAttr, rdB, Ae]; done) | (simp +contextual -dsimp (maxSteps := 2000000) only [↓SD, SU, simprocAttr, rdB, c0]; done)) ?_; rintro r hp' ⟨s5, rfl, hs5, hi5, hc5, rfl, hp5⟩)
    simp +contextual -dsimp (maxSteps := 2000000) only [↓SD, SU, simprocAttr, rdB, Ab, Aa, CZ, EY, CX, Cz]
    refine Ai.post (rdB C s5) ?_
    simp +contextual -dsimp (maxSteps := 2000000) only [↓SD, SU, simprocAttr, rdB, Ab, Aa, CX, CZ, Cz]
    exact ⟨s5, rfl, hs5, by omega, fun h => hc2 (hc5 h), a, rfl, haw, by omega⟩
 simp +contextual -dsimp (maxSteps := 2000000) only [↓SD, SU, simprocAttr, rdB, Ab, Aa, AQ, h3, h1, h4]
 intro v5
 refine Ag _ (Cy (AX C s)) ?_
 simp +contextual -dsimp (maxSteps := 2000000) only [↓SD, SU, simprocAttr, rdB, Ab, Aa, g0, g1, g2, g3, g4, g5]
 (refine Ac [2100, 2101] (BX C s hs 7 (by omega)) (by first | (simp +contextual -dsimp (maxSteps := 2000000) only [↓SD, SU, simprocAttr, rdB]; done) | (simp +contextual -dsimp (maxSteps := 2000000) only [↓SD, SU, simprocAttr, rdB, Ae]; done) | (simp +contextual -dsimp (maxSteps := 2000000) only [↓SD, SU, simprocAttr, rdB, c0]; done)) ?_; rintro r hp' ⟨s1, rfl, hs1, hi1, hc1, rfl, _, _⟩)
 simp +contextual -dsimp (maxSteps := 2000000) only [↓SD, SU, simprocAttr, rdB, Ab, Aa]
 refine Ai.post (rdB C s1) ?_
 simp +contextual -dsimp (maxSteps := 2000000) only [↓SD, SU, simprocAttr, rdB, Ab, Aa]
 exact Dw hs1 0 0 (bs []) (by decide) (by decide) hz hi1 hc1
set_option maxHeartbeats 1000000 in
theorem UM (C : RC) : ∀ (n : Nat) (s : RS), Bc C s → C.L.length - s.i = n → ∀ d : Int, 0 ≤ d ∧ d ≤ 200 → T7 C s d ∧ (d ≤ 100 → PaC C s d) := by
 intro n
 induction n using Nat.strongRecOn with
 | ind n ihn =>
 intro s hs hn d hd
 have IH : ∀ s1 d, Bc C s1 → s.i < s1.i → 0 ≤ d ∧ d ≤ 200 → T7 C s1 d ∧ (d ≤ 100 → PaC C s1 d) := fun s1 d h1 h2 h3 => ihn (C.L.length - s1.i) (by have := h1.2.1; omega) s1 h1 rfl d h3
 have CA : d ≤ 100 → PaC C s d := fun h => Sr C s hs d ⟨hd.1, h⟩ IH
 refine ⟨?_, CA⟩
 have hz : (bs []).size ≤ C.m := Nat.zero_le _
 unfold T7
 refine DE.H rfl ?_
 by_cases hc : s.code = 0
 case neg =>
  have c0 := hc
  simp +contextual -dsimp (maxSteps := 2000000) only [↓SD, SU, simprocAttr, rdB, Ab, Aa, DE, hc]
  intro v4
  refine Ai.post (rdB C s) ?_
  simp +contextual -dsimp (maxSteps := 2000000) only [↓SD, SU, simprocAttr, rdB, Ab, Aa]
  exact Dw hs 0 0 (bs []) (by decide) (by decide) hz (Nat.le_refl _) (fun h => h)
 have c0 := hc
 by_cases h100 : 100 < d
 ·have CS := MX C s hs (AX C s)
  cases hb : Jh s.seen (AX C s) with
  | true =>
   rw [hb] at CS
   simp +contextual -dsimp (maxSteps := 2000000) only [↓SD, SU, simprocAttr, rdB, Ab, Aa, DE, hc, h100]
   intro v4
   (refine Ac [2100, 2101] (A1 C s hs) (by first | (simp +contextual -dsimp (maxSteps := 2000000) only [↓SD, SU, simprocAttr, rdB]; done) | (simp +contextual -dsimp (maxSteps := 2000000) only [↓SD, SU, simprocAttr, rdB, Ae]; done) | (simp +contextual -dsimp (maxSteps := 2000000) only [↓SD, SU, simprocAttr, rdB, c0]; done)) ?_; rintro r hp' ⟨rfl, rfl⟩)
   simp +contextual -dsimp (maxSteps := 2000000) only [↓SD, SU, simprocAttr, rdB, Ab, Aa, AQ, c0]
   (refine Ac [2100, 2101] (CS) (by first | (simp +contextual -dsimp (maxSteps := 2000000) only [↓SD, SU, simprocAttr, rdB]; done) | (simp +contextual -dsimp (maxSteps := 2000000) only [↓SD, SU, simprocAttr, rdB, Ae]; done) | (simp +contextual -dsimp (maxSteps := 2000000) only [↓SD, SU, simprocAttr, rdB, c0]; done)) ?_; rintro r hp' ⟨rfl, rfl⟩)
   simp +contextual -dsimp (maxSteps := 2000000) only [↓SD, SU, simprocAttr, rdB, Ab, Aa, c0]
   (refine Ac [2100, 2101] (BX C s hs 8 (by omega)) (by first | (simp +contextual -dsimp (maxSteps := 2000000) only [↓SD, SU, simprocAttr, rdB]; done) | (simp +contextual -dsimp (maxSteps := 2000000) only [↓SD, SU, simprocAttr, rdB, Ae]; done) | (simp +contextual -dsimp (maxSteps := 2000000) only [↓SD, SU, simprocAttr, rdB, c0]; done)) ?_; rintro r hp' ⟨s1, rfl, hs1, hi1, hc1, rfl, _, _⟩)
   simp +contextual -dsimp (maxSteps := 2000000) only [↓SD, SU, simprocAttr, rdB, Ab, Aa]
   refine Ai.post (rdB C s1) ?_
   simp +contextual -dsimp (maxSteps := 2000000) only [↓SD, SU, simprocAttr, rdB, Ab, Aa]
   exact Dw hs1 0 0 (bs []) (by decide) (by decide) hz hi1 hc1
  | false =>
   rw [hb] at CS
   simp +contextual -dsimp (maxSteps := 2000000) only [↓SD, SU, simprocAttr, rdB, Ab, Aa, DE, hc, h100]
   intro v4
   (refine Ac [2100, 2101] (A1 C s hs) (by first | (simp +contextual -dsimp (maxSteps := 2000000) only [↓SD, SU, simprocAttr, rdB]; done) | (simp +contextual -dsimp (maxSteps := 2000000) only [↓SD, SU, simprocAttr, rdB, Ae]; done) | (simp +contextual -dsimp (maxSteps := 2000000) only [↓SD, SU, simprocAttr, rdB, c0]; done)) ?_; rintro r hp' ⟨rfl, rfl⟩)
   simp +contextual -dsimp (maxSteps := 2000000) only [↓SD, SU, simprocAttr, rdB, Ab, Aa, AQ, c0]
   (refine Ac [2100, 2101] (CS) (by first | (simp +contextual -dsimp (maxSteps := 2000000) only [↓SD, SU, simprocAttr, rdB]; done) | (simp +contextual -dsimp (maxSteps := 2000000) only [↓SD, SU, simprocAttr, rdB, Ae]; done) | (simp +contextual -dsimp (maxSteps := 2000000) only [↓SD, SU, simprocAttr, rdB, c0]; done)) ?_; rintro r hp' ⟨rfl, rfl⟩)
   simp +contextual -dsimp (maxSteps := 2000000) only [↓SD, SU, simprocAttr, rdB, Ab, Aa, c0, h100]
   (refine Ac [2100, 2101] (N8 C s hs) (by first | (simp +contextual -dsimp (maxSteps := 2000000) only [↓SD, SU, simprocAttr, rdB]; done) | (simp +contextual -dsimp (maxSteps := 2000000) only [↓SD, SU, simprocAttr, rdB, Ae]; done) | (simp +contextual -dsimp (maxSteps := 2000000) only [↓SD, SU, simprocAttr, rdB, c0]; done)) ?_; rintro r hp' ⟨b, rfl, rfl⟩)
   simp +contextual -dsimp (maxSteps := 2000000) only [↓SD, SU, simprocAttr, rdB, Ab, Aa, c0]
   (refine Ac [2100, 2101] (JH C s hs b) (by first | (simp +contextual -dsimp (maxSteps := 2000000) only [↓SD, SU, simprocAttr, rdB]; done) | (simp +contextual -dsimp (maxSteps := 2000000) only [↓SD, SU, simprocAttr, rdB, Ae]; done) | (simp +contextual -dsimp (maxSteps := 2000000) only [↓SD, SU, simprocAttr, rdB, c0]; done)) ?_; rintro r hp' ⟨s1, rfl, hs1, hi1, hc1, rfl, _, _⟩)
   simp +contextual -dsimp (maxSteps := 2000000) only [↓SD, SU, simprocAttr, rdB, Ab, Aa]
   refine Ai.post (rdB C s1) ?_
   simp +contextual -dsimp (maxSteps := 2000000) only [↓SD, SU, simprocAttr, rdB, Ab, Aa]
   exact Dw hs1 0 0 (bs []) (by decide) (by decide) hz hi1 hc1
 have CP := CA (by omega)
 unfold PaC at CP
 simp +contextual -dsimp (maxSteps := 2000000) only [↓SD, SU, simprocAttr, rdB, Ab, Aa, DE, hc, h100]
 intro v4
 (refine Ac [2100, 2101] (CP) (by first | (simp +contextual -dsimp (maxSteps := 2000000) only [↓SD, SU, simprocAttr, rdB]; done) | (simp +contextual -dsimp (maxSteps := 2000000) only [↓SD, SU, simprocAttr, rdB, Ae]; done) | (simp +contextual -dsimp (maxSteps := 2000000) only [↓SD, SU, simprocAttr, rdB, c0]; done)) ?_; rintro r hp' ⟨s2, rfl, hs2, hi2, hc2, a, rfl, haw, han⟩)
 have hsm2 := hs2.small
 simp +contextual -dsimp (maxSteps := 2000000) only [↓SD, SU, simprocAttr, rdB, Ab, Aa, CZ, EY, CX, Cz]
 intro v5
 have CJ := BG C s2 hs2 (bs [58, 58])
 clear c0
 by_cases hcm : Bv (AX C s2) = bs [58, 58]
 ·obtain ⟨j1, j2⟩ := Bm hs2 (by decide) hcm
  have e2 : (s2.i : Int) + 1 = ((s2.i + 1 : Nat) : Int) := by omega
  have hs3 := Bl hs2 j1
  rw [decide_eq_true hcm] at CJ
  (refine Ac [2100, 2101] (CJ) (by first | (simp +contextual -dsimp (maxSteps := 2000000) only [↓SD, SU, simprocAttr, rdB]; done) | (simp +contextual -dsimp (maxSteps := 2000000) only [↓SD, SU, simprocAttr, rdB, Ae]; done) | (simp +contextual -dsimp (maxSteps := 2000000) only [↓SD, SU, simprocAttr, rdB, c0]; done)) ?_; rintro r hp' ⟨rfl, rfl⟩)
  simp +contextual -dsimp (maxSteps := 2000000) only [↓SD, SU, simprocAttr, rdB, Ab, Aa, e2]
  refine ⟨by omega, by omega, ?_⟩
  have CQ := (IH { s2 with i := s2.i + 1 } (d + 1) hs3 (by dsimp only; omega) (by omega)).1
  unfold T7 at CQ
  (refine Ac [2100, 2101] (CQ) (by first | (simp +contextual -dsimp (maxSteps := 2000000) only [↓SD, SU, simprocAttr, rdB]; done) | (simp +contextual -dsimp (maxSteps := 2000000) only [↓SD, SU, simprocAttr, rdB, Ae]; done) | (simp +contextual -dsimp (maxSteps := 2000000) only [↓SD, SU, simprocAttr, rdB, c0]; done)) ?_; rintro r hp' ⟨s4, rfl, hs4, hi4, hc4, b, rfl, hbw, hbn⟩)
  dsimp only at hi4 hc4 hbn
  simp +contextual -dsimp (maxSteps := 2000000) only [↓SD, SU, simprocAttr, rdB, Ab, Aa, Qh, CZ, EY, CX, Cz]
  intro v6
  refine Ai.post (rdB C s4) ?_
  simp +contextual -dsimp (maxSteps := 2000000) only [↓SD, SU, simprocAttr, rdB, Ab, Aa, CZ]
  have hs2 : (bs [58, 58]).size ≤ C.m := by rw [show (bs [58, 58]).size = 2 from rfl]; exact hs.1.2.2.2.2.1
  exact ⟨s4, rfl, hs4, by omega, fun h => hc2 (hc4 h), .mk ⟨4, 0, bs [58, 58]⟩ [.mk ⟨5, 0, bs []⟩ [a, b]], by rw [ps1, ps2], AaU 4 0 _ _ (by decide) (by decide) hs2 (Y4 5 0 _ a b (by decide) (by decide) hz haw hbw), by rw [px1, px2]; omega⟩
 ·rw [decide_eq_false hcm] at CJ
  (refine Ac [2100, 2101] (CJ) (by first | (simp +contextual -dsimp (maxSteps := 2000000) only [↓SD, SU, simprocAttr, rdB]; done) | (simp +contextual -dsimp (maxSteps := 2000000) only [↓SD, SU, simprocAttr, rdB, Ae]; done) | (simp +contextual -dsimp (maxSteps := 2000000) only [↓SD, SU, simprocAttr, rdB, c0]; done)) ?_; rintro r hp' ⟨rfl, rfl⟩)
  simp +contextual -dsimp (maxSteps := 2000000) only [↓SD, SU, simprocAttr, rdB, Ab, Aa, CZ, EY, CX, Cz]
  refine Ai.post (rdB C s2) ?_
  simp +contextual -dsimp (maxSteps := 2000000) only [↓SD, SU, simprocAttr, rdB, Ab, Aa, CX, CZ, Cz]
  exact ⟨s2, rfl, hs2, hi2, hc2, a, rfl, haw, han⟩
end Go.Proofs.YteeiaaogmjbcjaaGreat
