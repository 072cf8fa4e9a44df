/-
  Alike, Ends, Agree: the program's and the reference's, each by what it returns. Conditions: the arguments read as the given data.
-/
import Derived.Test.YtbgphlpiknnajaaRows
import Derived.Test.YtbgphlpiknnajaaBase
import Derived.Test.YtbgphlpiknnajaaOut
import Derived.Test.YtbgphlpiknnajaaOut2
import Derived.Deep.RegionHeld3
namespace Go.Proofs.Ytbgphlpiknnajaa
open Go.RowKit Go.Proofs.Ytbgphlpiknnajaa.Ml

set_option maxHeartbeats 400000 in
theorem specAlike {S : Nat → Prop} {w : World} {v1 v2 : Value} {l1 l2 : List ByteArray} (h1 : RepSl S w v1 l1) (h2 : RepSl S w v2 l2) (hS : ∀ b, S b → b < w.heap.size) (k1 n1 s1 k2 n2 s2 : Int) :
    Calls Try.prog 30 #[.agg #[.int .i64 k1, .int .i64 n1, v1, .int .i64 s1], .agg #[.int .i64 k2, .int .i64 n2, v2, .int .i64 s2]] w fun e w' => e = .returned (.bool (decide (k1 = k2 ∧ n1 = n2 ∧ l1 = l2))) ∧ Below w.heap.size w w' := by
  obtain ⟨a1, c1, rfl⟩ := h1.form
  obtain ⟨a2, c2, rfl⟩ := h2.form
  have hm1 := h1.cap
  have hm2 := h2.cap
  by_cases hk : k1 = k2
  · subst hk
    by_cases hn : n1 = n2
    · subst hn
      by_cases hl : l1.length = l2.length
      · have hb : ((l1.length : Int) == (l2.length : Int)) = true := by simp [hl]
        have HL := Lib.hid hl; clear hl
        go_enter Try.func30, Try.ntmps30
        go_wp2_with fail
        refine (specBegins (S := S) (h1.carry (fun _ h => h) (Same.below (belA (belA (bel0 _) (Nat.le_refl _) _) (Nat.le_refl _) _) hS)) (h2.carry (fun _ h => h) (Same.below (belA (belA (bel0 _) (Nat.le_refl _) _) (Nat.le_refl _) _) hS)) (fun b hb => by have := hS b hb; simp; omega) _ _ _ _ _ _).mono ?_
        rintro e w1 ⟨rfl, hb⟩
        go_wp2_with fail
        go_ret
        refine ⟨retB ?_, (belA (belA (bel0 _) (Nat.le_refl _) _) (Nat.le_refl _) _).trans (hb.mono (by simp; omega))⟩
        rw [List.take_of_length_le (by have := HL.out; omega)]; simp
      · have hb : ((l1.length : Int) == (l2.length : Int)) = false := by simp; omega
        have HL := Lib.hid hl; clear hl
        go_enter Try.func30, Try.ntmps30
        go_wp2_with fail
        go_ret
        exact ⟨retB (decide_eq_false (fun h => HL.out (by rw [h.2.2]))).symm, belA (belA (bel0 _) (Nat.le_refl _) _) (Nat.le_refl _) _⟩
    · have hb : (n1 == n2) = false := by simpa using hn
      have HL := Lib.hid hn; clear hn
      go_enter Try.func30, Try.ntmps30
      go_wp2_with fail
      go_ret
      exact ⟨retB (decide_eq_false (fun h => HL.out h.2.1)).symm, belA (belA (bel0 _) (Nat.le_refl _) _) (Nat.le_refl _) _⟩
  · have hb : (k1 == k2) = false := by simpa using hk
    have HL := Lib.hid hk; clear hk
    go_enter Try.func30, Try.ntmps30
    go_wp2_with fail
    go_ret
    exact ⟨retB (decide_eq_false (fun h => HL.out h.1)).symm, belA (belA (bel0 _) (Nat.le_refl _) _) (Nat.le_refl _) _⟩

set_option maxHeartbeats 400000 in
theorem implAlike {S : Nat → Prop} {w : World} {v1 v2 : Value} {l1 l2 : List ByteArray} (h1 : RepSl S w v1 l1) (h2 : RepSl S w v2 l2) (hS : ∀ b, S b → b < w.heap.size) (k1 n1 s1 k2 n2 s2 : Int) :
    Calls Try.prog 31 #[.agg #[.int .i64 k1, .int .i64 n1, v1, .int .i64 s1], .agg #[.int .i64 k2, .int .i64 n2, v2, .int .i64 s2]] w fun e w' => e = .returned (.bool (decide (k1 = k2 ∧ n1 = n2 ∧ l1 = l2))) ∧ Below w.heap.size w w' := by
  obtain ⟨a1, c1, rfl⟩ := h1.form
  obtain ⟨a2, c2, rfl⟩ := h2.form
  by_cases hk : k1 = k2
  · subst hk
    by_cases hn : n1 = n2
    · subst hn
      go_enter Try.func31, Try.ntmps31
      go_wp2_with fail
      refine (equalStrs (S := S) (h1.carry (fun _ h => h) (Same.below (belA (belA (bel0 _) (Nat.le_refl _) _) (Nat.le_refl _) _) hS)) (h2.carry (fun _ h => h) (Same.below (belA (belA (bel0 _) (Nat.le_refl _) _) (Nat.le_refl _) _) hS))).mono ?_
      rintro e w1 ⟨rfl, m, rfl⟩
      go_wp2_with fail
      go_ret
      exact ⟨retB (by simp), belN (belA (belA (bel0 _) (Nat.le_refl _) _) (Nat.le_refl _) _) _⟩
    · have hb : (n1 == n2) = false := by simpa using hn
      have HL := Lib.hid hn; clear hn
      go_enter Try.func31, Try.ntmps31
      go_wp2_with fail
      go_ret
      exact ⟨retB (decide_eq_false (fun h => HL.out h.2.1)).symm, belA (belA (bel0 _) (Nat.le_refl _) _) (Nat.le_refl _) _⟩
  · have hb : (k1 == k2) = false := by simpa using hk
    have HL := Lib.hid hk; clear hk
    go_enter Try.func31, Try.ntmps31
    go_wp2_with fail
    go_ret
    exact ⟨retB (decide_eq_false (fun h => HL.out h.1)).symm, belA (belA (bel0 _) (Nat.le_refl _) _) (Nat.le_refl _) _⟩

theorem strs_rd {w : World} {b c : Nat} {e : TypeId} {l : List ByteArray} (h : Blk w b e (l.map Value.string)) (hs : ∀ x ∈ l, x.size ≤ maxLen) (hc : l.length ≤ c) (hm : c ≤ maxLen) : Rd w (.slice (some ⟨b, 0, none⟩) l.length c) l :=
  RepSl_own h h.lt hs hc hm

set_option maxHeartbeats 1000000 in
theorem lawAlike {w : World} {v1 v2 : Value} {l1 l2 : List ByteArray} (h1 : Rd w v1 l1) (h2 : Rd w v2 l2) (hl1 : l1.length ≤ 1048576) (hl2 : l2.length ≤ 1048576) (hs1 : ∀ x ∈ l1, x.size ≤ maxLen) (hs2 : ∀ x ∈ l2, x.size ≤ maxLen) (k1 n1 s1 k2 n2 s2 : Int) :
    Calls Try.prog 8 #[.agg #[.int .i64 k1, .int .i64 n1, v1, .int .i64 s1], .agg #[.int .i64 k2, .int .i64 n2, v2, .int .i64 s2]] w fun e w' => e = .returned (.bool true) ∧ Below w.heap.size w w' := by
  obtain ⟨a1, c1, rfl⟩ := h1.form
  obtain ⟨a2, c2, rfl⟩ := h2.form
  have hmx : l1.length ≤ maxLen ∧ l2.length ≤ maxLen := by unfold maxLen; omega
  have HS1 := Lib.hid hs1
  have HS2 := Lib.hid hs2
  clear hs1 hs2
  have b0 := bel0 w
  go_enter Try.func8, Try.ntmps8
  go_wp2_with fail
  have y1 := (Blk.new w 39 #[.int .i64 k1, .int .i64 n1, .slice a1 l1.length c1, .int .i64 s1]).alloc (Obj.cells #[.int .i64 k2, .int .i64 n2, .slice a2 l2.length c2, .int .i64 s2] 39)
  have y2 := Blk.new (w.alloc (Obj.cells #[.int .i64 k1, .int .i64 n1, .slice a1 l1.length c1, .int .i64 s1] 39)) 39 #[.int .i64 k2, .int .i64 n2, .slice a2 l2.length c2, .int .i64 s2]
  have b1 := belA (belA b0 (Nat.le_refl _) (Obj.cells #[.int .i64 k1, .int .i64 n1, .slice a1 l1.length c1, .int .i64 s1] 39)) (Nat.le_refl _) (Obj.cells #[.int .i64 k2, .int .i64 n2, .slice a2 l2.length c2, .int .i64 s2] 39)
  refine (szOutcome_any (h1.on b1) (fun _ h => h) _ _ _ _ (by omega) (by omega)).mono ?_
  rintro e w1 ⟨⟨r1, hr0, hr1, rfl⟩, hb1⟩
  replace y1 := y1.below hb1 y1.lt
  replace y2 := y2.below hb1 y2.lt
  have q1 := y1.cells
  have q2 := y2.cells
  simp only [World.size_alloc] at q2
  have b2 := belT b1 hb1 (Nat.le_refl _)
  go_wp2_with fail
  · go_ret
    exact ⟨rfl, b2⟩
  refine (szOutcome_any (h2.on b2) (fun _ h => h) _ _ _ _ (by omega) (by omega)).mono ?_
  rintro e w2 ⟨⟨r2, hr2, hr3, rfl⟩, hb2⟩
  replace y1 := y1.below hb2 y1.lt
  replace y2 := y2.below hb2 y2.lt
  clear q1 q2
  have q1 := y1.cells
  have q2 := y2.cells
  simp only [World.size_alloc] at q2
  have z1 := y1.lt
  have z2 := y2.lt
  simp only [World.size_alloc] at z2
  have b3 := belT b2 hb2 (Nat.le_refl _)
  go_wp2_with fail
  · go_ret
    exact ⟨rfl, b3⟩
  have b4 := belN b3 1
  go_region_held3 (fun w' => w.heap.size + 1 < w'.heap.size ∧ (∀ j, w'.cell? ⟨w.heap.size, j, none⟩ = [Value.int .i64 k1, .int .i64 n1, .slice a1 l1.length c1, .int .i64 s1][j]?) ∧ (∀ j, w'.cell? ⟨w.heap.size + 1, j, none⟩ = [Value.int .i64 k2, .int .i64 n2, .slice a2 l2.length c2, .int .i64 s2][j]?))
    (first | exact ⟨z2, q1, q2⟩ | exact ⟨Nat.lt_of_lt_of_le z2 m5.size, keepC m5 z1 q1, keepC m5 z2 q2⟩ | exact ⟨Nat.lt_of_lt_of_le z2 m6.size, keepC m6 z1 q1, keepC m6 z2 q2⟩ | exact ⟨Nat.lt_of_lt_of_le z2 m7.size, keepC m7 z1 q1, keepC m7 z2 q2⟩)
    (first
      | (go_at_call_of 27 l1; refine (toOutcome_any (h1.on b4) (fun _ h => h) hl1 _ _ _).mono ?_; rintro e w5 ⟨⟨g1, hg1, hblk1, rfl⟩, hb5⟩; have b5 := belT b4 hb5 (Nat.le_refl _); have m5 := hb5)
      | (go_at_call_of 27 l2; refine (toOutcome_any (h2.on b5) (fun _ h => h) hl2 _ _ _).mono ?_; rintro e w6 ⟨⟨g2, hg2, hblk2, rfl⟩, hb6⟩; have b6 := belT b5 hb6 (Nat.le_refl _); have m6 := belT m5 hb6 (Nat.le_refl _))
      | (go_at_call 30; refine (specAlike (strs_rd (hblk1.below hb6 hblk1.lt) HS1.out (Nat.le_refl _) hmx.1) (strs_rd hblk2 HS2.out (Nat.le_refl _) hmx.2) (fun _ h => h) _ _ _ _ _ _).mono ?_; rintro e w7 ⟨rfl, hb7⟩; have b7 := belT b6 hb7 (Nat.le_refl _); have m7 := belT m6 hb7 (Nat.le_refl _)))
  have z3 := Nat.lt_of_lt_of_le z2 m7.size
  have p1 := keepC m7 z1 q1
  have p2 := keepC m7 z2 q2
  clear q1 q2 z1 z2
  go_wp2_with fail
  -- x0
  refine (toOutcome_any (h1.on b7) (fun _ h => h) hl1 _ _ _).mono ?_
  rintro e w8 ⟨⟨g3, hg3, hblk3, rfl⟩, hb8⟩
  have b8 := belT b7 hb8 (Nat.le_refl _)
  replace p1 := keepC hb8 (by omega) p1
  replace p2 := keepC hb8 (by omega) p2
  have z4 := Nat.lt_of_lt_of_le z3 hb8.size
  clear z3
  go_wp2_with fail
  -- x1
  obtain ⟨W9, hW9⟩ : ∃ W9, W9 = w8.alloc (Obj.cells #[.int .i64 k1, .int .i64 n1, .slice (some ⟨g3, 0, none⟩) l1.length l1.length, .int .i64 s1] 42) := ⟨_, rfl⟩
  rw [← hW9]
  have a9 : Below w8.heap.size w8 W9 := by rw [hW9]; exact belA (bel0 _) (Nat.le_refl _) _
  have p3 := (Blk.new w8 42 #[.int .i64 k1, .int .i64 n1, .slice (some ⟨g3, 0, none⟩) l1.length l1.length, .int .i64 s1]).cells
  rw [← hW9] at p3
  have b9 := belT b8 a9 (Nat.le_refl _)
  have z9 : w8.heap.size < W9.heap.size := by rw [hW9]; simp
  replace hblk3 := hblk3.below a9 hblk3.lt
  clear hW9
  replace p1 := keepC a9 (by omega) p1
  replace p2 := keepC a9 (by omega) p2
  refine (toOutcome_any (h2.on b9) (fun _ h => h) hl2 _ _ _).mono ?_
  rintro e w10 ⟨⟨g4, hg4, hblk4, rfl⟩, hb10⟩
  have b10 := belT b9 hb10 (Nat.le_refl _)
  replace hblk3 := hblk3.below hb10 hblk3.lt
  replace p1 := keepC hb10 (by omega) p1
  replace p2 := keepC hb10 (by omega) p2
  replace p3 := keepC hb10 (by omega) p3
  have z10 := hb10.size
  have z3' : w8.heap.size < w10.heap.size := by omega
  go_wp2_with fail
  -- g0
  obtain ⟨W11, hW11⟩ : ∃ W11, W11 = w10.alloc (Obj.cells #[.int .i64 k2, .int .i64 n2, .slice (some ⟨g4, 0, none⟩) l2.length l2.length, .int .i64 s2] 42) := ⟨_, rfl⟩
  rw [← hW11]
  have a11 : Below w10.heap.size w10 W11 := by rw [hW11]; exact belA (bel0 _) (Nat.le_refl _) _
  have p4 := (Blk.new w10 42 #[.int .i64 k2, .int .i64 n2, .slice (some ⟨g4, 0, none⟩) l2.length l2.length, .int .i64 s2]).cells
  rw [← hW11] at p4
  have b11 := belT b10 a11 (Nat.le_refl _)
  have z11 : w10.heap.size < W11.heap.size := by rw [hW11]; simp
  replace hblk3 := hblk3.below a11 hblk3.lt
  replace hblk4 := hblk4.below a11 hblk4.lt
  clear hW11
  replace p1 := keepC a11 (by omega) p1
  replace p2 := keepC a11 (by omega) p2
  replace p3 := keepC a11 (by omega) p3
  refine (implAlike (strs_rd hblk3 HS1.out (Nat.le_refl _) hmx.1) (strs_rd hblk4 HS2.out (Nat.le_refl _) hmx.2) (fun _ h => h) _ _ _ _ _ _).mono ?_
  rintro e w12 ⟨rfl, hb12⟩
  have b12 := belT b11 hb12 (Nat.le_refl _)
  replace hblk3 := hblk3.below hb12 hblk3.lt
  replace hblk4 := hblk4.below hb12 hblk4.lt
  replace p1 := keepC hb12 (by omega) p1
  replace p2 := keepC hb12 (by omega) p2
  replace p3 := keepC hb12 (by omega) p3
  replace p4 := keepC hb12 (by omega) p4
  have z12 := hb12.size
  go_wp2_with fail
  have b13 := belN b12 1
  have e1 : w.heap.size + 1 < w12.heap.size := by omega
  have e3 : w8.heap.size < w12.heap.size := by omega
  have e4 : w10.heap.size < w12.heap.size := by omega
  have e1' : w.heap.size < w12.heap.size := by omega
  go_region_held3 (fun w' => (∀ j, w'.cell? ⟨w.heap.size, j, none⟩ = [Value.int .i64 k1, .int .i64 n1, .slice a1 l1.length c1, .int .i64 s1][j]?) ∧ (∀ j, w'.cell? ⟨w8.heap.size, j, none⟩ = [Value.int .i64 k1, .int .i64 n1, .slice (some ⟨g3, 0, none⟩) l1.length l1.length, .int .i64 s1][j]?))
    (first | exact ⟨p1, p3⟩ | exact ⟨keepC m14 e1' p1, keepC m14 e3 p3⟩ | exact ⟨keepC m15 e1' p1, keepC m15 e3 p3⟩)
    (first
      | (go_at_call 27; refine (toOutcome_any (h1.on b13) (fun _ h => h) hl1 _ _ _).mono ?_; rintro e w14 ⟨⟨g5, hg5, hblk5, rfl⟩, hb14⟩; have b14 := belT b13 hb14 (Nat.le_refl _); have m14 := belD hb14)
      | (go_at_call 29; refine (eqOutcome_same (strs_rd (hblk3.below m14 hblk3.lt) HS1.out (Nat.le_refl _) hmx.1) (strs_rd hblk5 HS1.out (Nat.le_refl _) hmx.1) (fun _ h => h) _ _ _).mono ?_; rintro e w15 ⟨rfl, hb15⟩; have b15 := belT b14 hb15 (Nat.le_refl _); have m15 := belT m14 hb15 (Nat.le_refl _)))
  replace p2 := keepC m15 e1 p2
  replace p4 := keepC m15 e4 p4
  have z15 := m15.size
  replace hblk4 := hblk4.below m15 hblk4.lt
  clear p1 p3
  go_wp2_with fail
  have b16 := belN b15 1
  replace e1 : w.heap.size + 1 < w15.heap.size := by omega
  replace e4 : w10.heap.size < w15.heap.size := by omega
  go_region_held3 (fun w' => (∀ j, w'.cell? ⟨w.heap.size + 1, j, none⟩ = [Value.int .i64 k2, .int .i64 n2, .slice a2 l2.length c2, .int .i64 s2][j]?) ∧ (∀ j, w'.cell? ⟨w10.heap.size, j, none⟩ = [Value.int .i64 k2, .int .i64 n2, .slice (some ⟨g4, 0, none⟩) l2.length l2.length, .int .i64 s2][j]?))
    (first | exact ⟨p2, p4⟩ | exact ⟨keepC m17 e1 p2, keepC m17 e4 p4⟩ | exact ⟨keepC m18 e1 p2, keepC m18 e4 p4⟩)
    (first
      | (go_at_call 27; refine (toOutcome_any (h2.on b16) (fun _ h => h) hl2 _ _ _).mono ?_; rintro e w17 ⟨⟨g6, hg6, hblk6, rfl⟩, hb17⟩; have b17 := belT b16 hb17 (Nat.le_refl _); have m17 := belD hb17)
      | (go_at_call 29; refine (eqOutcome_same (strs_rd (hblk4.below m17 hblk4.lt) HS2.out (Nat.le_refl _) hmx.2) (strs_rd hblk6 HS2.out (Nat.le_refl _) hmx.2) (fun _ h => h) _ _ _).mono ?_; rintro e w18 ⟨rfl, hb18⟩; have b18 := belT b17 hb18 (Nat.le_refl _); have m18 := belT m17 hb18 (Nat.le_refl _)))
  go_wp2_with fail
  go_ret
  exact ⟨rfl, b18⟩

end Go.Proofs.Ytbgphlpiknnajaa
