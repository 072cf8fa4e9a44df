/-
  THE FUNCTIONS OVER []string AND Outcome: each contract says what the Go function returns, as plain Lean. Conditions: the arguments read as the given data.
-/
import Derived.Test.YtbgphlpiknnajaaRows
import Derived.Test.YtbgphlpiknnajaaBase
namespace Go.Proofs.Ytbgphlpiknnajaa
open Go.RowKit Go.Proofs.Ytbgphlpiknnajaa.Ml

set_option maxHeartbeats 400000 in
theorem equalStrs {S : Nat → Prop} {w : World} {v1 v2 : Value} {l1 l2 : List ByteArray} (h1 : RepSl S w v1 l1) (h2 : RepSl S w v2 l2) :
    Calls Try.prog 42 #[v1, v2] w fun e w' => e = .returned (.bool (decide (l1 = l2))) ∧ ∃ n, w' = w.drewN n := by
  obtain ⟨a1, c1, rfl, hm1, hc1⟩ := h1.strs
  obtain ⟨a2, c2, rfl, hm2, hc2⟩ := h2.strs
  by_cases hne : l1.length = l2.length
  · have hbe : ((l1.length : Int) != (l2.length : Int)) = false := by simp [hne]
    have HN := Lib.hid hne; clear hne
    go_enter Try.func42, Try.ntmps42
    go_wp2
    go_loopw [13] (fun i wr => ∃ k : Nat, k ≤ l1.length ∧ i = .int .i64 k ∧ l1.take k = l2.take k ∧ ∃ n, wr = w.drewN n) (fun i _ => l1.length - (intOf i).toNat)
    case atStart => exact ⟨0, Nat.zero_le _, rfl, rfl, 0, rfl⟩
    case round =>
      obtain ⟨k, hk, rfl, hpre, n, rfl⟩ := hrel
      have HP := Lib.hid hpre; clear hpre
      by_cases hlt : k < l1.length
      · have hlt2 : k < l2.length := by have := HN.out; omega
        obtain ⟨b1, o1, rfl, _, hx1, hs1⟩ := hc1 k hlt
        obtain ⟨b2, o2, rfl, _, hx2, hs2⟩ := hc2 k hlt2
        clear hc1 hc2
        have HT := Lib.hid (take_snoc_iff hlt hlt2 HP.out)
        have HE := Lib.hid (take_ne hlt hlt2)
        generalize l1[k] = x1 at *
        generalize l2[k] = x2 at *
        by_cases hx : x1 = x2
        · have hb := strT hx
          have HX := Lib.hid (HT.out.2 hx); clear hx HT HE
          go_wp2
          go_quiet (fail)
          go_wp2
          go_roundw
          case rel => exact ⟨k + 1, by omega, by go_num, HX.out, _, rfl⟩
          case measure => simp [intOf]; omega
        · have hb := strF hx
          have HX := Lib.hid (HE.out hx); clear hx HT HE
          go_wp2
          go_quiet (fail)
          go_wp2
          go_ret
          exact ⟨retB (decide_eq_false HX.out).symm, _, World.drewN_drewN ..⟩
      · have hl : l1 = l2 := by
          have h := HP.out
          have hn := HN.out
          rwa [List.take_of_length_le (by omega), List.take_of_length_le (by omega)] at h
        have HL := Lib.hid hl; clear hl
        go_wp2
        go_ret
        exact ⟨retB (decide_eq_true HL.out).symm, _, rfl⟩
  · have hbe : ((l1.length : Int) != (l2.length : Int)) = true := by simp; omega
    have HN := Lib.hid hne; clear hne
    go_enter Try.func42, Try.ntmps42
    go_wp2
    go_ret
    exact ⟨retB (decide_eq_false (fun h => HN.out (by rw [h]))).symm, 0, rfl⟩

set_option maxHeartbeats 400000 in
theorem specBegins {S : Nat → Prop} {w : World} {v1 v2 : Value} {l1 l2 : List ByteArray} (h1 : RepSl S w v1 l1) (h2 : RepSl S w v2 l2) (hS : ∀ b, S b → b < w.heap.size) (k1 n1 s1 k2 n2 s2 : Int) :
    Calls Try.prog 26 #[.agg #[.int .i64 k1, .int .i64 n1, v1, .int .i64 s1], .agg #[.int .i64 k2, .int .i64 n2, v2, .int .i64 s2]] w fun e w' => e = .returned (.bool (decide (l1 = l2.take l1.length))) ∧ Below w.heap.size w w' := by
  obtain ⟨a1, c1, rfl, hm1, hc1⟩ := h1.strs
  obtain ⟨a2, c2, rfl, hm2, hc2⟩ := h2.strs
  by_cases hle : l1.length ≤ l2.length
  · go_enter Try.func26, Try.ntmps26
    go_wp2
    go_loopw [16] (fun i wr => ∃ k : Nat, k ≤ l1.length ∧ i = .int .i64 k ∧ l1.take k = l2.take k ∧ Below w.heap.size w wr ∧ wr.cell? ⟨w.heap.size, 2, none⟩ = some (.slice a1 l1.length c1) ∧ wr.cell? ⟨w.heap.size + 1, 2, none⟩ = some (.slice a2 l2.length c2)) (fun i _ => l1.length - (intOf i).toNat)
    case atStart => exact ⟨0, Nat.zero_le _, rfl, rfl, belA (belA (bel0 _) (Nat.le_refl _) _) (Nat.le_refl _) _, by simp, by simp⟩
    case round =>
      obtain ⟨k, hk, rfl, hpre, hbel, hb1, hb2⟩ := hrel
      have HP := Lib.hid hpre; clear hpre
      by_cases hlt : k < l1.length
      · have hlt2 : k < l2.length := by omega
        obtain ⟨b1, o1, rfl, sb1, hx1, _⟩ := hc1 k hlt
        obtain ⟨b2, o2, rfl, sb2, hx2, _⟩ := hc2 k hlt2
        clear hc1 hc2
        have hy1 := (hbel.cell (p := ⟨b1, o1 + k, none⟩) (hS b1 sb1)).trans hx1
        have hy2 := (hbel.cell (p := ⟨b2, o2 + k, none⟩) (hS b2 sb2)).trans hx2
        have HT := Lib.hid (take_snoc_iff hlt hlt2 HP.out)
        generalize l1[k] = x1 at *
        generalize l2[k] = x2 at *
        clear hx1 hx2
        by_cases hx : x1 = x2
        · have hb := strT hx
          have HX := Lib.hid (HT.out.2 hx); clear hx HT
          go_wp2
          go_quiet (fail)
          go_wp2
          go_roundw
          case rel => exact ⟨k + 1, by omega, by go_num, HX.out, belN hbel _, hb1, hb2⟩
          case measure => simp [intOf]; omega
        · have hb := strF hx
          have HX : Hid (¬ l1.take (k + 1) = l2.take (k + 1)) := fun h => hx (HT.out.1 h)
          clear hx HT
          go_wp2
          go_quiet (fail)
          go_wp2
          go_ret
          exact ⟨retB (decide_eq_false (fun h => HX.out (take_of_pre h (by omega)))).symm, belN hbel _⟩
      · have hl : l1 = l2.take l1.length := by
          have h := HP.out
          obtain rfl : k = l1.length := by omega
          rwa [List.take_of_length_le (by omega)] at h
        have HL := Lib.hid hl; clear hl
        go_wp2
        go_ret
        exact ⟨retB (decide_eq_true HL.out).symm, hbel⟩
  · have HN := Lib.hid hle; clear hle
    have hlt : l2.length < l1.length := by have := HN.out; omega
    go_enter Try.func26, Try.ntmps26
    go_wp2
    go_ret
    exact ⟨retB (decide_eq_false (fun h => HN.out (by rw [h, List.length_take]; omega))).symm, belA (belA (bel0 _) (Nat.le_refl _) _) (Nat.le_refl _) _⟩

theorem RepSl_take {α : Type} [Rep α] {S : Nat → Prop} {w : World} {a : Option Addr} {n c : Nat} {l : List α} (h : RepSl S w (.slice a n c) l) {m : Nat} (hm : m ≤ l.length) : RepSl S w (.slice a m c) (l.take m) := by
  obtain ⟨a', cap, he, h1, h2, h3⟩ := h
  obtain ⟨rfl, rfl, rfl⟩ : a = a' ∧ n = l.length ∧ c = cap := by simpa using he
  refine ⟨a, c, by rw [List.length_take, Nat.min_eq_left hm], by rw [List.length_take]; omega, h2, ?_⟩
  rcases h3 with rfl | ⟨b, o, rfl, hb, hr⟩
  · exact .inl (by simp)
  · refine .inr ⟨b, o, rfl, hb, fun i x hx => hr i x ?_⟩
    rw [List.getElem?_take] at hx
    split at hx
    · exact hx
    · cases hx

set_option maxHeartbeats 400000 in
theorem implBegins {S : Nat → Prop} {w : World} {v1 v2 : Value} {l1 l2 : List ByteArray} (h1 : RepSl S w v1 l1) (h2 : RepSl S w v2 l2) (hS : ∀ b, S b → b < w.heap.size) (k1 n1 s1 k2 n2 s2 : Int) :
    Calls Try.prog 28 #[.agg #[.int .i64 k1, .int .i64 n1, v1, .int .i64 s1], .agg #[.int .i64 k2, .int .i64 n2, v2, .int .i64 s2]] w fun e w' => e = .returned (.bool (decide (l1 = l2.take l1.length))) ∧ Below w.heap.size w w' := by
  obtain ⟨a1, c1, rfl⟩ := h1.form
  obtain ⟨a2, c2, rfl⟩ := h2.form
  have hm1 : l1.length ≤ c1 ∧ c1 ≤ 9223372036854775807 := h1.cap
  have hm2 : l2.length ≤ c2 ∧ c2 ≤ 9223372036854775807 := h2.cap
  by_cases hle : l1.length ≤ l2.length
  · have H1 := Lib.hid h1
    have H2 := Lib.hid (RepSl_take h2 hle)
    clear h1 h2
    go_enter Try.func28, Try.ntmps28
    go_wp2
    go_quiet ((go_at_call 42; exact Calls.quiet_of (equalStrs (S := S) (H1.out.carry (fun _ h => h) (Same.below (belN (belA (belA (bel0 _) (Nat.le_refl _) _) (Nat.le_refl _) _) _) hS)) (H2.out.carry (fun _ h => h) (Same.below (belN (belA (belA (bel0 _) (Nat.le_refl _) _) (Nat.le_refl _) _) _) hS)))))
    go_wp2
    go_ret
    exact ⟨rfl, belN (belA (belA (bel0 _) (Nat.le_refl _) _) (Nat.le_refl _) _) _⟩
  · have hd : decide (l1.length ≤ l2.length) = false := by simpa using hle
    have HN := Lib.hid hle; clear hle
    go_enter Try.func28, Try.ntmps28
    go_wp2
    go_quiet (fail)
    go_wp2
    go_ret
    exact ⟨retB (decide_eq_false (fun h => HN.out (by rw [h, List.length_take]; omega))).symm, belN (belA (belA (bel0 _) (Nat.le_refl _) _) (Nat.le_refl _) _) _⟩

end Go.Proofs.Ytbgphlpiknnajaa
