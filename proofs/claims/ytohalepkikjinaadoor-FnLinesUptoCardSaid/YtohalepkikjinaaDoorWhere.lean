/-
  Where: the program's, the reference's and the law's walk. Conditions: the text is at most 2^20 bytes.
-/
import Derived.Test.YtohalepkikjinaaDoorLines
set_option linter.unusedVariables false
set_option linter.unusedSimpArgs false
set_option maxRecDepth 100000
namespace Go.Proofs.YtohalepkikjinaaDoor
open Go.RowKit Go.Proofs.YtohalepkikjinaaDoor.Ml

theorem retII {a b c d : Int} (h : a = b) (h' : c = d) : Ending.returned (.tuple #[.int .i64 a, .int .i64 c]) = Ending.returned (.tuple #[.int .i64 b, .int .i64 d]) := by rw [h, h']
def whereL (s : ByteArray) (a : Int) : Int := if 0 ≤ a ∧ a ≤ s.size then lineN (s.data.toList.take a.toNat) else 0
def whereC (s : ByteArray) (a : Int) : Int := if 0 ≤ a ∧ a ≤ s.size then colN (s.data.toList.take a.toNat) else 0
def lastI (s : ByteArray) : Int := lastN s.data.toList

theorem colN_pos (l : List UInt8) (k : Nat) (hk : k ≤ l.length) : 1 ≤ colN (l.take k) := by
  cases k with
  | zero => simp [colN]
  | succ k => rw [colN_take (by omega)]; split <;> omega
theorem data_take (s : ByteArray) (k : Nat) : (s.extract 0 k).data.toList = s.data.toList.take k := by
  rw [ByteArray.data_extract, Array.toList_extract]; simp [List.extract]

theorem lastByteStr {w : World} (s : ByteArray) (hs : s.size ≤ 1048576) : Calls Tryd.prog 27 #[.string s, .int .u8 10] w fun e w' => e = .returned (.int .i64 (lastI s)) ∧ w' = w := by
  have hlen : s.data.toList.length = s.size := Array.length_toList
  go_enter Tryd.func27, Tryd.ntmps27
  go_wp2_with fail
  go_loop [5] (fun vi => ∃ k : Nat, k ≤ s.size ∧ vi = .int .i64 ((k : Int) - 1) ∧ Hid (lastI s = (k : Int) - colN (s.data.toList.take k))) (fun vi => ((intOf vi) + 1).toNat)
  case atStart => exact ⟨s.size, Nat.le_refl _, by first | rfl | go_num | (congr 1; omega), by show lastI s = _; rw [List.take_of_length_le (by omega)]; unfold lastI lastN; rw [hlen]⟩
  case round =>
    obtain ⟨k, hk, rfl, hh⟩ := hrel
    go_wp2
    · have hc : (((s[k - 1]).toNat : Int) == 10) = true := by assumption
      have k1 : 1 ≤ k := by omega
      have e1 := colN_take (l := s.data.toList) (k := k - 1) (by omega)
      have hg : s.data.toList[k - 1]'(by omega) = s[k - 1] := by simp; rfl
      have h9 : s[k - 1] = 10 := UInt8.toNat_inj.mp (by have h := eq_of_beq hc; exact Int.ofNat.inj (by simpa using h))
      rw [show k - 1 + 1 = k by omega, hg, if_pos h9] at e1
      have HH := hh.out
      go_ret
      exact ⟨retI (by rw [HH, e1]; omega), rfl⟩
    · have hc : (((s[k - 1]).toNat : Int) == 10) = false := by assumption
      have k1 : 1 ≤ k := by omega
      have e1 := colN_take (l := s.data.toList) (k := k - 1) (by omega)
      have hg : s.data.toList[k - 1]'(by omega) = s[k - 1] := by simp; rfl
      have h9 : ¬ s[k - 1] = 10 := fun h => by rw [h] at hc; revert hc; decide
      rw [show k - 1 + 1 = k by omega, hg, if_neg h9] at e1
      have HH := hh.out
      refine ⟨⟨k - 1, by omega, by congr 1; omega, by show _ = _; rw [HH, e1]; omega⟩, ?_⟩
      simp [intOf]; omega
    · have k0 : k = 0 := by omega
      subst k0
      have HH := hh.out
      go_ret
      exact ⟨retI (by rw [HH]; simp [colN]), rfl⟩

theorem lastByte {w : World} (s : ByteArray) (hs : s.size ≤ 1048576) : Calls Tryd.prog 19 #[.string s, .int .u8 10] w fun e w' => e = .returned (.int .i64 (lastI s)) ∧ w' = w := by
  go_enter Tryd.func19, Tryd.ntmps19
  go_wp2_with fail
  refine (lastByteStr s hs).mono ?_
  rintro e w1 ⟨rfl, rfl⟩
  go_wp2_with fail
  go_ret
  exact ⟨rfl, rfl⟩

set_option maxHeartbeats 1000000 in
theorem impl_Where {w : World} (s : ByteArray) (a : Int) (hs : s.size ≤ 1048576) : Calls Tryd.prog 10 #[.string s, .int .i64 a] w fun e w' => e = .returned (.tuple #[.int .i64 (whereL s a), .int .i64 (whereC s a)]) ∧ Below w.heap.size w w' := by
  by_cases ha : 0 ≤ a ∧ a ≤ s.size
  · obtain ⟨k, rfl⟩ : ∃ k : Nat, a = k := ⟨a.toNat, by omega⟩
    have hk : k ≤ s.size := by omega
    clear ha
    go_enter Tryd.func10, Tryd.ntmps10
    go_wp2_with fail
    refine (impl_within3 _ _ _).mono ?_
    rintro e w1 ⟨rfl, rfl⟩
    go_wp2_with fail
    have e1 : linesI (s.extract 0 k) = whereL s k := by simp only [linesI, whereL, data_take]; rw [if_pos ⟨by omega, by omega⟩]; rfl
    have e2 : lastI (s.extract 0 k) = (k : Int) - whereC s k := by
      unfold lastI lastN whereC; rw [data_take, if_pos ⟨by omega, by omega⟩, List.length_take, Array.length_toList]
      show ((min k s.size : Nat) : Int) - _ = _
      rw [Nat.min_eq_left hk]; rfl
    have e3 : 1 ≤ whereC s k ∧ whereC s k ≤ (k : Int) + 1 := by
      unfold whereC; rw [if_pos ⟨by omega, by omega⟩]
      have h1 := colN_pos s.data.toList k (by rw [Array.length_toList]; exact hk)
      have h2 := colN_le s.data.toList k (by rw [Array.length_toList]; exact hk)
      simp only [Int.toNat_natCast]; omega
    obtain ⟨e3, e4⟩ := e3
    have E1 := Lib.hid e1; clear e1
    obtain ⟨q, hq⟩ : ∃ q, q = lastI (s.extract 0 k) := ⟨_, rfl⟩
    have l1 : -1 ≤ lastI (s.extract 0 k) := by omega
    have l2 : lastI (s.extract 0 k) ≤ 1048576 := by omega
    have E2 := Lib.hid e2; clear e2 e3 e4 hq
    go_quiet (first | (go_at_call 6; refine Calls.quiet_of ((impl_Lines _ (by simp; omega)).mono fun e w' ⟨h1, h2⟩ => ⟨h1, 0, h2⟩)) | (go_at_call 19; refine Calls.quiet_of ((lastByte _ (by simp; omega)).mono fun e w' ⟨h1, h2⟩ => ⟨h1, 0, h2⟩)))
    go_wp2_with fail
    go_ret2
    exact ⟨retII E1.out (by rw [E2.out]; omega), belN (bel0 _) _⟩
  · have h1 : (decide (0 ≤ a) && decide (a ≤ (s.size : Int))) = false := by simp; omega
    have eL : whereL s a = 0 := if_neg ha
    have eC : whereC s a = 0 := if_neg ha
    rw [eL, eC]
    clear ha eL eC
    go_enter Tryd.func10, Tryd.ntmps10
    go_wp2_with fail
    refine (impl_within3 _ _ _).mono ?_
    rintro e w1 ⟨rfl, rfl⟩
    go_wp2_with fail
    go_ret2
    exact ⟨rfl, bel0 _⟩

set_option maxHeartbeats 1000000 in
theorem spec_Where {w : World} (s : ByteArray) (a : Int) (hs : s.size ≤ 1048576) : Calls Tryd.prog 11 #[.string s, .int .i64 a] w fun e w' => e = .returned (.tuple #[.int .i64 (whereL s a), .int .i64 (whereC s a)]) ∧ Below w.heap.size w w' := by
  by_cases ha : 0 ≤ a ∧ a ≤ s.size
  · obtain ⟨m, rfl⟩ : ∃ m : Nat, a = m := ⟨a.toNat, by omega⟩
    have hm : m ≤ s.size := by omega
    have eL : whereL s m = lineN (s.data.toList.take m) := by unfold whereL; rw [if_pos ha]; rfl
    have eC : whereC s m = colN (s.data.toList.take m) := by unfold whereC; rw [if_pos ha]; rfl
    rw [eL, eC]
    clear ha eL eC
    have hlen : s.data.toList.length = s.size := Array.length_toList
    go_enter Tryd.func11, Tryd.ntmps11
    go_wp2_with fail
    go_loopw [6, 7, 8] (fun n c i wr => ∃ k x y : Nat, k ≤ m ∧ n = .int .i64 x ∧ c = .int .i64 y ∧ i = .int .i64 k ∧ wr = w ∧ x ≤ k + 1 ∧ y ≤ k + 1 ∧ Hid (lineN (s.data.toList.take k) = x ∧ colN (s.data.toList.take k) = y)) (fun _ _ i _ => m - (intOf i).toNat)
    case atStart => exact ⟨0, 1, 1, Nat.zero_le _, rfl, rfl, rfl, rfl, by omega, by omega, rfl, rfl⟩
    case round =>
      obtain ⟨k, x, y, hk, rfl, rfl, rfl, rfl, hx, hy, HM⟩ := hrel
      by_cases hlt : k < m
      · have hlt' : k < s.data.toList.length := by omega
        have hls : k < s.size := by omega
        have hg : s.data.toList[k]'hlt' = s[k]'hls := by simp; rfl
        have HS := Lib.hid (lineN_take hlt')
        have HC := Lib.hid (colN_take hlt')
        by_cases h9 : s[k]'hls = 10
        · have HK : Hid (lineN (s.data.toList.take (k + 1)) = x + 1 ∧ colN (s.data.toList.take (k + 1)) = 1) := by
            refine ⟨?_, ?_⟩
            · rw [HS.out, HM.out.1, hg, if_pos h9]
            · rw [HC.out, hg, if_pos h9]
          have hq : (((s[k]'hls).toNat : Int) == 10) = true := by rw [h9]; rfl
          clear h9 HS HC hg hlen hlt'
          go_wp2_with fail
          go_roundw
          case rel => exact ⟨k + 1, x + 1, 1, by omega, by go_num, by go_num, by go_num, by trivial, by omega, by omega, HK⟩
          case measure => simp [intOf]; omega
        · have HK : Hid (lineN (s.data.toList.take (k + 1)) = x ∧ colN (s.data.toList.take (k + 1)) = y + 1) := by
            refine ⟨?_, ?_⟩
            · rw [HS.out, HM.out.1, hg, if_neg h9]; rfl
            · rw [HC.out, hg, if_neg h9, HM.out.2]
          have hq : (((s[k]'hls).toNat : Int) == 10) = false := by
            simp; intro h; exact h9 (UInt8.toNat_inj.mp (by simpa using Int.ofNat.inj h))
          clear h9 HS HC hg hlen hlt'
          go_wp2_with fail
          go_roundw
          case rel => exact ⟨k + 1, x, y + 1, by omega, by go_num, by go_num, by go_num, by trivial, by omega, by omega, HK⟩
          case measure => simp [intOf]; omega
      · obtain rfl : k = m := by omega
        go_wp2_with fail
        go_ret2
        exact ⟨retII (by rw [HM.out.1]) (by rw [HM.out.2]), bel0 _⟩
  · have eL : whereL s a = 0 := if_neg ha
    have eC : whereC s a = 0 := if_neg ha
    rw [eL, eC]
    clear eL eC
    by_cases h1 : a < 0
    · clear ha
      go_enter Tryd.func11, Tryd.ntmps11
      go_wp2_with fail
      go_ret2
      exact ⟨rfl, bel0 _⟩
    · have h2 : (s.size : Int) < a := by omega
      clear ha
      go_enter Tryd.func11, Tryd.ntmps11
      go_wp2_with fail
      go_ret2
      exact ⟨rfl, bel0 _⟩

end Go.Proofs.YtohalepkikjinaaDoor
