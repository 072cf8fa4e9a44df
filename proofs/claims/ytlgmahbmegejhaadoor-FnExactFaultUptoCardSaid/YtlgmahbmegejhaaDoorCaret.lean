/-
  Caret: the program's, the reference's and the law's walk. Conditions: the line is at most 2^20 bytes.
-/
import Derived.Test.YtlgmahbmegejhaaDoorRows
import Derived.Test.YtlgmahbmegejhaaDoorBase
import Derived.Test.YtlgmahbmegejhaaDoorWithin
import Derived.Test.YtlgmahbmegejhaaDoorOwnB
set_option linter.unusedVariables false
set_option linter.unusedSimpArgs false
set_option maxRecDepth 100000
namespace Go.Proofs.YtlgmahbmegejhaaDoor
open Go.RowKit Go.Proofs.YtlgmahbmegejhaaDoor.Ml

def caretAt (s : ByteArray) (i : Nat) : UInt8 := if s.data[i]? = some 9 then 9 else 32
def caretL (s : ByteArray) (k : Nat) : List UInt8 := (List.range k).map (caretAt s)
def caretS (s : ByteArray) (c : Int) : ByteArray := if 1 ≤ c ∧ c ≤ 4001 then ⟨(caretL s (c - 1).toNat ++ [94]).toArray⟩ else ⟨#[]⟩
theorem caretL_len (s : ByteArray) (k : Nat) : (caretL s k).length = k := by simp [caretL]
theorem caretL_succ (s : ByteArray) (k : Nat) : caretL s (k + 1) = caretL s k ++ [caretAt s k] := by simp [caretL, List.range_succ]

set_option maxHeartbeats 4000000 in
theorem impl_Caret {w : World} (s : ByteArray) (c : Int) (hs : s.size ≤ 1048576) : Calls Tryd.prog 28 #[.string s, .int .i64 c] w fun e w' => e = .returned (.string (caretS s c)) ∧ Below w.heap.size w w' := by
  by_cases hc : 1 ≤ c ∧ c ≤ 4001
  · have hS : caretS s c = ⟨(caretL s (c - 1).toNat ++ [94]).toArray⟩ := by simp [caretS, hc]
    rw [hS]; clear hS
    obtain ⟨hc1, hc2⟩ := hc
    obtain ⟨m, rfl⟩ : ∃ m : Nat, c = (m : Int) + 1 := ⟨(c - 1).toNat, by omega⟩
    have hm : ((m : Int) + 1 - 1).toNat = m := by omega
    rw [hm]; clear hm
    have hm4 : m ≤ 4000 := by omega
    clear hc1 hc2
    obtain ⟨i0, hi, hz0, hz1, hz2⟩ := info_parts infoU8
    go_enter Tryd.func28, Tryd.ntmps28
    go_wp2_with fail
    have hn : (decide ((1 : Int) ≤ (m : Int) + 1) && decide ((m : Int) + 1 ≤ 4001)) = true := by simp; omega
    refine (impl_within3 _ _ _).mono ?_
    rintro e w1 ⟨rfl, rfl⟩
    go_wp2_with fail
    clear hn
    go_loopw [5, 13] (fun v i wr => ∃ k : Nat, k ≤ m ∧ i = .int .i64 k ∧ OwnB wr w.heap.size v (caretL s k) ∧ Below w.heap.size w wr) (fun _ i _ => m - (intOf i).toNat)
    case atStart => exact ⟨0, Nat.zero_le _, rfl, World.ownsRow_lit (base := w.heap.size) (size := 1) w #[] 0 (Nat.le_refl _) (by decide) rfl, belA (bel0 _) (Nat.le_refl _) _⟩
    case round =>
      obtain ⟨k, hk, rfl, hown, hbel⟩ := hrel
      by_cases hlt : k < m
      · by_cases hl : k < s.size
        · by_cases h9 : s[k] = 9
          · have hq : (((s[k]).toNat : Int) == 9) = true := by rw [h9]; rfl
            have hx : caretAt s k = 9 := by unfold caretAt; rw [if_pos]; rw [← h9]; exact Array.getElem?_eq_getElem (show k < s.data.size from hl)
            have HX := Lib.hid hx; clear hx
            clear h9
            go_wp2_with (first | (at_builtin; refine wpList_append_own _ rfl _ _ 33 rfl w.heap.size 5 i0 (.int .u8 0) 1 1 Tryd.underlying33 hi hz0 hz1 hz2 rfl (by decide) _ _ _ rfl (World.ownsRow.alloc hown _) ⟨wr.heap.size, 0, none⟩ 1 1 [.int .u8 9] rfl rfl (cell1 _ _ _) (by simp [Value.oneCell']) (by simp only [caretL_len]; unfold maxLen; omega) (by simp only [caretL_len]; omega) (by have := hbel.size; simp; omega) ?_; intro v' w1 hown' hgrow _; simp only [bytesV] at hown') | fail)
            have ho : OwnB w1 w.heap.size v' (caretL s (k + 1)) := by rw [caretL_succ, HX.out]; exact OwnB.step hown'
            have hb : Below w.heap.size w w1 := (hbel.alloc hbel.size _).grown hgrow (by have := hbel.size; simp; omega) (fun g hg => (World.ownsRow.lt hown g hg).1)
            clear hown' hgrow hown hbel HX
            go_wp2_with fail
            go_roundw
            case rel => exact ⟨k + 1, by omega, by go_num, ho, hb⟩
            case measure => simp [intOf]; omega
          · have hq : (((s[k]).toNat : Int) == 9) = false := by simp; intro h; exact h9 (UInt8.toNat_inj.mp (by simpa using Int.ofNat.inj h))
            have hx : caretAt s k = 32 := by unfold caretAt; rw [if_neg]; intro h; apply h9; have e : s.data[k]? = some (s[k]'hl) := Array.getElem?_eq_getElem (show k < s.data.size from hl); rw [e] at h; simpa using h
            have HX := Lib.hid hx; clear hx
            clear h9
            go_wp2_with (first | (at_builtin; refine wpList_append_own _ rfl _ _ 33 rfl w.heap.size 5 i0 (.int .u8 0) 1 1 Tryd.underlying33 hi hz0 hz1 hz2 rfl (by decide) _ _ _ rfl (World.ownsRow.alloc hown _) ⟨wr.heap.size, 0, none⟩ 1 1 [.int .u8 32] rfl rfl (cell1 _ _ _) (by simp [Value.oneCell']) (by simp only [caretL_len]; unfold maxLen; omega) (by simp only [caretL_len]; omega) (by have := hbel.size; simp; omega) ?_; intro v' w1 hown' hgrow _; simp only [bytesV] at hown') | fail)
            have ho : OwnB w1 w.heap.size v' (caretL s (k + 1)) := by rw [caretL_succ, HX.out]; exact OwnB.step hown'
            have hb : Below w.heap.size w w1 := (hbel.alloc hbel.size _).grown hgrow (by have := hbel.size; simp; omega) (fun g hg => (World.ownsRow.lt hown g hg).1)
            clear hown' hgrow hown hbel HX
            go_wp2_with fail
            go_roundw
            case rel => exact ⟨k + 1, by omega, by go_num, ho, hb⟩
            case measure => simp [intOf]; omega
        · have hq : s.size ≤ k := by omega
          have hx : caretAt s k = 32 := by unfold caretAt; rw [if_neg]; intro h; have e : s.data[k]? = none := Array.getElem?_eq_none (show s.data.size ≤ k from Nat.le_of_not_lt hl); rw [e] at h; cases h
          have HX := Lib.hid hx; clear hx
          go_wp2_with (first | (at_builtin; refine wpList_append_own _ rfl _ _ 33 rfl w.heap.size 5 i0 (.int .u8 0) 1 1 Tryd.underlying33 hi hz0 hz1 hz2 rfl (by decide) _ _ _ rfl (World.ownsRow.alloc hown _) ⟨wr.heap.size, 0, none⟩ 1 1 [.int .u8 32] rfl rfl (cell1 _ _ _) (by simp [Value.oneCell']) (by simp only [caretL_len]; unfold maxLen; omega) (by simp only [caretL_len]; omega) (by have := hbel.size; simp; omega) ?_; intro v' w1 hown' hgrow _; simp only [bytesV] at hown') | fail)
          have ho : OwnB w1 w.heap.size v' (caretL s (k + 1)) := by rw [caretL_succ, HX.out]; exact OwnB.step hown'
          have hb : Below w.heap.size w w1 := (hbel.alloc hbel.size _).grown hgrow (by have := hbel.size; simp; omega) (fun g hg => (World.ownsRow.lt hown g hg).1)
          clear hown' hgrow hown hbel HX
          go_wp2_with fail
          go_roundw
          case rel => exact ⟨k + 1, by omega, by go_num, ho, hb⟩
          case measure => simp [intOf]; omega
      · obtain rfl : k = m := by omega
        go_wp2_with (first | (at_builtin; refine wpList_append_own _ rfl _ _ 33 rfl w.heap.size 5 i0 (.int .u8 0) 1 1 Tryd.underlying33 hi hz0 hz1 hz2 rfl (by decide) _ _ _ rfl (World.ownsRow.alloc hown _) ⟨wr.heap.size, 0, none⟩ 1 1 [.int .u8 94] rfl rfl (cell1 _ _ _) (by simp [Value.oneCell']) (by simp only [caretL_len]; unfold maxLen; omega) (by simp only [caretL_len]; omega) (by have := hbel.size; simp; omega) ?_; intro v' w1 hown' hgrow _; simp only [bytesV] at hown') | fail)
        have ho : OwnB w1 w.heap.size v' (caretL s _ ++ [94]) := OwnB.step hown'
        have hb : Below w.heap.size w w1 := (hbel.alloc hbel.size _).grown hgrow (by have := hbel.size; simp; omega) (fun g hg => (World.ownsRow.lt hown g hg).1)
        clear hown' hgrow hown hbel
        obtain ⟨rfl, hn⟩ | ⟨g, cp, n, hn, rfl, hcells⟩ := ho.form
        · simp at hn
        have hcv : (convert 33 9 (.slice (some ⟨g, 0, none⟩) n cp)).run Tryd.prog w1 = .ok (.string ⟨(caretL s k ++ [94]).toArray⟩) w1 := by rw [hn]; exact run_convert_bytes_back (P := Tryd.prog) w1 33 9 5 ⟨g, 0, none⟩ cp _ Tryd.underlying33 Tryd.underlying5 Tryd.underlying9 hcells
        clear hcells ho hn
        go_wp2_with fail
        rw [hcv]
        simp only [Result.andThen]
        rw [Oper.upon_value]
        go_wp2_with fail
        go_ret
        exact ⟨rfl, hb⟩
  · have hS : caretS s c = ⟨#[]⟩ := by simp [caretS, hc]
    rw [hS]; clear hS
    have hn : (decide (1 ≤ c) && decide (c ≤ 4001)) = false := by simp; omega
    clear hc
    go_enter Tryd.func28, Tryd.ntmps28
    go_wp2_with fail
    refine (impl_within3 _ _ _).mono ?_
    rintro e w1 ⟨rfl, rfl⟩
    go_wp2_with fail
    go_ret
    exact ⟨rfl, bel0 _⟩

set_option maxHeartbeats 4000000 in
theorem spec_Caret {w : World} (s : ByteArray) (c : Int) (hs : s.size ≤ 1048576) : Calls Tryd.prog 25 #[.string s, .int .i64 c] w fun e w' => e = .returned (.string (caretS s c)) ∧ Below w.heap.size w w' := by
  by_cases hc : 1 ≤ c ∧ c ≤ 4001
  · have hS : caretS s c = ⟨(caretL s (c - 1).toNat ++ [94]).toArray⟩ := by simp [caretS, hc]
    rw [hS]; clear hS
    obtain ⟨hc1, hc2⟩ := hc
    obtain ⟨m, rfl⟩ : ∃ m : Nat, c = (m : Int) + 1 := ⟨(c - 1).toNat, by omega⟩
    have hm : ((m : Int) + 1 - 1).toNat = m := by omega
    rw [hm]; clear hm
    have hm4 : m ≤ 4000 := by omega
    clear hc1 hc2
    obtain ⟨i0, hi, hz0, hz1, hz2⟩ := info_parts infoU8
    go_enter Tryd.func25, Tryd.ntmps25
    go_wp2_with fail
    go_loopw [5, 6] (fun v i wr => ∃ k : Nat, k ≤ m ∧ i = .int .i64 k ∧ OwnB wr w.heap.size v (caretL s k) ∧ Below w.heap.size w wr) (fun _ i _ => m - (intOf i).toNat)
    case atStart => exact ⟨0, Nat.zero_le _, rfl, World.ownsRow_lit (base := w.heap.size) (size := 1) w #[] 0 (Nat.le_refl _) (by decide) rfl, belA (bel0 _) (Nat.le_refl _) _⟩
    case round =>
      obtain ⟨k, hk, rfl, hown, hbel⟩ := hrel
      by_cases hlt : k < m
      · by_cases hl : k < s.size
        · by_cases h9 : s[k] = 9
          · have hq : (((s[k]).toNat : Int) == 9) = true := by rw [h9]; rfl
            have hx : caretAt s k = 9 := by unfold caretAt; rw [if_pos]; rw [← h9]; exact Array.getElem?_eq_getElem (show k < s.data.size from hl)
            have HX := Lib.hid hx; clear hx
            clear h9
            go_wp2_with (first | (at_builtin; refine wpList_append_own _ rfl _ _ 33 rfl w.heap.size 5 i0 (.int .u8 0) 1 1 Tryd.underlying33 hi hz0 hz1 hz2 rfl (by decide) _ _ _ rfl (World.ownsRow.alloc hown _) ⟨wr.heap.size, 0, none⟩ 1 1 [.int .u8 9] rfl rfl (cell1 _ _ _) (by simp [Value.oneCell']) (by simp only [caretL_len]; unfold maxLen; omega) (by simp only [caretL_len]; omega) (by have := hbel.size; simp; omega) ?_; intro v' w1 hown' hgrow _; simp only [bytesV] at hown') | fail)
            have ho : OwnB w1 w.heap.size v' (caretL s (k + 1)) := by rw [caretL_succ, HX.out]; exact OwnB.step hown'
            have hb : Below w.heap.size w w1 := (hbel.alloc hbel.size _).grown hgrow (by have := hbel.size; simp; omega) (fun g hg => (World.ownsRow.lt hown g hg).1)
            clear hown' hgrow hown hbel HX
            go_wp2_with fail
            go_roundw
            case rel => exact ⟨k + 1, by omega, by go_num, ho, hb⟩
            case measure => simp [intOf]; omega
          · have hq : (((s[k]).toNat : Int) == 9) = false := by simp; intro h; exact h9 (UInt8.toNat_inj.mp (by simpa using Int.ofNat.inj h))
            have hx : caretAt s k = 32 := by unfold caretAt; rw [if_neg]; intro h; apply h9; have e : s.data[k]? = some (s[k]'hl) := Array.getElem?_eq_getElem (show k < s.data.size from hl); rw [e] at h; simpa using h
            have HX := Lib.hid hx; clear hx
            clear h9
            go_wp2_with (first | (at_builtin; refine wpList_append_own _ rfl _ _ 33 rfl w.heap.size 5 i0 (.int .u8 0) 1 1 Tryd.underlying33 hi hz0 hz1 hz2 rfl (by decide) _ _ _ rfl (World.ownsRow.alloc hown _) ⟨wr.heap.size, 0, none⟩ 1 1 [.int .u8 32] rfl rfl (cell1 _ _ _) (by simp [Value.oneCell']) (by simp only [caretL_len]; unfold maxLen; omega) (by simp only [caretL_len]; omega) (by have := hbel.size; simp; omega) ?_; intro v' w1 hown' hgrow _; simp only [bytesV] at hown') | fail)
            have ho : OwnB w1 w.heap.size v' (caretL s (k + 1)) := by rw [caretL_succ, HX.out]; exact OwnB.step hown'
            have hb : Below w.heap.size w w1 := (hbel.alloc hbel.size _).grown hgrow (by have := hbel.size; simp; omega) (fun g hg => (World.ownsRow.lt hown g hg).1)
            clear hown' hgrow hown hbel HX
            go_wp2_with fail
            go_roundw
            case rel => exact ⟨k + 1, by omega, by go_num, ho, hb⟩
            case measure => simp [intOf]; omega
        · have hq : s.size ≤ k := by omega
          have hx : caretAt s k = 32 := by unfold caretAt; rw [if_neg]; intro h; have e : s.data[k]? = none := Array.getElem?_eq_none (show s.data.size ≤ k from Nat.le_of_not_lt hl); rw [e] at h; cases h
          have HX := Lib.hid hx; clear hx
          go_wp2_with (first | (at_builtin; refine wpList_append_own _ rfl _ _ 33 rfl w.heap.size 5 i0 (.int .u8 0) 1 1 Tryd.underlying33 hi hz0 hz1 hz2 rfl (by decide) _ _ _ rfl (World.ownsRow.alloc hown _) ⟨wr.heap.size, 0, none⟩ 1 1 [.int .u8 32] rfl rfl (cell1 _ _ _) (by simp [Value.oneCell']) (by simp only [caretL_len]; unfold maxLen; omega) (by simp only [caretL_len]; omega) (by have := hbel.size; simp; omega) ?_; intro v' w1 hown' hgrow _; simp only [bytesV] at hown') | fail)
          have ho : OwnB w1 w.heap.size v' (caretL s (k + 1)) := by rw [caretL_succ, HX.out]; exact OwnB.step hown'
          have hb : Below w.heap.size w w1 := (hbel.alloc hbel.size _).grown hgrow (by have := hbel.size; simp; omega) (fun g hg => (World.ownsRow.lt hown g hg).1)
          clear hown' hgrow hown hbel HX
          go_wp2_with fail
          go_roundw
          case rel => exact ⟨k + 1, by omega, by go_num, ho, hb⟩
          case measure => simp [intOf]; omega
      · obtain rfl : k = m := by omega
        go_wp2_with (first | (at_builtin; refine wpList_append_own _ rfl _ _ 33 rfl w.heap.size 5 i0 (.int .u8 0) 1 1 Tryd.underlying33 hi hz0 hz1 hz2 rfl (by decide) _ _ _ rfl (World.ownsRow.alloc hown _) ⟨wr.heap.size, 0, none⟩ 1 1 [.int .u8 94] rfl rfl (cell1 _ _ _) (by simp [Value.oneCell']) (by simp only [caretL_len]; unfold maxLen; omega) (by simp only [caretL_len]; omega) (by have := hbel.size; simp; omega) ?_; intro v' w1 hown' hgrow _; simp only [bytesV] at hown') | fail)
        have ho : OwnB w1 w.heap.size v' (caretL s _ ++ [94]) := OwnB.step hown'
        have hb : Below w.heap.size w w1 := (hbel.alloc hbel.size _).grown hgrow (by have := hbel.size; simp; omega) (fun g hg => (World.ownsRow.lt hown g hg).1)
        clear hown' hgrow hown hbel
        obtain ⟨rfl, hn⟩ | ⟨g, cp, n, hn, rfl, hcells⟩ := ho.form
        · simp at hn
        have hcv : (convert 33 9 (.slice (some ⟨g, 0, none⟩) n cp)).run Tryd.prog w1 = .ok (.string ⟨(caretL s k ++ [94]).toArray⟩) w1 := by rw [hn]; exact run_convert_bytes_back (P := Tryd.prog) w1 33 9 5 ⟨g, 0, none⟩ cp _ Tryd.underlying33 Tryd.underlying5 Tryd.underlying9 hcells
        clear hcells ho hn
        go_wp2_with fail
        rw [hcv]
        simp only [Result.andThen]
        rw [Oper.upon_value]
        go_wp2_with fail
        go_ret
        exact ⟨rfl, hb⟩
  · have hS : caretS s c = ⟨#[]⟩ := by simp [caretS, hc]
    rw [hS]; clear hS
    by_cases h1 : c < 1
    · clear hc
      go_enter Tryd.func25, Tryd.ntmps25
      go_wp2_with fail
      go_ret
      exact ⟨rfl, bel0 _⟩
    · have h2 : 4001 < c := by omega
      clear hc
      go_enter Tryd.func25, Tryd.ntmps25
      go_wp2_with fail
      go_ret
      exact ⟨rfl, bel0 _⟩

end Go.Proofs.YtlgmahbmegejhaaDoor
