/-
  Lines, Where: the program's, the reference's and the two laws' walks. Conditions: the text is at most 2^20 bytes.
-/
import Derived.Test.YtohalepkikjinaaDoorRows
import Derived.Test.YtohalepkikjinaaDoorBase
import Derived.Test.YtohalepkikjinaaDoorWithin
import Derived.Lib.Strings
import Derived.Lib.Slices
import Derived.Lib.Walk
import Derived.Lib.Bytealg
set_option linter.unusedVariables false
set_option linter.unusedSimpArgs false
set_option maxRecDepth 100000
namespace Go.Proofs.YtohalepkikjinaaDoor
open Go.RowKit Go.Proofs.YtohalepkikjinaaDoor.Ml

/-- the line and the column behind a text -/
def lineN (l : List UInt8) : Nat := 1 + l.count 10
def colN : List UInt8 → Nat := fun l => l.foldl (fun c b => if b = 10 then 1 else c + 1) 1
theorem lineN_take {l : List UInt8} {k : Nat} (hk : k < l.length) : lineN (l.take (k + 1)) = lineN (l.take k) + (if l[k] = 10 then 1 else 0) := by
  unfold lineN
  rw [List.take_succ_eq_append_getElem hk, List.count_append, List.count_singleton]
  by_cases h : l[k] = 10 <;> simp [h]; omega
theorem colN_take {l : List UInt8} {k : Nat} (hk : k < l.length) : colN (l.take (k + 1)) = if l[k] = 10 then 1 else colN (l.take k) + 1 := by
  unfold colN
  rw [List.take_succ_eq_append_getElem hk, List.foldl_append]; rfl
theorem lineN_le (l : List UInt8) : lineN l ≤ l.length + 1 := by
  unfold lineN; have := List.count_le_length (a := (10 : UInt8)) (l := l); omega
theorem colN_le (l : List UInt8) (k : Nat) (hk : k ≤ l.length) : colN (l.take k) ≤ k + 1 := by
  induction k with
  | zero => simp [colN]
  | succ k ih => rw [colN_take (by omega)]; have := ih (by omega); split <;> omega
def lastN (l : List UInt8) : Int := l.length - colN l
def linesI (s : ByteArray) : Int := lineN s.data.toList

/-- (turned from the shelf's template 'strings.Count') -/
theorem strings_Count_one (s : ByteArray) (c : UInt8) (w : World) :
    Calls Tryd.prog 15 #[.string s, .string ⟨#[c]⟩] w fun e w' => e = .returned (.int .i64 (Lib.countByte s.data.toList c)) ∧ w' = w := by
  go_enter Tryd.func15, Tryd.ntmps15
  go_wp2
  rw [run_callFunc_extern Tryd.func23 (by kernel_rfl) (by kernel_rfl) (by kernel_rfl) (e := Extern.BytealgCount.count) (by kernel_rfl), Lib.run_countString]
  simp only [Result.andThen]
  rw [Oper.upon_value]
  go_wp2
  go_ret
  exact ⟨rfl, rfl⟩

set_option maxHeartbeats 1000000 in
theorem impl_Lines {w : World} (s : ByteArray) (hs : s.size ≤ 1048576) : Calls Tryd.prog 6 #[.string s] w fun e w' => e = .returned (.int .i64 (linesI s)) ∧ w' = w := by
  have hc : s.data.count 10 ≤ 1048576 := by have := Array.count_le_size (a := (10 : UInt8)) (xs := s.data); have h2 : s.size = s.data.size := rfl; omega
  go_enter Tryd.func6, Tryd.ntmps6
  go_wp2_with fail
  refine (strings_Count_one _ _ _).mono ?_
  rintro e w1 ⟨rfl, rfl⟩
  unfold Lib.countByte
  go_wp2_with fail
  go_ret
  exact ⟨retI (by simp [linesI, lineN]), rfl⟩

set_option maxHeartbeats 1000000 in
theorem spec_Lines {w : World} (s : ByteArray) (hs : s.size ≤ 1048576) : Calls Tryd.prog 7 #[.string s] w fun e w' => e = .returned (.int .i64 (linesI s)) ∧ Below w.heap.size w w' := by
  have hlen : s.data.toList.length = s.size := Array.length_toList
  go_enter Tryd.func7, Tryd.ntmps7
  go_wp2_with fail
  go_loopw [3, 4] (fun n i wr => ∃ k m : Nat, k ≤ s.size ∧ n = .int .i64 m ∧ i = .int .i64 k ∧ wr = w ∧ m ≤ k + 1 ∧ Hid (lineN (s.data.toList.take k) = m)) (fun _ i _ => s.size - (intOf i).toNat)
  case atStart => exact ⟨0, 1, Nat.zero_le _, rfl, rfl, rfl, by omega, rfl⟩
  case round =>
    obtain ⟨k, m, hk, rfl, rfl, rfl, hm, HM⟩ := hrel
    by_cases hlt : k < s.size
    · have hlt' : k < s.data.toList.length := by omega
      have hg : s.data.toList[k]'hlt' = s[k]'hlt := by simp; rfl
      have HS := Lib.hid (lineN_take hlt')
      by_cases h9 : s[k]'hlt = 10
      · have HK : Hid (lineN (s.data.toList.take (k + 1)) = m + 1) := by rw [Hid, HS.out, HM.out, hg, if_pos h9]
        have hq : (((s[k]'hlt).toNat : Int) == 10) = true := by rw [h9]; rfl
        clear h9 HS hg hlen hlt'
        go_wp2_with fail
        go_roundw
        case rel => exact ⟨k + 1, m + 1, by omega, by go_num, by go_num, by trivial, by omega, HK⟩
        case measure => simp [intOf]; omega
      · have HK : Hid (lineN (s.data.toList.take (k + 1)) = m) := by rw [Hid, HS.out, HM.out, hg, if_neg h9]; rfl
        have hq : (((s[k]'hlt).toNat : Int) == 10) = false := by
          simp; intro h; exact h9 (UInt8.toNat_inj.mp (by simpa using Int.ofNat.inj h))
        clear h9 HS hg hlen hlt'
        go_wp2_with fail
        go_roundw
        case rel => exact ⟨k + 1, m, by omega, by go_num, by go_num, by trivial, by omega, HK⟩
        case measure => simp [intOf]; omega
    · obtain rfl : k = s.size := by omega
      have HL : Hid (linesI s = m) := by unfold linesI; rw [← HM.out, List.take_of_length_le (by omega)]; rfl
      go_wp2_with fail
      go_ret
      exact ⟨retI HL.out.symm, bel0 _⟩

end Go.Proofs.YtohalepkikjinaaDoor
