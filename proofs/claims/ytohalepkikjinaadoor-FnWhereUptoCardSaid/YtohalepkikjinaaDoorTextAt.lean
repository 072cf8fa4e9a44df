/-
  At: the program's, the reference's and the law's walk. Conditions: the text is at most 2^20 bytes; the library's variable MaxLen holds a number.
-/
import Derived.Test.YtohalepkikjinaaDoorLineOf
import Derived.Test.YtohalepkikjinaaDoorWhere
import Derived.Test.YtohalepkikjinaaDoorPosAt
set_option linter.unusedVariables false
set_option linter.unusedSimpArgs false
set_option maxRecDepth 100000
namespace Go.Proofs.YtohalepkikjinaaDoor
open Go.RowKit Go.Proofs.YtohalepkikjinaaDoor.Ml

def textAt (s : ByteArray) (L C : Int) : Option Int := if 1 ≤ C then atO s.data.toList L C else none
def textAtN (s : ByteArray) (L C : Int) : Int := (textAt s L C).getD 0
def textAtB (s : ByteArray) (L C : Int) : Bool := (textAt s L C).isSome
theorem retIB {a c : Int} {b d : Bool} (h : a = c) (h' : b = d) : Ending.returned (.tuple #[.int .i64 a, .bool b]) = Ending.returned (.tuple #[.int .i64 c, .bool d]) := by rw [h, h']

theorem where_at {s : ByteArray} {k : Nat} (hk : k ≤ s.size) : whereL s k = lineN (s.data.toList.take k) ∧ whereC s k = colN (s.data.toList.take k) := by
  unfold whereL whereC
  rw [if_pos ⟨by omega, by omega⟩, if_pos ⟨by omega, by omega⟩]
  exact ⟨rfl, rfl⟩

/-- the lines of the string, and the pieces of its bytes -/
theorem linesB_at (s : ByteArray) {j : Nat} (hj : j < (pcs [] s.data.toList).length) : j < (linesB s).length ∧ (lineOfB s ((j : Int) + 1)).size = (pcs [] s.data.toList)[j].length ∧ lineOk s ((j : Int) + 1) = true := by
  have h1 : (linesB s).length = (pcs [] s.data.toList).length := by simp [linesB]
  have h2 : 1 ≤ (j : Int) + 1 ∧ (j : Int) + 1 ≤ (linesB s).length := by omega
  refine ⟨by omega, ?_, decide_eq_true h2⟩
  unfold lineOfB
  rw [if_pos h2, show ((j : Int) + 1 - 1).toNat = j by omega, linesB, List.getElem?_map, List.getElem?_eq_getElem hj]
  show (List.toArray _).size = _
  simp
theorem lineOk_len (s : ByteArray) (n : Int) : lineOk s n = decide (1 ≤ n ∧ n ≤ (pcs [] s.data.toList).length) := by
  unfold lineOk; simp [linesB]

set_option maxHeartbeats 1000000 in
theorem impl_At {w : World} (s : ByteArray) (L C : Int) (hs : s.size ≤ 1048576) {mx : Int} (hmx : w.cell? ⟨0, 0, none⟩ = some (.int .i64 mx)) (hgl : 0 < w.heap.size) :
    Calls Tryd.prog 12 #[.string s, .int .i64 L, .int .i64 C] w fun e w' => e = .returned (.tuple #[.int .i64 (textAtN s L C), .bool (textAtB s L C)]) ∧ Below w.heap.size w w' := by
  by_cases hL : 1 ≤ L ∧ L ≤ (pcs [] s.data.toList).length
  · obtain ⟨j, rfl⟩ : ∃ j : Nat, L = (j : Int) + 1 := ⟨(L - 1).toNat, by omega⟩
    have hj : j < (pcs [] s.data.toList).length := by omega
    obtain ⟨hjl, hsz, hok⟩ := linesB_at s hj
    have hjb : j ≤ 1048576 := by have := linesB_le s; omega
    have htot : offs (pcs [] s.data.toList) (pcs [] s.data.toList).length = (s.size : Int) + 1 := by
      have h := pcs_total s.data.toList []
      have hlen : s.data.toList.length = s.size := Array.length_toList
      rw [hlen] at h
      rw [h]; show ((0 : Nat) : Int) + (s.size : Int) + 1 = _; omega
    have hmono := offs_mono (pcs [] s.data.toList)
    have hnn := offs_nonneg (pcs [] s.data.toList)
    have hszle : (lineOfB s ((j : Int) + 1)).size ≤ 1048576 := by
      have h1 := offs_succ _ j hj
      have h2 := hmono (j + 1)
      have h3 := hnn j
      omega
    by_cases hC : 1 ≤ C ∧ C ≤ (lineOfB s ((j : Int) + 1)).size + 1
    · have hR : textAt s ((j : Int) + 1) C = some (offs (pcs [] s.data.toList) j + C - 1) := by
        unfold textAt atO pick
        rw [if_pos hC.1, if_pos (by omega), show ((j : Int) + 1 - 1).toNat = j by omega, List.getElem?_eq_getElem hj]
        simp only
        rw [if_pos ⟨hC.1, by omega⟩]
      have HR := Lib.hid hR; clear hR
      have hC1 := hC.1
      have hd := hC.2
      have hC2 : C ≤ 1048577 := by omega
      clear hC hL hsz
      go_enter Tryd.func12, Tryd.ntmps12
      go_wp2_with fail
      refine (impl_LineOf s _ hs hmx).mono ?_
      rintro e w1 ⟨rfl, hb1⟩
      have hm1 := (hb1.cell (p := ⟨0, 0, none⟩) hgl).trans hmx
      have hg1 := Nat.lt_of_lt_of_le hgl hb1.size
      go_wp2_with fail
      refine (impl_within3 _ _ _).mono ?_
      rintro e w2 ⟨rfl, rfl⟩
      clear hok hmx hszle
      have HT := Lib.hid htot
      have HMO := Lib.hid hmono
      have HNN := Lib.hid hnn
      clear htot hmono hnn
      go_wp2_with fail
      go_loopw [8, 10, 11] (fun x a i wr => ∃ k : Nat, ∃ z : Int, k ≤ j ∧ i = .int .i64 ((k : Int) + 1) ∧ a = .int .i64 z ∧ 0 ≤ z ∧ z ≤ 3145728 ∧ Hid (z = C - 1 + offs (pcs [] s.data.toList) k) ∧ Below w.heap.size w wr ∧ wr.cell? ⟨0, 0, none⟩ = some (.int .i64 mx) ∧ 0 < wr.heap.size) (fun _ _ i _ => j + 1 - (intOf i).toNat)
      case atStart => exact ⟨0, C - 1, Nat.zero_le _, by go_num, rfl, by omega, by omega, by show _ = _; rw [offs_zero]; omega, hb1, hm1, hg1⟩
      case round =>
        obtain ⟨k, z, hk, rfl, rfl, hz0, hz1, HZ, hbel, hmr, hgr⟩ := hrel
        by_cases hlt : k < j
        · have hk' : k < (pcs [] s.data.toList).length := by omega
          obtain ⟨_, hsz, _⟩ := linesB_at s hk'
          have h1 := offs_succ _ k hk'
          have h2 := HMO.out (k + 1)
          have h3 := HNN.out k
          have h4 := HT.out
          have h5 := HZ.out
          have hz2 : z + (lineOfB s ((k : Int) + 1)).size + 1 ≤ 3145728 := by omega
          have HZ2 : Hid (z + (lineOfB s ((k : Int) + 1)).size + 1 = C - 1 + offs (pcs [] s.data.toList) (k + 1)) := by show _ = _; omega
          clear h1 h2 h3 h4 h5 hsz HZ hk' hd
          go_wp2_with fail
          refine (impl_LineOf s _ hs hmr).mono ?_
          rintro e w2 ⟨rfl, hb2⟩
          have b2 := belT hbel hb2 (Nat.le_refl _)
          have hm2 := (hb2.cell (p := ⟨0, 0, none⟩) hgr).trans hmr
          have hg2 := Nat.lt_of_lt_of_le hgr hb2.size
          clear hmr hgr
          go_wp2_with fail
          go_roundw
          case rel => exact ⟨k + 1, _, by omega, by go_num, rfl, by omega, hz2, HZ2, b2, hm2, hg2⟩
          case measure => simp [intOf]; omega
        · obtain rfl : k = j := by omega
          go_wp2_with fail
          go_ret2
          exact ⟨retIB (by rw [textAtN, HR.out, HZ.out]; simp only [Option.getD_some]; omega) (by rw [textAtB, HR.out]; rfl), hbel⟩
    · have hR : textAt s ((j : Int) + 1) C = none := by
        unfold textAt atO pick
        rw [if_pos (show 1 ≤ (j : Int) + 1 by omega), show ((j : Int) + 1 - 1).toNat = j by omega, List.getElem?_eq_getElem hj]
        simp only
        split
        · rw [if_neg (by omega)]
        · rfl
      have HR := Lib.hid hR; clear hR
      have hd : (decide ((1 : Int) ≤ C) && decide (C ≤ ((lineOfB s ((j : Int) + 1)).size : Int) + 1)) = false := by simp; omega
      clear hC hL hsz htot hmono hnn
      go_enter Tryd.func12, Tryd.ntmps12
      go_wp2_with fail
      refine (impl_LineOf s _ hs hmx).mono ?_
      rintro e w1 ⟨rfl, hb1⟩
      go_wp2_with fail
      refine (impl_within3 _ _ _).mono ?_
      rintro e w2 ⟨rfl, rfl⟩
      go_wp2_with fail
      go_ret2
      exact ⟨retIB (by rw [textAtN, HR.out]; rfl) (by rw [textAtB, HR.out]; rfl), hb1⟩
  · have hok : lineOk s L = false := by rw [lineOk_len]; exact decide_eq_false hL
    have HR : Hid (textAt s L C = none) := by
      show textAt s L C = none
      unfold textAt atO pick
      by_cases h1 : 1 ≤ L
      · rw [if_pos h1, List.getElem?_eq_none (by omega)]; split <;> rfl
      · rw [if_neg h1]; split <;> rfl
    clear hL
    go_enter Tryd.func12, Tryd.ntmps12
    go_wp2_with fail
    refine (impl_LineOf s _ hs hmx).mono ?_
    rintro e w1 ⟨rfl, hb1⟩
    go_wp2_with fail
    go_ret2
    exact ⟨retIB (by rw [textAtN, HR.out]; rfl) (by rw [textAtB, HR.out]; rfl), hb1⟩

end Go.Proofs.YtohalepkikjinaaDoor
