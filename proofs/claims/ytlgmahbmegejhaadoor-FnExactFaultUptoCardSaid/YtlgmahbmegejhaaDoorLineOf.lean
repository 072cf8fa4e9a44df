/-
  LineOf: the pieces, the program's and the reference's LineOf, the law's walk. Conditions: the text is at most 2^20 bytes; the library's variable MaxLen holds a number.
-/
import Derived.Test.YtlgmahbmegejhaaDoorRows
import Derived.Test.YtlgmahbmegejhaaDoorBase
import Derived.Test.YtlgmahbmegejhaaDoorWithin
import Derived.Test.YtlgmahbmegejhaaDoorPieces
import Derived.Test.YtlgmahbmegejhaaDoorSplit
set_option linter.unusedVariables false
set_option linter.unusedSimpArgs false
set_option maxRecDepth 100000
namespace Go.Proofs.YtlgmahbmegejhaaDoor
open Go.RowKit Go.Proofs.YtlgmahbmegejhaaDoor.Ml

theorem infoString : (Tryd.prog.info? 9).map (fun i => (i.zero, i.size, i.bytes)) = some (some (.string ByteArray.empty), 1, 16) := by kernel_rfl
/-- a row of strings that the call owns -/
def OwnS (w : World) (base : Nat) (v : Value) (l : List ByteArray) : Prop := w.ownsRow base 9 1 v l.length (l.map Value.string)
theorem OwnS.step {w : World} {base : Nat} {v : Value} {l : List ByteArray} {x : ByteArray} (h : w.ownsRow base 9 1 v (l.length + 1) (l.map Value.string ++ [.string x])) : OwnS w base v (l ++ [x]) := by
  unfold OwnS; simpa using h
/-- a row of strings at its place -/
def PiecesAt (w : World) (v : Value) (l : List ByteArray) : Prop := ∃ g c n, n = l.length ∧ v = .slice (some ⟨g, 0, none⟩) n c ∧ g < w.heap.size ∧ ∀ j (hj : j < l.length), w.cell? ⟨g, j, none⟩ = some (.string l[j])
theorem OwnS.at {w : World} {base : Nat} {v : Value} {l : List ByteArray} (h : OwnS w base v l) (hl : l ≠ []) : PiecesAt w v l := by
  have hh := h
  obtain ⟨h1, ⟨rfl, h3⟩ | ⟨g, cap, cur, rfl, h3, h4, h5, h6, h7, h8⟩⟩ := h
  · exact absurd (List.length_eq_zero_iff.mp h3) hl
  · refine ⟨g, cap, _, rfl, rfl, (World.ownsRow.lt hh g rfl).2, fun j hj => ?_⟩
    have := World.ownsRow.cells hh rfl j (.string l[j]) (by simp [hj])
    rcases Nat.eq_zero_or_pos j with rfl | hj0
    · simpa [Addr.add] using this
    · have hj1 : ¬ j = 0 := by omega
      simpa [Addr.add, hj1] using this
theorem ext_mk (s : ByteArray) (a k : Nat) : (⟨((s.data.toList.take k).drop a).toArray⟩ : ByteArray) = s.extract a k := by
  apply ByteArray.ext
  apply Array.ext'
  rw [ByteArray.data_extract, Array.toList_extract, List.drop_take]
theorem linesB_le (s : ByteArray) : (linesB s).length ≤ s.size + 1 := by
  unfold linesB; rw [List.length_map, pcs_count]
  have := List.count_le_length (a := (10 : UInt8)) (l := s.data.toList)
  rw [Array.length_toList] at this
  show _ ≤ s.data.size + 1
  omega
theorem linesB_ne (s : ByteArray) : linesB s ≠ [] := by
  unfold linesB; intro h; exact pcs_ne [] s.data.toList (List.map_eq_nil_iff.mp h)
def mkB (l : List UInt8) : ByteArray := ⟨l.toArray⟩

set_option maxHeartbeats 4000000 in
theorem spec_l14Pieces {w : World} (s : ByteArray) (hs : s.size ≤ 1048576) : Calls Tryd.prog 45 #[.string s] w fun e w' => (∃ v, e = .returned v ∧ PiecesAt w' v (linesB s)) ∧ Below w.heap.size w w' := by
  have hlen : s.data.toList.length = s.size := Array.length_toList
  obtain ⟨i0, hi, hz0, hz1, hz2⟩ := info_parts infoString
  go_enter Tryd.func45, Tryd.ntmps45
  go_wp2_with fail
  go_loopw [3, 4, 5] (fun v a i wr => ∃ k f : Nat, ∃ L : List ByteArray, k ≤ s.size ∧ f ≤ k ∧ a = .int .i64 f ∧ i = .int .i64 k ∧ L.length ≤ k ∧ OwnS wr w.heap.size v L ∧ Below w.heap.size w wr ∧ Hid (linesB s = L ++ (pcs ((s.data.toList.take k).drop f) (s.data.toList.drop k)).map mkB)) (fun _ _ i _ => s.size - (intOf i).toNat)
  case atStart => exact ⟨0, 0, [], Nat.zero_le _, Nat.le_refl _, rfl, rfl, Nat.le_refl _, World.ownsRow_lit (base := w.heap.size) (size := 1) w #[] 0 (Nat.le_refl _) (by decide) rfl, belA (bel0 _) (Nat.le_refl _) _, rfl⟩
  case round =>
    obtain ⟨k, f, L, hk, hf, rfl, rfl, hL, hown, hbel, HP⟩ := hrel
    by_cases hlt : k < s.size
    · have hlt' : k < s.data.toList.length := by omega
      have hg : s.data.toList[k]'hlt' = s[k]'hlt := by simp; rfl
      have HS := Lib.hid (pcs_step (l := s.data.toList) hf hlt')
      by_cases h9 : s[k]'hlt = 10
      · have HK : Hid (linesB s = (L ++ [s.extract f k]) ++ (pcs ((s.data.toList.take (k + 1)).drop (k + 1)) (s.data.toList.drop (k + 1))).map mkB) := by
          have h1 := HP.out
          rw [HS.out, hg, if_pos h9, List.map_cons] at h1
          have h2 : mkB ((s.data.toList.take k).drop f) = s.extract f k := ext_mk s f k
          show _ = _
          rw [h1, h2]; simp
        have hq : (((s[k]'hlt).toNat : Int) == 10) = true := by rw [h9]; rfl
        clear h9 HS hg hlen hlt' HP
        go_wp2_with (first | (at_builtin; refine wpList_append_own _ rfl _ _ 24 rfl w.heap.size 9 i0 (.string ByteArray.empty) 1 16 Tryd.underlying24 hi hz0 hz1 hz2 rfl (by decide) _ _ _ rfl (World.ownsRow.alloc hown _) ⟨wr.heap.size, 0, none⟩ 1 1 [.string (s.extract f k)] rfl rfl (cell1 _ _ _) (by simp [Value.oneCell']) (by unfold maxLen; omega) (by omega) (by have := hbel.size; simp; omega) ?_; intro v' w1 hown' hgrow _) | fail)
        have ho : OwnS w1 w.heap.size v' (L ++ [s.extract f k]) := OwnS.step hown'
        have hb : Below w.heap.size w w1 := (hbel.alloc hbel.size _).grown hgrow (by have := hbel.size; simp; omega) (fun g hg => (World.ownsRow.lt hown g hg).1)
        clear hown' hgrow hown hbel
        go_wp2_with fail
        go_roundw
        case rel => exact ⟨k + 1, k + 1, L ++ [s.extract f k], by omega, by omega, by go_num, by go_num, by simp; omega, ho, hb, HK⟩
        case measure => simp [intOf]; omega
      · have HK : Hid (linesB s = L ++ (pcs ((s.data.toList.take (k + 1)).drop f) (s.data.toList.drop (k + 1))).map mkB) := by
          have h1 := HP.out
          rw [HS.out, hg, if_neg h9] at h1
          exact h1
        have hq : (((s[k]'hlt).toNat : Int) == 10) = false := by
          simp; intro h; exact h9 (UInt8.toNat_inj.mp (by simpa using Int.ofNat.inj h))
        clear h9 HS hg hlen hlt' HP
        go_wp2_with fail
        go_roundw
        case rel => exact ⟨k + 1, f, L, by omega, by omega, by go_num, by go_num, by omega, hown, hbel, HK⟩
        case measure => simp [intOf]; omega
    · obtain rfl : k = s.size := by omega
      have HK : Hid (linesB s = L ++ [s.extract f s.size]) := by
        have h1 := HP.out
        have e0 : s.data.toList.drop s.size = [] := List.drop_of_length_le (by omega)
        rw [e0] at h1
        simp only [pcs] at h1
        have h2 : mkB ((s.data.toList.take s.size).drop f) = s.extract f s.size := ext_mk s f s.size
        show _ = _
        rw [h1, ← h2]; rfl
      clear HP hlen
      go_wp2_with (first | (at_builtin; refine wpList_append_own _ rfl _ _ 24 rfl w.heap.size 9 i0 (.string ByteArray.empty) 1 16 Tryd.underlying24 hi hz0 hz1 hz2 rfl (by decide) _ _ _ rfl (World.ownsRow.alloc hown _) ⟨wr.heap.size, 0, none⟩ 1 1 [.string (s.extract f s.size)] rfl rfl (cell1 _ _ _) (by simp [Value.oneCell']) (by unfold maxLen; omega) (by omega) (by have := hbel.size; simp; omega) ?_; intro v' w1 hown' hgrow _) | fail)
      have ho : OwnS w1 w.heap.size v' (L ++ [s.extract f s.size]) := OwnS.step hown'
      have hb : Below w.heap.size w w1 := (hbel.alloc hbel.size _).grown hgrow (by have := hbel.size; simp; omega) (fun g hg => (World.ownsRow.lt hown g hg).1)
      clear hown' hgrow hown hbel
      have hp : PiecesAt w1 v' (linesB s) := by rw [HK.out]; exact ho.at (by simp)
      clear ho HK
      go_wp2_with fail
      go_ret
      exact ⟨⟨_, rfl, hp⟩, hb⟩

theorem impl_Split {w : World} (s : ByteArray) (hs : s.size ≤ 1048576) {m : Int} (hm : w.cell? ⟨0, 0, none⟩ = some (.int .i64 m)) : Calls Tryd.prog 41 #[.string s, .string ⟨#[10]⟩] w fun e w' => (∃ v, e = .returned v ∧ PiecesAt w' v (linesB s)) ∧ Below w.heap.size w w' := by
  refine (strings_Split s ⟨#[10]⟩ m w (by omega) hm (by decide)).mono ?_
  rintro e w1 ⟨rfl, rfl⟩
  rw [splitB_lines]
  refine ⟨⟨_, rfl, w.heap.size, _, _, (linesB_len s).symm, rfl, by simp, fun j hj => ?_⟩, belA (bel0 _) (Nat.le_refl _) _⟩
  rw [(Blk.new w 9 ((linesB s).map Value.string).toArray).cells j]
  simp [hj]

def lineOfB (s : ByteArray) (n : Int) : ByteArray := if 1 ≤ n ∧ n ≤ (linesB s).length then (linesB s)[(n - 1).toNat]?.getD ⟨#[]⟩ else ⟨#[]⟩
def lineOk (s : ByteArray) (n : Int) : Bool := decide (1 ≤ n ∧ n ≤ (linesB s).length)
theorem retSB {a c : ByteArray} {b d : Bool} (h : a = c) (h' : b = d) : Ending.returned (.tuple #[.string a, .bool b]) = Ending.returned (.tuple #[.string c, .bool d]) := by rw [h, h']
set_option maxHeartbeats 1000000 in
theorem spec_LineOf {w : World} (s : ByteArray) (n : Int) (hs : s.size ≤ 1048576) : Calls Tryd.prog 23 #[.string s, .int .i64 n] w fun e w' => e = .returned (.tuple #[.string (lineOfB s n), .bool (lineOk s n)]) ∧ Below w.heap.size w w' := by
  have hl := linesB_le s
  by_cases hn : 1 ≤ n ∧ n ≤ (linesB s).length
  · obtain ⟨j, rfl⟩ : ∃ j : Nat, n = (j : Int) + 1 := ⟨(n - 1).toNat, by omega⟩
    have hj : j < (linesB s).length := by omega
    have hS : lineOfB s ((j : Int) + 1) = (linesB s)[j] := by
      unfold lineOfB; rw [if_pos hn, show ((j : Int) + 1 - 1).toNat = j by omega]; simp [hj]
    have hO : lineOk s ((j : Int) + 1) = true := decide_eq_true hn
    rw [hS, hO]; clear hS hO hn
    obtain ⟨x, hx⟩ : ∃ x, x = (linesB s)[j] := ⟨_, rfl⟩
    rw [← hx]
    go_enter Tryd.func23, Tryd.ntmps23
    go_wp2_with fail
    refine (spec_l14Pieces s hs).mono ?_
    rintro e w1 ⟨⟨v, rfl, g, c, N, hN, rfl, hgl, hc⟩, hb1⟩
    have y0 := hc j hj
    rw [← hx] at y0
    have hjN : j < N := by omega
    have hN2 : N ≤ 1048577 := by omega
    clear hc hx hN hj hl
    go_wp2_with fail
    go_ret2
    exact ⟨rfl, hb1⟩
  · have hS : lineOfB s n = ⟨#[]⟩ := if_neg hn
    have hO : lineOk s n = false := decide_eq_false hn
    rw [hS, hO]; clear hS hO
    obtain ⟨M, hM⟩ : ∃ M, M = (linesB s).length := ⟨_, rfl⟩
    rw [← hM] at hn hl
    by_cases h1 : n < 1
    · clear hn
      go_enter Tryd.func23, Tryd.ntmps23
      go_wp2_with fail
      refine (spec_l14Pieces s hs).mono ?_
      rintro e w1 ⟨⟨v, rfl, g, c, N, hN, rfl, hgl, hc⟩, hb1⟩
      clear hc
      go_wp2_with fail
      go_ret2
      exact ⟨rfl, hb1⟩
    · have h2 : (M : Int) < n := by omega
      clear hn
      go_enter Tryd.func23, Tryd.ntmps23
      go_wp2_with fail
      refine (spec_l14Pieces s hs).mono ?_
      rintro e w1 ⟨⟨v, rfl, g, c, N, hN, rfl, hgl, hc⟩, hb1⟩
      rw [← hM] at hN
      subst hN
      clear hc hM
      go_wp2_with fail
      go_ret2
      exact ⟨rfl, hb1⟩

set_option maxHeartbeats 1000000 in
theorem impl_LineOf {w : World} (s : ByteArray) (n : Int) (hs : s.size ≤ 1048576) {m : Int} (hm : w.cell? ⟨0, 0, none⟩ = some (.int .i64 m)) : Calls Tryd.prog 17 #[.string s, .int .i64 n] w fun e w' => e = .returned (.tuple #[.string (lineOfB s n), .bool (lineOk s n)]) ∧ Below w.heap.size w w' := by
  have hl := linesB_le s
  by_cases hn : 1 ≤ n ∧ n ≤ (linesB s).length
  · obtain ⟨j, rfl⟩ : ∃ j : Nat, n = (j : Int) + 1 := ⟨(n - 1).toNat, by omega⟩
    have hj : j < (linesB s).length := by omega
    have hS : lineOfB s ((j : Int) + 1) = (linesB s)[j] := by
      unfold lineOfB; rw [if_pos hn, show ((j : Int) + 1 - 1).toNat = j by omega]; simp [hj]
    have hO : lineOk s ((j : Int) + 1) = true := decide_eq_true hn
    rw [hS, hO]; clear hS hO hn
    obtain ⟨x, hx⟩ : ∃ x, x = (linesB s)[j] := ⟨_, rfl⟩
    rw [← hx]
    go_enter Tryd.func17, Tryd.ntmps17
    go_wp2_with fail
    refine (impl_Split s hs hm).mono ?_
    rintro e w1 ⟨⟨v, rfl, g, c, N, hN, rfl, hgl, hc⟩, hb1⟩
    have y0 := hc j hj
    rw [← hx] at y0
    have hjN : j < N := by omega
    have hN2 : N ≤ 1048577 := by omega
    clear hc hx hN hj hl
    go_wp2_with fail
    refine (impl_within3 _ _ _).mono ?_
    rintro e w2 ⟨rfl, rfl⟩
    have hd : (decide ((1 : Int) ≤ (j : Int) + 1) && decide ((j : Int) + 1 ≤ (N : Int))) = true := by simp; omega
    go_wp2_with fail
    go_ret2
    exact ⟨rfl, hb1⟩
  · have hS : lineOfB s n = ⟨#[]⟩ := if_neg hn
    have hO : lineOk s n = false := decide_eq_false hn
    rw [hS, hO]; clear hS hO
    obtain ⟨M, hM⟩ : ∃ M, M = (linesB s).length := ⟨_, rfl⟩
    rw [← hM] at hn hl
    have hd : (decide ((1 : Int) ≤ n) && decide (n ≤ (M : Int))) = false := by simp; omega
    clear hn
    go_enter Tryd.func17, Tryd.ntmps17
    go_wp2_with fail
    refine (impl_Split s hs hm).mono ?_
    rintro e w1 ⟨⟨v, rfl, g, c, N, hN, rfl, hgl, hc⟩, hb1⟩
    rw [← hM] at hN
    subst hN
    clear hc hM
    go_wp2_with fail
    refine (impl_within3 _ _ _).mono ?_
    rintro e w2 ⟨rfl, rfl⟩
    go_wp2_with fail
    go_ret2
    exact ⟨rfl, hb1⟩

end Go.Proofs.YtlgmahbmegejhaaDoor
