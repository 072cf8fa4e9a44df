/-
  LineOf: the pieces, the program's and the reference's LineOf, the law's walk. Conditions: the text is at most 2^20 bytes; the library's variable MaxLen holds a number.
-/
import Derived.Test.YtohalepkikjinaaDoorRows
import Derived.Test.YtohalepkikjinaaDoorBase
import Derived.Test.YtohalepkikjinaaDoorWithin
import Derived.Test.YtohalepkikjinaaDoorPieces
import Derived.Test.YtohalepkikjinaaDoorSplit
set_option linter.unusedVariables false
set_option linter.unusedSimpArgs false
set_option maxRecDepth 100000
namespace Go.Proofs.YtohalepkikjinaaDoor
open Go.RowKit Go.Proofs.YtohalepkikjinaaDoor.Ml

theorem infoString : (Tryd.prog.info? 9).map (fun i => (i.zero, i.size, i.bytes)) = some (some (.string ByteArray.empty), 1, 16) := by kernel_rfl
/-- a row of strings that the call owns -/
def OwnS (w : World) (base : Nat) (v : Value) (l : List ByteArray) : Prop := w.ownsRow base 9 1 v l.length (l.map Value.string)
theorem OwnS.step {w : World} {base : Nat} {v : Value} {l : List ByteArray} {x : ByteArray} (h : w.ownsRow base 9 1 v (l.length + 1) (l.map Value.string ++ [.string x])) : OwnS w base v (l ++ [x]) := by
  unfold OwnS; simpa using h
/-- a row of strings at its place -/
def PiecesAt (w : World) (v : Value) (l : List ByteArray) : Prop := ∃ g c n, n = l.length ∧ v = .slice (some ⟨g, 0, none⟩) n c ∧ g < w.heap.size ∧ ∀ j (hj : j < l.length), w.cell? ⟨g, j, none⟩ = some (.string l[j])
theorem OwnS.at {w : World} {base : Nat} {v : Value} {l : List ByteArray} (h : OwnS w base v l) (hl : l ≠ []) : PiecesAt w v l := by
  have hh := h
  obtain ⟨h1, ⟨rfl, h3⟩ | ⟨g, cap, cur, rfl, h3, h4, h5, h6, h7, h8⟩⟩ := h
  · exact absurd (List.length_eq_zero_iff.mp h3) hl
  · refine ⟨g, cap, _, rfl, rfl, (World.ownsRow.lt hh g rfl).2, fun j hj => ?_⟩
    have := World.ownsRow.cells hh rfl j (.string l[j]) (by simp [hj])
    rcases Nat.eq_zero_or_pos j with rfl | hj0
    · simpa [Addr.add] using this
    · have hj1 : ¬ j = 0 := by omega
      simpa [Addr.add, hj1] using this
theorem ext_mk (s : ByteArray) (a k : Nat) : (⟨((s.data.toList.take k).drop a).toArray⟩ : ByteArray) = s.extract a k := by
  apply ByteArray.ext
  apply Array.ext'
  rw [ByteArray.data_extract, Array.toList_extract, List.drop_take]
theorem linesB_le (s : ByteArray) : (linesB s).length ≤ s.size + 1 := by
  unfold linesB; rw [List.length_map, pcs_count]
  have := List.count_le_length (a := (10 : UInt8)) (l := s.data.toList)
  rw [Array.length_toList] at this
  show _ ≤ s.data.size + 1
  omega
theorem linesB_ne (s : ByteArray) : linesB s ≠ [] := by
  unfold linesB; intro h; exact pcs_ne [] s.data.toList (List.map_eq_nil_iff.mp h)
def mkB (l : List UInt8) : ByteArray := ⟨l.toArray⟩

theorem impl_Split {w : World} (s : ByteArray) (hs : s.size ≤ 1048576) {m : Int} (hm : w.cell? ⟨0, 0, none⟩ = some (.int .i64 m)) : Calls Tryd.prog 16 #[.string s, .string ⟨#[10]⟩] w fun e w' => (∃ v, e = .returned v ∧ PiecesAt w' v (linesB s)) ∧ Below w.heap.size w w' := by
  refine (strings_Split s ⟨#[10]⟩ m w (by omega) hm (by decide)).mono ?_
  rintro e w1 ⟨rfl, rfl⟩
  rw [splitB_lines]
  refine ⟨⟨_, rfl, w.heap.size, _, _, (linesB_len s).symm, rfl, by simp, fun j hj => ?_⟩, belA (bel0 _) (Nat.le_refl _) _⟩
  rw [(Blk.new w 9 ((linesB s).map Value.string).toArray).cells j]
  simp [hj]

def lineOfB (s : ByteArray) (n : Int) : ByteArray := if 1 ≤ n ∧ n ≤ (linesB s).length then (linesB s)[(n - 1).toNat]?.getD ⟨#[]⟩ else ⟨#[]⟩
def lineOk (s : ByteArray) (n : Int) : Bool := decide (1 ≤ n ∧ n ≤ (linesB s).length)
theorem retSB {a c : ByteArray} {b d : Bool} (h : a = c) (h' : b = d) : Ending.returned (.tuple #[.string a, .bool b]) = Ending.returned (.tuple #[.string c, .bool d]) := by rw [h, h']
set_option maxHeartbeats 1000000 in
theorem impl_LineOf {w : World} (s : ByteArray) (n : Int) (hs : s.size ≤ 1048576) {m : Int} (hm : w.cell? ⟨0, 0, none⟩ = some (.int .i64 m)) : Calls Tryd.prog 8 #[.string s, .int .i64 n] w fun e w' => e = .returned (.tuple #[.string (lineOfB s n), .bool (lineOk s n)]) ∧ Below w.heap.size w w' := by
  have hl := linesB_le s
  by_cases hn : 1 ≤ n ∧ n ≤ (linesB s).length
  · obtain ⟨j, rfl⟩ : ∃ j : Nat, n = (j : Int) + 1 := ⟨(n - 1).toNat, by omega⟩
    have hj : j < (linesB s).length := by omega
    have hS : lineOfB s ((j : Int) + 1) = (linesB s)[j] := by
      unfold lineOfB; rw [if_pos hn, show ((j : Int) + 1 - 1).toNat = j by omega]; simp [hj]
    have hO : lineOk s ((j : Int) + 1) = true := decide_eq_true hn
    rw [hS, hO]; clear hS hO hn
    obtain ⟨x, hx⟩ : ∃ x, x = (linesB s)[j] := ⟨_, rfl⟩
    rw [← hx]
    go_enter Tryd.func8, Tryd.ntmps8
    go_wp2_with fail
    refine (impl_Split s hs hm).mono ?_
    rintro e w1 ⟨⟨v, rfl, g, c, N, hN, rfl, hgl, hc⟩, hb1⟩
    have y0 := hc j hj
    rw [← hx] at y0
    have hjN : j < N := by omega
    have hN2 : N ≤ 1048577 := by omega
    clear hc hx hN hj hl
    go_wp2_with fail
    refine (impl_within3 _ _ _).mono ?_
    rintro e w2 ⟨rfl, rfl⟩
    have hd : (decide ((1 : Int) ≤ (j : Int) + 1) && decide ((j : Int) + 1 ≤ (N : Int))) = true := by simp; omega
    go_wp2_with fail
    go_ret2
    exact ⟨rfl, hb1⟩
  · have hS : lineOfB s n = ⟨#[]⟩ := if_neg hn
    have hO : lineOk s n = false := decide_eq_false hn
    rw [hS, hO]; clear hS hO
    obtain ⟨M, hM⟩ : ∃ M, M = (linesB s).length := ⟨_, rfl⟩
    rw [← hM] at hn hl
    have hd : (decide ((1 : Int) ≤ n) && decide (n ≤ (M : Int))) = false := by simp; omega
    clear hn
    go_enter Tryd.func8, Tryd.ntmps8
    go_wp2_with fail
    refine (impl_Split s hs hm).mono ?_
    rintro e w1 ⟨⟨v, rfl, g, c, N, hN, rfl, hgl, hc⟩, hb1⟩
    rw [← hM] at hN
    subst hN
    clear hc hM
    go_wp2_with fail
    refine (impl_within3 _ _ _).mono ?_
    rintro e w2 ⟨rfl, rfl⟩
    go_wp2_with fail
    go_ret2
    exact ⟨rfl, hb1⟩

end Go.Proofs.YtohalepkikjinaaDoor
