/-
  HOW A VALUE IS SHOWN, told plainly. Conditions: none.
-/
import Derived.Test.YtpignflebknagaaHeapA
import Derived.Test.YtpignflebknagaaQuote
import Derived.Test.YtpignflebknagaaGiven
set_option linter.unusedVariables false
set_option linter.unusedSimpArgs false
namespace Go.Proofs.Ytpignflebknagaa
open Go.RowKit Go.Proofs.Ytpignflebknagaa.Av Go.Proofs.Ytpignflebknagaa.Ml
open Go.Proofs.Ytpignflebknagaa.Av.AVal (av)

def leafV (v : Val) (x : ByteArray) : ByteArray :=
  if v.kind = 1 then numS v.n else if v.kind = 2 then quoteS v.s else if v.kind = 3 then bs [40, 41] else if v.kind = 4 then v.s
  else if v.kind = 5 then bs [60] ++ v.s ++ bs [62] else if v.kind = 7 then bs [45] else x
def cellT (c : Cell) (a b : ByteArray) : ByteArray :=
  if c.kind = 1 then bs [40] ++ c.s ++ bs [32] ++ a ++ bs [41]
  else if c.kind = 2 then bs [40] ++ a ++ bs [44, 32] ++ b ++ bs [41]
  else if c.kind = 3 then bs [60, 102, 117, 110, 32] ++ numS c.n ++ bs [32] ++ a ++ bs [62]
  else if c.kind = 4 then bs [60, 114, 101, 99, 32] ++ numS c.n ++ bs [32] ++ a ++ bs [62]
  else if c.kind = 5 then bs [123] ++ a ++ bs [125]
  else bs [91] ++ a ++ bs [32] ++ b ++ bs [93]
def noVal : Val := ⟨0, 0, bs []⟩
def noCell : Cell := ⟨0, 0, bs [], noVal, noVal⟩
def showV (h : List Cell) : Nat → Val → ByteArray
  | 0, v => leafV v (bs [63])
  | d + 1, v => leafV v (cellT (h.getD v.n.toNat noCell) (showV h d (h.getD v.n.toNat noCell).a) (showV h d (h.getD v.n.toNat noCell).b))

/-- the texts of a heap are small -/
def SmallV (v : Val) : Prop := v.s.size ≤ 1048576
def SmallC (c : Cell) : Prop := c.s.size ≤ 1048576 ∧ SmallV c.a ∧ SmallV c.b
theorem quoteS_size (s : ByteArray) : (quoteS s).size ≤ 4 * s.size + 2 := by
  have := quoteL_len s.data.toList
  have h2 : s.data.toList.length = s.size := by simp
  show (List.toArray _).size ≤ _
  simp only [List.size_toArray, List.length_append, List.length_cons, List.length_nil]
  omega
theorem bs_size (l : List Nat) : (bs l).size = l.length := by
  show (List.toArray _).size = _; simp
theorem leafV_size {v : Val} {x : ByteArray} {M : Nat} (hv : SmallV v) (hM : 8388608 ≤ M) (hx : x.size ≤ M) : (leafV v x).size ≤ M := by
  have h1 := numS_le v.n
  have h2 := quoteS_size v.s
  unfold SmallV at hv
  unfold leafV
  repeat' split
  all_goals (first | omega | (simp only [ByteArray.size_append, bs_size, List.length_cons, List.length_nil]; omega))
theorem cellT_size {c : Cell} {a b : ByteArray} {M : Nat} (hc : SmallC c) (hM : 8388608 ≤ M) (ha : a.size ≤ M) (hb : b.size ≤ M) : (cellT c a b).size ≤ 4 * M := by
  have h1 := numS_le c.n
  have h2 := hc.1
  unfold cellT
  repeat' split
  all_goals (simp only [ByteArray.size_append, bs_size, List.length_cons, List.length_nil]; omega)
theorem noCell_small : SmallC noCell := by
  have : (bs []).size = 0 := bs_size []
  unfold SmallC SmallV noCell noVal; simp only [this]; omega
theorem showV_size {h : List Cell} (hh : ∀ c ∈ h, SmallC c) : ∀ (d : Nat) (v : Val), SmallV v → (showV h d v).size ≤ 8388608 * 4 ^ d
  | 0, v, hv => by
    rw [showV]
    exact leafV_size hv (by omega) (by rw [bs_size]; simp)
  | d + 1, v, hv => by
    rw [showV]
    have hc : SmallC (h.getD v.n.toNat noCell) := by
      rw [List.getD_eq_getElem?_getD]
      by_cases hlt : v.n.toNat < h.length
      · rw [List.getElem?_eq_getElem hlt]; exact hh _ (List.getElem_mem hlt)
      · rw [List.getElem?_eq_none (by omega)]; exact noCell_small
    have hp : 1 ≤ 4 ^ d := Nat.one_le_pow _ _ (by decide)
    have ha := showV_size hh d _ hc.2.1
    have hb := showV_size hh d _ hc.2.2
    have := cellT_size hc (M := 8388608 * 4 ^ d) (by omega) ha hb
    exact leafV_size hv (by rw [Nat.pow_succ]; omega) (by rw [Nat.pow_succ]; omega)
def CellR (c : Cell) : Prop := (-9223372036854775808 ≤ c.n ∧ c.n ≤ 9223372036854775807) ∧ ValR c.a ∧ ValR c.b
theorem heap_range {S : Nat → Prop} {w : World} {μ : Mu} {v : Value} {h : List Cell} (hv : VR S w μ v (.sl (h.map av))) : ∀ c ∈ h, CellR c := by
  intro c hc
  have hm : av c ∈ h.map av := List.mem_map.2 ⟨c, hc, rfl⟩
  refine ⟨?_, ?_, ?_⟩
  · obtain ⟨u, hu⟩ := vr_sl_cells hv hm (x := .int .i64 c.n) (by rw [av_Cell]; simp [AV.cells])
    exact vr_int hu
  · obtain ⟨u, hu⟩ := vr_sl_cells hv hm (x := .int .i64 c.a.n) (by rw [av_Cell]; simp [AV.cells])
    exact vr_int hu
  · obtain ⟨u, hu⟩ := vr_sl_cells hv hm (x := .int .i64 c.b.n) (by rw [av_Cell]; simp [AV.cells])
    exact vr_int hu
theorem roots_range {S : Nat → Prop} {w : World} {μ : Mu} {v : Value} {h : List Val} (hv : VR S w μ v (.sl (h.map av))) : ∀ c ∈ h, ValR c := by
  intro c hc
  have hm : av c ∈ h.map av := List.mem_map.2 ⟨c, hc, rfl⟩
  obtain ⟨u, hu⟩ := vr_sl_cells hv hm (x := .int .i64 c.n) (by rw [av_Val]; simp [AV.cells])
  exact vr_int hu
theorem val_vr {S : Nat → Prop} {w : World} {μ : Mu} {v : Value} {x : Val} (hv : VR S w μ v (av x)) : ValR x := by
  rw [av_Val] at hv
  cases hv with
  | agg cs _ hl h1 hh =>
    have hl' : cs.size = 3 := hl
    exact vr_int (hh 1 (cs[1]'(by omega)) (.int .i64 x.n) (by simp [hl']) rfl)
end Go.Proofs.Ytpignflebknagaa
