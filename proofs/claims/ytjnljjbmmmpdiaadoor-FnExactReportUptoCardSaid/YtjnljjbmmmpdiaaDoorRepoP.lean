/-
 Lines of a report in plain Lean: one letter of a string for some, the lines, the whole. Conditions: none.
-/
import Derived.Test.YtjnljjbmmmpdiaaDoorDOut
import Derived.Test.YtjnljjbmmmpdiaaDoorNumA
import Derived.Shelf.Strings.Replace
set_option linter.unusedVariables false
set_option linter.unusedSimpArgs false
namespace Go.Proofs.YtjnljjbmmmpdiaaDoor
open Go.RowKit Go.Proofs.YtjnljjbmmmpdiaaDoor.Av Go.Proofs.YtjnljjbmmmpdiaaDoor.Ml
open Go.Proofs.YtjnljjbmmmpdiaaDoor.Av.AVal (av)

theorem index_w (c : UInt8) (b : UInt8) (t : List UInt8) : Lib.index (b :: t) [c] = if b = c then 0 else if Lib.index t [c] = -1 then -1 else Lib.index t [c] + 1 := by
 unfold Lib.index
 by_cases h : b = c
 ·subst h; simp [List.isPrefixOf]
 ·have h' : ([c] : List UInt8).isPrefixOf (b :: t) = false := by simp [List.isPrefixOf]; exact fun e => h e.symm
  rw [h', if_neg h]
  cases t <;> simp [Lib.index]
def wideL (a : UInt8) (n l : List UInt8) : List UInt8 := l.flatMap fun x => if x = a then n else [x]
theorem replaceK_wide (a : UInt8) (n l : List UInt8) : ∀ (k : Nat), Lib.count l [a] ≤ k → Lib.replaceK [a] n k l = wideL a n l := by
 induction l with
 | nil =>
  intro k _
  cases k <;> simp [Lib.replaceK, Lib.index, wideL]
 | cons x t ih =>
  intro k hk
  have hi := index_w a x t
  have hge := Lib.index_ge t [a]
  by_cases hb : x = a
  ·rw [if_pos hb] at hi
   have hc := Lib.count_hit (s := x :: t) (sub := [a]) (i := 0) (by simp) (by rw [hi] <;> rfl)
   simp only [List.length_cons, List.length_nil, Nat.zero_add, List.drop_succ_cons, List.drop_zero] at hc
   obtain ⟨k, rfl⟩ : ∃ k', k = k' + 1 := ⟨k - 1, by omega⟩
   rw [Lib.replaceK_hit [a] n k (x :: t) 0 (by rw [hi]; rfl)]
   have := ih k (by omega)
   simp only [wideL] at this ⊢
   simp [this, hb]
  ·rw [if_neg hb] at hi
   by_cases hm : Lib.index t [a] = -1
   ·rw [if_pos hm] at hi
    have hc : Lib.count t [a] = 0 := Lib.count_miss hm
    have h0 := ih 0 (by omega)
    simp only [wideL, Lib.replaceK] at h0 ⊢
    cases k with
    | zero => simp [Lib.replaceK, hb, ← h0]
    | succ k => simp [Lib.replaceK, hi, hb, ← h0]
   ·rw [if_neg hm] at hi
    obtain ⟨i, hi2⟩ : ∃ i : Nat, Lib.index t [a] = i := ⟨(Lib.index t [a]).toNat, by omega⟩
    rw [hi2] at hi
    have hc := Lib.count_hit (s := x :: t) (sub := [a]) (i := i + 1) (by simp) (by rw [hi] <;> rfl)
    have hc2 := Lib.count_hit (s := t) (sub := [a]) (i := i) (by simp) hi2
    simp only [List.length_cons, List.length_nil, Nat.zero_add, List.drop_succ_cons] at hc hc2
    obtain ⟨k, rfl⟩ : ∃ k', k = k' + 1 := ⟨k - 1, by omega⟩
    have h1 := ih (k + 1) (by omega)
    rw [Lib.replaceK_hit [a] n k t i hi2] at h1
    rw [Lib.replaceK_hit [a] n k (x :: t) (i + 1) (by rw [hi]; rfl)]
    have e : wideL a n (x :: t) = x :: wideL a n t := by simp [wideL, hb]
    rw [e, ← h1]
    simp [show i + 1 + 1 = (i + 1) + 1 from rfl]
theorem replaceAll_wide (a : UInt8) (n : List UInt8) (h : [a] ≠ n) (l : List UInt8) : Lib.replaceAll l [a] n = wideL a n l := by
 have h1 : ¬ (([a] : List UInt8) == n) = true := by simp; exact h
 have h2 : Lib.replaceNum l [a] (-1) = Lib.count l [a] := by unfold Lib.replaceNum; rw [if_pos (.inl (by omega))]
 rw [Lib.replaceAll, Lib.replace, if_neg h1, h2]
 exact replaceK_wide a n l _ (Nat.le_refl _)
def lineB (b : UInt8) : List UInt8 := if b = 10 then [92, 110] else if b = 92 then [92, 92] else [b]
def lineL (l : List UInt8) : List UInt8 := l.flatMap lineB
def lineS (s : ByteArray) : ByteArray := ⟨(lineL s.data.toList).toArray⟩
theorem line_wide (l : List UInt8) : wideL 10 [92, 110] (wideL 92 [92, 92] l) = lineL l := by
 induction l with
 | nil => rfl
 | cons b r ih =>
  have e1 : wideL 92 [92, 92] (b :: r) = (if b = 92 then [92, 92] else [b]) ++ wideL 92 [92, 92] r := rfl
  have e2 : ∀ x y, wideL 10 [92, 110] (x ++ y) = wideL 10 [92, 110] x ++ wideL 10 [92, 110] y := fun x y => by simp [wideL]
  have e3 : lineL (b :: r) = lineB b ++ lineL r := rfl
  rw [e1, e2, ih, e3]
  congr 1
  unfold lineB
  by_cases h : b = 92
  ·subst h; simp [wideL]
  ·by_cases h2 : b = 10
   ·subst h2; simp [wideL]
   ·simp [wideL, h, h2]
theorem lineB_len (b : UInt8) : (lineB b).length ≤ 2 := by
 unfold lineB
 repeat' split
 all_goals simp
theorem lineL_len (l : List UInt8) : (lineL l).length ≤ 2 * l.length := by
 induction l with
 | nil => simp [lineL]
 | cons b r ih =>
  have := lineB_len b
  simp only [lineL, List.flatMap_cons, List.length_cons, List.length_append] at ih ⊢
  omega
theorem wideL_len (a : UInt8) (n l : List UInt8) (h : n.length = 2) : (wideL a n l).length ≤ 2 * l.length := by
 induction l with
 | nil => simp [wideL]
 | cons b r ih =>
  have e : (wideL a n (b :: r)).length = (if b = a then n else [b]).length + (wideL a n r).length := by simp only [wideL, List.flatMap_cons, List.length_append]
  rw [e, List.length_cons]
  split
  ·omega
  ·rw [List.length_singleton]; omega
theorem lineS_len (s : ByteArray) : (lineS s).size ≤ 2 * s.size := by
 have := lineL_len s.data.toList
 have h2 : s.data.toList.length = s.size := by simp
 show (List.toArray _).size ≤ _
 simp only [List.size_toArray]; omega
def outL (l : List ByteArray) : List UInt8 := l.flatMap fun s => lineL s.data.toList ++ [10]
def outS (l : List ByteArray) : ByteArray := ⟨(outL l).toArray⟩
theorem outS_nil : outS [] = bs [] := rfl
theorem outS_size (l : List ByteArray) : (outS l).size ≤ 2 * Bulk.bulk l := by
 show (List.toArray _).size ≤ _
 simp only [List.size_toArray]
 induction l with
 | nil => simp [outL]
 | cons s r ih =>
  have := lineL_len s.data.toList
  have h2 : s.data.toList.length = s.size := by simp
  have h3 : Bulk.bulk (s :: r) = Bulk.bulk s + Bulk.bulk r := rfl
  have h4 : Bulk.bulk s = s.size + 1 := rfl
  simp only [outL, List.flatMap_cons, List.length_append, List.length_cons, List.length_nil] at ih ⊢
  omega
theorem outS_snoc (l : List ByteArray) (s : ByteArray) : outS (l ++ [s]) = outS l ++ lineS s ++ bs [10] := by
 apply ByteArray.ext
 apply Array.ext'
 simp [outS, outL, lineS, bs, ByteArray.data_append]
def endS (k n : Int) : ByteArray :=
 if k = 1 then bs [100, 111, 110, 101] else if k = 2 then bs [114, 97, 105, 115, 101, 100, 32] ++ numS n else if k = 3 then bs [115, 116, 101, 112, 115] else if k = 4 then bs [98, 97, 100] else if k = 5 then bs [104, 101, 97, 112] else bs [45]
def reportS (o : Outcome) : ByteArray := outS o.trace ++ endS o.kind o.n ++ bs [10]
end Go.Proofs.YtjnljjbmmmpdiaaDoor
