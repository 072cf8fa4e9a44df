/-
  What TextNum answers, in plain Lean. Conditions: none.
-/
import Derived.Test.YtpnnhgminiihnaaDoorNumA
set_option linter.unusedVariables false
set_option linter.unusedSimpArgs false
set_option maxRecDepth 100000
namespace Go.Proofs.YtpnnhgminiihnaaDoor
open Go.RowKit Go.Proofs.YtpnnhgminiihnaaDoor.Av Go.Proofs.YtpnnhgminiihnaaDoor.Ml
open Go.Proofs.YtpnnhgminiihnaaDoor.Av.AVal (av)

def digRun : List UInt8 → Nat → Option Nat
  | [], n => some n
  | b :: l, n => if (48 ≤ b.toNat ∧ b.toNat ≤ 57) ∧ n ≤ 500000000000000000 then digRun l (10 * n + (b.toNat - 48)) else none
def minus (s : ByteArray) : Nat := if (byteAt s 0).toNat = 45 then 1 else 0
def textN (s : ByteArray) : Option Int :=
  if s.size = 0 ∨ 20 < s.size then none else
  match digRun (s.data.toList.drop (minus s)) 0 with
  | none => none
  | some k => if numS (if minus s = 1 then -(k : Int) else k) = s then some (if minus s = 1 then -(k : Int) else k) else none
def textR (s : ByteArray) : AV := match textN s with
  | some n => .tup [.int .i64 n, .bool true]
  | none => .tup [.int .i64 0, .bool false]
theorem textR_pure (s : ByteArray) : AvPure (textR s) := by
  unfold textR; split
  · exact AvPure.tup (by simp; exact ⟨pint _, AvPure.bool _⟩)
  · exact AvPure.tup (by simp; exact ⟨pint _, AvPure.bool _⟩)
theorem textR_no (s : ByteArray) (h : textN s = none) : textR s = .tup [.int .i64 0, .bool false] := by unfold textR; rw [h]
theorem textR_yes (s : ByteArray) (n : Int) (h : textN s = some n) : textR s = .tup [.int .i64 n, .bool true] := by unfold textR; rw [h]
theorem textN_size (s : ByteArray) (h : s.size = 0 ∨ 20 < s.size) : textN s = none := by unfold textN; rw [if_pos h]
theorem textN_none (s : ByteArray) (h : digRun (s.data.toList.drop (minus s)) 0 = none) : textN s = none := by unfold textN; rw [h]; simp
theorem textN_some (s : ByteArray) (h0 : ¬ (s.size = 0 ∨ 20 < s.size)) (k : Nat) (h : digRun (s.data.toList.drop (minus s)) 0 = some k) :
    textN s = if numS (if minus s = 1 then -(k : Int) else k) = s then some (if minus s = 1 then -(k : Int) else k) else none := by unfold textN; rw [if_neg h0, h]
theorem bytes_drop (s : ByteArray) {i : Nat} (h : i < s.size) : s.data.toList.drop i = byteAt s i :: s.data.toList.drop (i + 1) := by
  have h' : i < s.data.toList.length := by simpa using h
  rw [List.drop_eq_getElem_cons h']
  congr 1
  have h2 : i < s.data.size := h
  simp only [byteAt, Array.getD_eq_getD_getElem?, Array.getElem?_eq_getElem h2, Option.getD_some, Array.getElem_toList]
theorem bytes_end (s : ByteArray) {i : Nat} (h : s.size ≤ i) : s.data.toList.drop i = [] := by
  rw [List.drop_eq_nil_iff]; simpa using h
theorem digRun_step (s : ByteArray) {i n : Nat} (h : i < s.size) : digRun (s.data.toList.drop i) n =
    if (48 ≤ (byteAt s i).toNat ∧ (byteAt s i).toNat ≤ 57) ∧ n ≤ 500000000000000000 then digRun (s.data.toList.drop (i + 1)) (10 * n + ((byteAt s i).toNat - 48)) else none := by
  rw [bytes_drop s h]; rfl
theorem minus_le (s : ByteArray) : minus s ≤ 1 := by unfold minus; split <;> omega
/-- where the run stands: at letter i with number n. -/
def TPre (s : ByteArray) (i n : Nat) : Prop := minus s ≤ i ∧ i ≤ s.size ∧ n ≤ 5000000000000000009 ∧ digRun (s.data.toList.drop i) n = digRun (s.data.toList.drop (minus s)) 0
theorem TPre_start (s : ByteArray) (h : s.size ≠ 0) : TPre s (minus s) 0 := ⟨Nat.le_refl _, by have := minus_le s; omega, by omega, rfl⟩
theorem TPre_next (s : ByteArray) {i n : Nat} (h : TPre s i n) (hi : i < s.size) (hb : 48 ≤ (byteAt s i).toNat ∧ (byteAt s i).toNat ≤ 57) (hn : n ≤ 500000000000000000) : TPre s (i + 1) (10 * n + ((byteAt s i).toNat - 48)) := by
  obtain ⟨h1, h2, h3, h4⟩ := h
  refine ⟨by omega, by omega, by omega, ?_⟩
  rw [← h4, digRun_step s hi, if_pos ⟨hb, hn⟩]
theorem TPre_bad (s : ByteArray) {i n : Nat} (h : TPre s i n) (hi : i < s.size) (hb : ¬ ((48 ≤ (byteAt s i).toNat ∧ (byteAt s i).toNat ≤ 57) ∧ n ≤ 500000000000000000)) : textR s = .tup [.int .i64 0, .bool false] := by
  apply textR_no
  apply textN_none
  rw [← h.2.2.2, digRun_step s hi, if_neg hb]
theorem TPre_end (s : ByteArray) {n : Nat} (h : TPre s s.size n) (h0 : ¬ (s.size = 0 ∨ 20 < s.size)) : textR s = if numS (if minus s = 1 then -(n : Int) else n) = s then .tup [.int .i64 (if minus s = 1 then -(n : Int) else n), .bool true] else .tup [.int .i64 0, .bool false] := by
  have he := h.2.2.2
  rw [bytes_end s (Nat.le_refl _)] at he
  have := textN_some s h0 n he.symm
  by_cases hs : numS (if minus s = 1 then -(n : Int) else n) = s
  · rw [if_pos hs] at this ⊢; exact textR_yes _ _ this
  · rw [if_neg hs] at this ⊢; exact textR_no _ this
end Go.Proofs.YtpnnhgminiihnaaDoor
