/-
 NUMBERS AS TEXT, told plainly. Conditions: none.
-/
import Derived.Test.YtjnljjbmmmpdiaaDoorAvRep
set_option linter.unusedVariables false
set_option linter.unusedSimpArgs false
namespace Go.Proofs.YtjnljjbmmmpdiaaDoor
open Go.RowKit Go.Proofs.YtjnljjbmmmpdiaaDoor.Av Go.Proofs.YtjnljjbmmmpdiaaDoor.Ml
open Go.Proofs.YtjnljjbmmmpdiaaDoor.Av.AVal (av)

def dig (k : Nat) : List UInt8 := if h : k < 10 then [UInt8.ofNat (48 + k)] else dig (k / 10) ++ [UInt8.ofNat (48 + k % 10)]
termination_by k
decreasing_by exact Nat.div_lt_self (by omega) (by decide)
def digS (k : Nat) : ByteArray := ⟨(dig k).toArray⟩
theorem dig_small {k : Nat} (h : k < 10) : dig k = [UInt8.ofNat (48 + k)] := by rw [dig, dif_pos h]
theorem dig_great {k : Nat} (h : ¬ k < 10) : dig k = dig (k / 10) ++ [UInt8.ofNat (48 + k % 10)] := by rw [dig, dif_neg h]

theorem dig_len : ∀ (n k : Nat), 1 ≤ n → k < 10 ^ n → (dig k).length ≤ n
 | 0, _, h, _ => absurd h (by decide)
 | n + 1, k, _, hk => by
  by_cases h : k < 10
  ·rw [dig_small h]; simp
  ·rw [dig_great h]
   have h1 : 1 ≤ n := by
    rcases Nat.eq_zero_or_pos n with rfl | h1
    ·simp at hk; omega
    ·exact h1
   have := dig_len n (k / 10) h1 (by rw [Nat.pow_succ] at hk; omega)
   simp; exact this

def numS (n : Int) : ByteArray := if -4611686018427387904 ≤ n ∧ n ≤ 4611686018427387903 then (if n < 0 then ⟨#[45]⟩ ++ digS (-n).toNat else digS n.toNat) else ⟨#[]⟩
theorem digS_le (k : Nat) (hk : k ≤ 9223372036854775808) : (digS k).size ≤ 64 := by
 have := dig_len 20 k (by decide) (by omega)
 show (List.toArray _).size ≤ 64
 simp; omega
theorem numS_le (n : Int) : (numS n).size ≤ 65 := by
 unfold numS
 split
 ·split
  ·rw [ByteArray.size_append]; have := digS_le (-n).toNat (by omega); have h : (⟨#[45]⟩ : ByteArray).size = 1 := rfl; omega
  ·have := digS_le n.toNat (by omega); omega
 ·show (0 : Nat) ≤ 65; omega

theorem digS_small {k : Nat} (h : k < 10) : digS k = ⟨[UInt8.ofNat (48 + k)].toArray⟩ := by unfold digS; rw [dig_small h]
theorem digS_great {k : Nat} (h : ¬ k < 10) : digS k = digS (k / 10) ++ ⟨[UInt8.ofNat (48 + k % 10)].toArray⟩ := by
 unfold digS; rw [dig_great h]; first | (rw [ByteArray.mk_append_mk]; done) | (rw [ByteArray.mk_append_mk]; simp)
theorem av_byte (m : Nat) (h : m < 256) : AV.int .u8 ((UInt8.ofNat m).toNat : Int) = .int .u8 (m : Int) := by
 rw [UInt8.toNat_ofNat']; congr 1; omega

def turnL {α : Type} (d : α) (l : List α) (i : Nat) : List α := (List.range l.length).map fun p => if p < i ∨ l.length ≤ p + i then l.getD (l.length - 1 - p) d else l.getD p d
theorem turnL_len {α : Type} (d : α) (l : List α) (i : Nat) : (turnL d l i).length = l.length := by simp [turnL]
theorem turnL_zero {α : Type} (d : α) (l : List α) : turnL d l 0 = l := by
 apply List.ext_getElem (by simp [turnL])
 intro p h1 h2
 simp only [turnL, List.getElem_map, List.getElem_range]
 rw [if_neg (by omega)]
 simp [List.getD_eq_getElem?_getD, h2]
theorem turnL_end {α : Type} (d : α) (l : List α) {i : Nat} (h : l.length ≤ 2 * i + 1) : turnL d l i = l.reverse := by
 apply List.ext_getElem (by simp [turnL])
 intro p h1 h2
 have hp : p < l.length := by simpa using h2
 simp only [turnL, List.getElem_map, List.getElem_range, List.getElem_reverse]
 by_cases hc : p < i ∨ l.length ≤ p + i
 ·rw [if_pos hc]; simp [List.getD_eq_getElem?_getD, show l.length - 1 - p < l.length by omega]
 ·rw [if_neg hc]
  have : l.length - 1 - p = p := by omega
  simp [List.getD_eq_getElem?_getD, hp, this]
theorem turnL_get {α : Type} (d : α) (l : List α) {i p : Nat} (hp : p < l.length) (h1 : i ≤ p) (h2 : p + i < l.length) : (turnL d l i)[p]'(by rw [turnL_len]; exact hp) = l[p] := by
 simp only [turnL, List.getElem_map, List.getElem_range]
 rw [if_neg (by omega)]
 simp [List.getD_eq_getElem?_getD, hp]
theorem turnL_step {α : Type} (d : α) (l : List α) {i : Nat} (h : 2 * i + 1 < l.length) : ((turnL d l i).set i (l[l.length - 1 - i]'(by omega))).set (l.length - 1 - i) (l[i]'(by omega)) = turnL d l (i + 1) := by
 apply List.ext_getElem (by simp [turnL])
 intro p h1 h2
 have hp : p < l.length := by simpa [turnL] using h2
 simp only [List.getElem_set]
 by_cases ha : l.length - 1 - i = p
 ·rw [if_pos ha]
  simp only [turnL, List.getElem_map, List.getElem_range]
  rw [if_pos (by omega)]
  have : l.length - 1 - p = i := by omega
  rw [this]; simp [List.getD_eq_getElem?_getD, show i < l.length by omega]
 ·rw [if_neg ha]
  by_cases hb : i = p
  ·rw [if_pos hb]
   simp only [turnL, List.getElem_map, List.getElem_range]
   rw [if_pos (by omega), ← hb]; simp [List.getD_eq_getElem?_getD, show l.length - 1 - i < l.length by omega]
  ·rw [if_neg hb]
   simp only [turnL, List.getElem_map, List.getElem_range]
   by_cases hc : p < i ∨ l.length ≤ p + i
   ·rw [if_pos hc, if_pos (by omega)]
   ·rw [if_neg hc, if_neg (by omega)]
end Go.Proofs.YtjnljjbmmmpdiaaDoor
