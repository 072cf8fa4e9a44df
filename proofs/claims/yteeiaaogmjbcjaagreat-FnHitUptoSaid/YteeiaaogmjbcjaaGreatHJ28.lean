/-
  THE ABSTRACT TEXTS OF FUNCTIONS (Text), printed by irgen.py, and that they are the functions' own. Conditions: none.
-/
import Derived.Test.YteeiaaogmjbcjaaGreatProg
import Derived.Test.YteeiaaogmjbcjaaGreatHAvDraw
import Derived.Test.YteeiaaogmjbcjaaGreatHJ26
import Derived.Test.YteeiaaogmjbcjaaGreatHJ07
set_option linter.unusedVariables false
set_option maxRecDepth 100000
namespace Go.Proofs.YteeiaaogmjbcjaaGreat
open Go.Proofs.YteeiaaogmjbcjaaGreat.Av

theorem follows_Text : Tryz.prog.follows .mixedOrders = true := by kernel_rfl

def ir_spec_TextNum : Ir Tryz.prog 130 [] [] 1 := ⟨_, _, Tryz.func130, follows_Text, by kernel_rfl, low_of [] Tryz.progTables (by conv => lhs; cbv) (by kernel_rfl)⟩
end Go.Proofs.YteeiaaogmjbcjaaGreat
set_option linter.unusedVariables false
set_option linter.unusedSimpArgs false
set_option maxRecDepth 100000
set_option linter.unusedVariables false
set_option linter.unusedSimpArgs false
set_option maxRecDepth 100000
namespace Go.Proofs.YteeiaaogmjbcjaaGreat
open Go.RowKit Go.Proofs.YteeiaaogmjbcjaaGreat.Av Go.Proofs.YteeiaaogmjbcjaaGreat.Ml
open Go.Proofs.YteeiaaogmjbcjaaGreat.Av.AVal (av)

def digRun : List UInt8 → Nat → Option Nat
 | [], n => some n
 | b :: l, n => if (48 ≤ b.toNat ∧ b.toNat ≤ 57) ∧ n ≤ 500000000000000000 then digRun l (10 * n + (b.toNat - 48)) else none
def minus (s : ByteArray) : Nat := if (byteAt s 0).toNat = 45 then 1 else 0
def textN (s : ByteArray) : Option Int :=
 if s.size = 0 ∨ 20 < s.size then none else
 match digRun (s.data.toList.drop (minus s)) 0 with
 | none => none
 | some k => if numS (if minus s = 1 then -(k : Int) else k) = s then some (if minus s = 1 then -(k : Int) else k) else none
def textR (s : ByteArray) : AV := match textN s with
 | some n => .tup [.int .i64 n, .bool true]
 | none => .tup [.int .i64 0, .bool false]
theorem textR_pure (s : ByteArray) : AvPure (textR s) := by
 unfold textR; split
 ·exact AvPure.tup (by simp; exact ⟨pint _, AvPure.bool _⟩)
 ·exact AvPure.tup (by simp; exact ⟨pint _, AvPure.bool _⟩)
theorem textR_no (s : ByteArray) (h : textN s = none) : textR s = .tup [.int .i64 0, .bool false] := by unfold textR; rw [h]
theorem textR_yes (s : ByteArray) (n : Int) (h : textN s = some n) : textR s = .tup [.int .i64 n, .bool true] := by unfold textR; rw [h]
theorem textN_size (s : ByteArray) (h : s.size = 0 ∨ 20 < s.size) : textN s = none := by unfold textN; rw [if_pos h]
theorem textN_none (s : ByteArray) (h : digRun (s.data.toList.drop (minus s)) 0 = none) : textN s = none := by unfold textN; rw [h]; simp
theorem textN_some (s : ByteArray) (h0 : ¬ (s.size = 0 ∨ 20 < s.size)) (k : Nat) (h : digRun (s.data.toList.drop (minus s)) 0 = some k) :
  textN s = if numS (if minus s = 1 then -(k : Int) else k) = s then some (if minus s = 1 then -(k : Int) else k) else none := by unfold textN; rw [if_neg h0, h]
theorem bytes_drop (s : ByteArray) {i : Nat} (h : i < s.size) : s.data.toList.drop i = byteAt s i :: s.data.toList.drop (i + 1) := by
 have h' : i < s.data.toList.length := by simpa using h
 rw [List.drop_eq_getElem_cons h']
 congr 1
 have h2 : i < s.data.size := h
 simp only [byteAt, Array.getD_eq_getD_getElem?, Array.getElem?_eq_getElem h2, Option.getD_some, Array.getElem_toList]
theorem bytes_end (s : ByteArray) {i : Nat} (h : s.size ≤ i) : s.data.toList.drop i = [] := by
 rw [List.drop_eq_nil_iff]; simpa using h
theorem digRun_step (s : ByteArray) {i n : Nat} (h : i < s.size) : digRun (s.data.toList.drop i) n =
  if (48 ≤ (byteAt s i).toNat ∧ (byteAt s i).toNat ≤ 57) ∧ n ≤ 500000000000000000 then digRun (s.data.toList.drop (i + 1)) (10 * n + ((byteAt s i).toNat - 48)) else none := by
 rw [bytes_drop s h]; rfl
theorem minus_le (s : ByteArray) : minus s ≤ 1 := by unfold minus; split <;> omega
def TPre (s : ByteArray) (i n : Nat) : Prop := minus s ≤ i ∧ i ≤ s.size ∧ n ≤ 5000000000000000009 ∧ digRun (s.data.toList.drop i) n = digRun (s.data.toList.drop (minus s)) 0
theorem TPre_start (s : ByteArray) (h : s.size ≠ 0) : TPre s (minus s) 0 := ⟨Nat.le_refl _, by have := minus_le s; omega, by omega, rfl⟩
theorem TPre_next (s : ByteArray) {i n : Nat} (h : TPre s i n) (hi : i < s.size) (hb : 48 ≤ (byteAt s i).toNat ∧ (byteAt s i).toNat ≤ 57) (hn : n ≤ 500000000000000000) : TPre s (i + 1) (10 * n + ((byteAt s i).toNat - 48)) := by
 obtain ⟨h1, h2, h3, h4⟩ := h
 refine ⟨by omega, by omega, by omega, ?_⟩
 rw [← h4, digRun_step s hi, if_pos ⟨hb, hn⟩]
theorem TPre_bad (s : ByteArray) {i n : Nat} (h : TPre s i n) (hi : i < s.size) (hb : ¬ ((48 ≤ (byteAt s i).toNat ∧ (byteAt s i).toNat ≤ 57) ∧ n ≤ 500000000000000000)) : textR s = .tup [.int .i64 0, .bool false] := by
 apply textR_no
 apply textN_none
 rw [← h.2.2.2, digRun_step s hi, if_neg hb]
theorem TPre_end (s : ByteArray) {n : Nat} (h : TPre s s.size n) (h0 : ¬ (s.size = 0 ∨ 20 < s.size)) : textR s = if numS (if minus s = 1 then -(n : Int) else n) = s then .tup [.int .i64 (if minus s = 1 then -(n : Int) else n), .bool true] else .tup [.int .i64 0, .bool false] := by
 have he := h.2.2.2
 rw [bytes_end s (Nat.le_refl _)] at he
 have := textN_some s h0 n he.symm
 by_cases hs : numS (if minus s = 1 then -(n : Int) else n) = s
 ·rw [if_pos hs] at this ⊢; exact textR_yes _ _ this
 ·rw [if_neg hs] at this ⊢; exact textR_no _ this
end Go.Proofs.YteeiaaogmjbcjaaGreat
set_option linter.unusedVariables false
set_option linter.unusedSimpArgs false
set_option maxRecDepth 100000
namespace Go.Proofs.YteeiaaogmjbcjaaGreat
open Go.RowKit Go.Proofs.YteeiaaogmjbcjaaGreat.Av Go.Proofs.YteeiaaogmjbcjaaGreat.Ml
open Go.Proofs.YteeiaaogmjbcjaaGreat.Av.AVal (av)

theorem specTextNum_ok (s : ByteArray) : CallsF Tryz.prog 130 [.str s] (textR s) := by
 refine ir_spec_TextNum.F rfl (by simp; exact AvPure.str _) (textR_pure s) ?_
 by_cases h0 : (s.size : Int) < 1
 ·rw [textR_no s (textN_size s (.inl (by omega)))]
  simp +contextual -dsimp (maxSteps := 2000000) only [↓SD, SU, SB, simprocAttr, ir_spec_TextNum, h0]
 by_cases h20 : (20 : Int) < s.size
 ·rw [textR_no s (textN_size s (.inr (by omega)))]
  simp +contextual -dsimp (maxSteps := 2000000) only [↓SD, SU, SB, simprocAttr, ir_spec_TextNum, h0, h20]
 have hz : ¬ (s.size = 0 ∨ 20 < s.size) := by omega
 have hs0 : (0 : Int) < s.size := by omega
 have hm := minus_le s
 simp +contextual -dsimp (maxSteps := 2000000) only [↓SD, SU, SB, simprocAttr, ir_spec_TextNum, h0, h20, hs0]
 have hbt : minus s = 1 ↔ ((byteAt s 0).toNat : Int) = 45 := by unfold minus; split <;> omega
 have hst0 : (((0, 0) : Nat × Nat) = (0, 0) ∧ minus s = 1) ∨ TPre s 0 0 := by
  by_cases h : minus s = 1
  ·exact .inl ⟨rfl, h⟩
  ·have := TPre_start s (by omega)
   rw [show minus s = 0 by omega] at this
   exact .inr this
 refine aLoop_of (X := Nat × Nat) (fun x => ⟨[(0, .str s), (4, .int .i64 x.2), (5, .int .i64 x.1)], []⟩) (fun x => (x = (0, 0) ∧ minus s = 1) ∨ TPre s x.1 x.2) (fun x => s.size - x.1) (0, 0) (hst0) (by simp +contextual -dsimp only [↓SD, SU, SB, simprocAttr]) (by simp +contextual -dsimp only [↓SD, SU, SB, simprocAttr]) ?_
 rintro ⟨i, n⟩ hp
 rcases hp with ⟨hp, hm1⟩ | hp
 ·cases hp
  have h45 := hbt.1 hm1
  have hlt : (0 : Nat) < s.size := by omega
  have hst := TPre_start s (by omega)
  rw [hm1] at hst
  simp +contextual -dsimp (maxSteps := 2000000) only [↓SD, SU, SB, simprocAttr, hlt, hs0, h45]
  exact Goes.le ⟨(1, 0), ⟨.inr hst, (by first | omega | (simp only; omega))⟩, rfl⟩ (by simp +contextual -dsimp only [↓SD, SU, SB, simprocAttr]) (by simp +contextual -dsimp only [↓SD, SU, SB, simprocAttr])
 have hp' := hp
 obtain ⟨p1, p2, p3, p4⟩ := hp'
 simp only at hp p1 p2 p3 p4
 by_cases hlt : i < s.size
 ·have h26 : ¬ ((i : Int) = 0 ∧ ((byteAt s i).toNat : Int) = 45) := by
   rintro ⟨ha, hb⟩
   obtain rfl : i = 0 := by omega
   have := hbt.2 hb
   omega
  have hnx := TPre_next s hp hlt
  have hbad := TPre_bad s hp hlt
  have hb := b8 s i
  obtain ⟨b, hbe⟩ : ∃ b, b = byteAt s i := ⟨_, rfl⟩
  rw [← hbe] at hnx hbad hb h26
  have hsub : 48 ≤ b.toNat → ((b.toNat : Int) - 48) = ((b.toNat - 48 : Nat) : Int) := by omega
  by_cases hi0 : (i : Int) = 0
  ·obtain rfl : i = 0 := by omega
   have g45 : ¬ (b.toNat : Int) = 45 := fun h => h26 ⟨rfl, h⟩
   by_cases hd1 : (b.toNat : Int) < 48
   ·rw [hbad (by omega)]
    simp +contextual -dsimp (maxSteps := 2000000) only [↓SD, SU, SB, simprocAttr, hlt, hs0, ← hbe, g45, hd1]
   by_cases hd2 : (57 : Int) < b.toNat
   ·rw [hbad (by omega)]
    simp +contextual -dsimp (maxSteps := 2000000) only [↓SD, SU, SB, simprocAttr, hlt, hs0, ← hbe, g45, hd1, hd2]
   by_cases hn : (500000000000000000 : Int) < n
   ·rw [hbad (by omega)]
    simp +contextual -dsimp (maxSteps := 2000000) only [↓SD, SU, SB, simprocAttr, hlt, hs0, ← hbe, g45, hd1, hd2, hn]
   have hy := hnx (by omega) (by omega)
   have hsub := hsub (by omega)
   have hcm : (n : Int) * 10 = 10 * (n : Int) := Int.mul_comm _ _
   simp +contextual -dsimp (maxSteps := 2000000) only [↓SD, SU, SB, simprocAttr, hlt, hs0, ← hbe, g45, hd1, hd2, hn, hsub, hcm]
   refine ⟨⟨by omega, by omega⟩, by omega, ⟨by omega, by omega⟩, ⟨by omega, by omega⟩, Goes.le ⟨(1, 10 * n + (b.toNat - 48)), ⟨.inr hy, (by first | omega | (simp only; omega))⟩, rfl⟩ (by simp +contextual -dsimp only [↓SD, SU, SB, simprocAttr, Int.natCast_add, Int.natCast_mul]) (by simp +contextual -dsimp only [↓SD, SU, SB, simprocAttr])⟩
  ·by_cases hd1 : (b.toNat : Int) < 48
   ·rw [hbad (by omega)]
    simp +contextual -dsimp (maxSteps := 2000000) only [↓SD, SU, SB, simprocAttr, hlt, ← hbe, hi0, hd1]
   by_cases hd2 : (57 : Int) < b.toNat
   ·rw [hbad (by omega)]
    simp +contextual -dsimp (maxSteps := 2000000) only [↓SD, SU, SB, simprocAttr, hlt, ← hbe, hi0, hd1, hd2]
   by_cases hn : (500000000000000000 : Int) < n
   ·rw [hbad (by omega)]
    simp +contextual -dsimp (maxSteps := 2000000) only [↓SD, SU, SB, simprocAttr, hlt, ← hbe, hi0, hd1, hd2, hn]
   have hy := hnx (by omega) (by omega)
   have hsub := hsub (by omega)
   have hcm : (n : Int) * 10 = 10 * (n : Int) := Int.mul_comm _ _
   simp +contextual -dsimp (maxSteps := 2000000) only [↓SD, SU, SB, simprocAttr, hlt, ← hbe, hi0, hd1, hd2, hn, hsub, hcm]
   refine ⟨⟨by omega, by omega⟩, by omega, ⟨by omega, by omega⟩, ⟨by omega, by omega⟩, ⟨by omega, by omega⟩, Goes.le ⟨(i + 1, 10 * n + (b.toNat - 48)), ⟨.inr hy, (by first | omega | (simp only; omega))⟩, rfl⟩ (by simp +contextual -dsimp only [↓SD, SU, SB, simprocAttr, Int.natCast_add, Int.natCast_mul]) (by simp +contextual -dsimp only [↓SD, SU, SB, simprocAttr])⟩
 ·obtain rfl : i = s.size := by omega
  have he := TPre_end s hp hz
  by_cases hm1 : minus s = 1
  ·have h45 := hbt.1 hm1
   rw [hm1] at he
   simp only [if_true] at he
   simp +contextual -dsimp (maxSteps := 2000000) only [↓SD, SU, SB, simprocAttr, Nat.lt_irrefl, hs0, h45]
   refine ⟨⟨by omega, by omega⟩, aCallK_of _ (specNumText_ok (-(n : Int)) (by omega)) ?_⟩
   by_cases hs : numS (-(n : Int)) = s
   ·rw [if_pos hs] at he
    rw [he]
    simp +contextual -dsimp (maxSteps := 2000000) only [↓SD, SU, SB, simprocAttr, hs]
   ·rw [if_neg hs] at he
    rw [he]
    simp +contextual -dsimp (maxSteps := 2000000) only [↓SD, SU, SB, simprocAttr, hs]
  ·have h45 : ¬ ((byteAt s 0).toNat : Int) = 45 := fun h => hm1 (hbt.2 h)
   simp only [if_neg hm1] at he
   simp +contextual -dsimp (maxSteps := 2000000) only [↓SD, SU, SB, simprocAttr, Nat.lt_irrefl, hs0, h45]
   refine aCallK_of _ (specNumText_ok (n : Int) (by omega)) ?_
   by_cases hs : numS (n : Int) = s
   ·rw [if_pos hs] at he
    rw [he]
    simp +contextual -dsimp (maxSteps := 2000000) only [↓SD, SU, SB, simprocAttr, hs]
   ·rw [if_neg hs] at he
    rw [he]
    simp +contextual -dsimp (maxSteps := 2000000) only [↓SD, SU, SB, simprocAttr, hs]
end Go.Proofs.YteeiaaogmjbcjaaGreat
