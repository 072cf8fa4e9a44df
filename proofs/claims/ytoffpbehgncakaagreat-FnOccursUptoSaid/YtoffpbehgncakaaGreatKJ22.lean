/-
  THE ABSTRACT TEXTS OF FUNCTIONS (Text), printed by irgen.py, and that they are the functions' own. Conditions: none.
-/
import Derived.Test.YtoffpbehgncakaaGreatProg
import Derived.Test.YtoffpbehgncakaaGreatKAvDraw
import Derived.Test.YtoffpbehgncakaaGreatKJ21
import Derived.Test.YtoffpbehgncakaaGreatKJ11
set_option linter.unusedVariables false
set_option maxRecDepth 100000
namespace Go.Proofs.YtoffpbehgncakaaGreat
open Go.Proofs.YtoffpbehgncakaaGreat.Av

theorem QP : Tryz.prog.follows .mixedOrders = true := by kernel_rfl

def D6 : Ir Tryz.prog 131 [] [] 1 := ⟨_, _, Tryz.func131, QP, by kernel_rfl, AA [] Tryz.progTables (by conv => lhs; cbv) (by kernel_rfl)⟩
end Go.Proofs.YtoffpbehgncakaaGreat
set_option linter.unusedVariables false
set_option linter.unusedSimpArgs false
set_option maxRecDepth 100000
set_option linter.unusedVariables false
set_option linter.unusedSimpArgs false
set_option maxRecDepth 100000
namespace Go.Proofs.YtoffpbehgncakaaGreat
open Go.RowKit Go.Proofs.YtoffpbehgncakaaGreat.Av Go.Proofs.YtoffpbehgncakaaGreat.Ml
open Go.Proofs.YtoffpbehgncakaaGreat.Av.AVal (av)

def Gz : List UInt8 → Nat → Option Nat
 | [], n => some n
 | b :: l, n => if (48 ≤ b.toNat ∧ b.toNat ≤ 57) ∧ n ≤ 500000000000000000 then Gz l (10 * n + (b.toNat - 48)) else none
def minus (s : ByteArray) : Nat := if (A4 s 0).toNat = 45 then 1 else 0
def Ii (s : ByteArray) : Option Int :=
 if s.size = 0 ∨ 20 < s.size then none else
 match Gz (s.data.toList.drop (minus s)) 0 with
 | none => none
 | some k => if K5 (if minus s = 1 then -(k : Int) else k) = s then some (if minus s = 1 then -(k : Int) else k) else none
def Ih (s : ByteArray) : AV := match Ii s with
 | some n => .tup [.int .i64 n, .bool true]
 | none => .tup [.int .i64 0, .bool false]
theorem Uo (s : ByteArray) : Ap (Ih s) := by
 unfold Ih; split
 ·exact Ap.tup (by simp; exact ⟨Cr _, Ap.bool _⟩)
 ·exact Ap.tup (by simp; exact ⟨Cr _, Ap.bool _⟩)
theorem Ig (s : ByteArray) (h : Ii s = none) : Ih s = .tup [.int .i64 0, .bool false] := by unfold Ih; rw [h]
theorem OD (s : ByteArray) (n : Int) (h : Ii s = some n) : Ih s = .tup [.int .i64 n, .bool true] := by unfold Ih; rw [h]
theorem Mp (s : ByteArray) (h : s.size = 0 ∨ 20 < s.size) : Ii s = none := by unfold Ii; rw [if_pos h]
theorem Uq (s : ByteArray) (h : Gz (s.data.toList.drop (minus s)) 0 = none) : Ii s = none := by unfold Ii; rw [h]; simp
theorem Up (s : ByteArray) (h0 : ¬ (s.size = 0 ∨ 20 < s.size)) (k : Nat) (h : Gz (s.data.toList.drop (minus s)) 0 = some k) :
  Ii s = if K5 (if minus s = 1 then -(k : Int) else k) = s then some (if minus s = 1 then -(k : Int) else k) else none := by unfold Ii; rw [if_neg h0, h]
theorem Vf (s : ByteArray) {i : Nat} (h : i < s.size) : s.data.toList.drop i = A4 s i :: s.data.toList.drop (i + 1) := by
 have h' : i < s.data.toList.length := by simpa using h
 rw [List.drop_eq_getElem_cons h']
 congr 1
 have h2 : i < s.data.size := h
 simp only [A4, Array.getD_eq_getD_getElem?, Array.getElem?_eq_getElem h2, Option.getD_some, Array.getElem_toList]
theorem Yp (s : ByteArray) {i : Nat} (h : s.size ≤ i) : s.data.toList.drop i = [] := by
 rw [List.drop_eq_nil_iff]; simpa using h
theorem LU (s : ByteArray) {i n : Nat} (h : i < s.size) : Gz (s.data.toList.drop i) n =
  if (48 ≤ (A4 s i).toNat ∧ (A4 s i).toNat ≤ 57) ∧ n ≤ 500000000000000000 then Gz (s.data.toList.drop (i + 1)) (10 * n + ((A4 s i).toNat - 48)) else none := by
 rw [Vf s h]; rfl
theorem Sg (s : ByteArray) : minus s ≤ 1 := by unfold minus; split <;> omega
def Vr (s : ByteArray) (i n : Nat) : Prop := minus s ≤ i ∧ i ≤ s.size ∧ n ≤ 5000000000000000009 ∧ Gz (s.data.toList.drop i) n = Gz (s.data.toList.drop (minus s)) 0
theorem Oa (s : ByteArray) (h : s.size ≠ 0) : Vr s (minus s) 0 := ⟨Nat.le_refl _, by have := Sg s; omega, by omega, rfl⟩
theorem Yx (s : ByteArray) {i n : Nat} (h : Vr s i n) (hi : i < s.size) (hb : 48 ≤ (A4 s i).toNat ∧ (A4 s i).toNat ≤ 57) (hn : n ≤ 500000000000000000) : Vr s (i + 1) (10 * n + ((A4 s i).toNat - 48)) := by
 obtain ⟨h1, h2, h3, h4⟩ := h
 refine ⟨by omega, by omega, by omega, ?_⟩
 rw [← h4, LU s hi, if_pos ⟨hb, hn⟩]
theorem Aae (s : ByteArray) {i n : Nat} (h : Vr s i n) (hi : i < s.size) (hb : ¬ ((48 ≤ (A4 s i).toNat ∧ (A4 s i).toNat ≤ 57) ∧ n ≤ 500000000000000000)) : Ih s = .tup [.int .i64 0, .bool false] := by
 apply Ig
 apply Uq
 rw [← h.2.2.2, LU s hi, if_neg hb]
theorem Aad (s : ByteArray) {n : Nat} (h : Vr s s.size n) (h0 : ¬ (s.size = 0 ∨ 20 < s.size)) : Ih s = if K5 (if minus s = 1 then -(n : Int) else n) = s then .tup [.int .i64 (if minus s = 1 then -(n : Int) else n), .bool true] else .tup [.int .i64 0, .bool false] := by
 have he := h.2.2.2
 rw [Yp s (Nat.le_refl _)] at he
 have := Up s h0 n he.symm
 by_cases hs : K5 (if minus s = 1 then -(n : Int) else n) = s
 ·rw [if_pos hs] at this ⊢; exact OD _ _ this
 ·rw [if_neg hs] at this ⊢; exact Ig _ this
end Go.Proofs.YtoffpbehgncakaaGreat
set_option linter.unusedVariables false
set_option linter.unusedSimpArgs false
set_option maxRecDepth 100000
namespace Go.Proofs.YtoffpbehgncakaaGreat
open Go.RowKit Go.Proofs.YtoffpbehgncakaaGreat.Av Go.Proofs.YtoffpbehgncakaaGreat.Ml
open Go.Proofs.YtoffpbehgncakaaGreat.Av.AVal (av)

theorem Mq (s : ByteArray) : AH Tryz.prog 131 [.str s] (Ih s) := by
 refine D6.F rfl (by simp; exact Ap.str _) (Uo s) ?_
 by_cases h0 : (s.size : Int) < 1
 ·rw [Ig s (Mp s (.inl (by omega)))]
  simp +contextual -dsimp only [↓SD, SU, simprocAttr, D6, h0]
 by_cases h20 : (20 : Int) < s.size
 ·rw [Ig s (Mp s (.inr (by omega)))]
  simp +contextual -dsimp only [↓SD, SU, simprocAttr, D6, h0, h20]
 have hz : ¬ (s.size = 0 ∨ 20 < s.size) := by omega
 have hs0 : (0 : Int) < s.size := by omega
 have hm := Sg s
 simp +contextual -dsimp only [↓SD, SU, simprocAttr, D6, h0, h20, hs0]
 have hbt : minus s = 1 ↔ ((A4 s 0).toNat : Int) = 45 := by unfold minus; split <;> omega
 have hst0 : (((0, 0) : Nat × Nat) = (0, 0) ∧ minus s = 1) ∨ Vr s 0 0 := by
  by_cases h : minus s = 1
  ·exact .inl ⟨rfl, h⟩
  ·have := Oa s (by omega)
   rw [show minus s = 0 by omega] at this
   exact .inr this
 refine AB (X := Nat × Nat) (fun x => ⟨[(0, .str s), (4, .int .i64 x.2), (5, .int .i64 x.1)], []⟩) (fun x => (x = (0, 0) ∧ minus s = 1) ∨ Vr s x.1 x.2) (fun x => s.size - x.1) (0, 0) (hst0) (by simp +contextual -dsimp only [↓SD, SU, simprocAttr]) (by simp +contextual -dsimp only [↓SD, SU, simprocAttr]) ?_
 rintro ⟨i, n⟩ hp
 rcases hp with ⟨hp, hm1⟩ | hp
 ·cases hp
  have h45 := hbt.1 hm1
  have hlt : (0 : Nat) < s.size := by omega
  have hst := Oa s (by omega)
  rw [hm1] at hst
  simp +contextual -dsimp only [↓SD, SU, simprocAttr, hlt, hs0, h45]
  exact Ai.le ⟨(1, 0), ⟨.inr hst, (by first | omega | (simp only; omega))⟩, rfl⟩ (by simp +contextual -dsimp only [↓SD, SU, simprocAttr]) (by simp +contextual -dsimp only [↓SD, SU, simprocAttr])
 have hp' := hp
 obtain ⟨p1, p2, p3, p4⟩ := hp'
 simp only at hp p1 p2 p3 p4
 by_cases hlt : i < s.size
 ·have h26 : ¬ ((i : Int) = 0 ∧ ((A4 s i).toNat : Int) = 45) := by
   rintro ⟨ha, hb⟩
   obtain rfl : i = 0 := by omega
   have := hbt.2 hb
   omega
  have hnx := Yx s hp hlt
  have hbad := Aae s hp hlt
  have hb := b8 s i
  obtain ⟨b, hbe⟩ : ∃ b, b = A4 s i := ⟨_, rfl⟩
  rw [← hbe] at hnx hbad hb h26
  have hsub : 48 ≤ b.toNat → ((b.toNat : Int) - 48) = ((b.toNat - 48 : Nat) : Int) := by omega
  by_cases hi0 : (i : Int) = 0
  ·obtain rfl : i = 0 := by omega
   have g45 : ¬ (b.toNat : Int) = 45 := fun h => h26 ⟨rfl, h⟩
   by_cases hd1 : (b.toNat : Int) < 48
   ·rw [hbad (by omega)]
    simp +contextual -dsimp only [↓SD, SU, simprocAttr, hlt, hs0, ← hbe, g45, hd1]
   by_cases hd2 : (57 : Int) < b.toNat
   ·rw [hbad (by omega)]
    simp +contextual -dsimp only [↓SD, SU, simprocAttr, hlt, hs0, ← hbe, g45, hd1, hd2]
   by_cases hn : (500000000000000000 : Int) < n
   ·rw [hbad (by omega)]
    simp +contextual -dsimp only [↓SD, SU, simprocAttr, hlt, hs0, ← hbe, g45, hd1, hd2, hn]
   have hy := hnx (by omega) (by omega)
   have hsub := hsub (by omega)
   have hcm : (n : Int) * 10 = 10 * (n : Int) := Int.mul_comm _ _
   simp +contextual -dsimp only [↓SD, SU, simprocAttr, hlt, hs0, ← hbe, g45, hd1, hd2, hn, hsub, hcm]
   refine ⟨⟨by omega, by omega⟩, by omega, ⟨by omega, by omega⟩, ⟨by omega, by omega⟩, Ai.le ⟨(1, 10 * n + (b.toNat - 48)), ⟨.inr hy, (by first | omega | (simp only; omega))⟩, rfl⟩ (by simp +contextual -dsimp only [↓SD, SU, simprocAttr, Int.natCast_add, Int.natCast_mul]) (by simp +contextual -dsimp only [↓SD, SU, simprocAttr])⟩
  ·by_cases hd1 : (b.toNat : Int) < 48
   ·rw [hbad (by omega)]
    simp +contextual -dsimp only [↓SD, SU, simprocAttr, hlt, ← hbe, hi0, hd1]
   by_cases hd2 : (57 : Int) < b.toNat
   ·rw [hbad (by omega)]
    simp +contextual -dsimp only [↓SD, SU, simprocAttr, hlt, ← hbe, hi0, hd1, hd2]
   by_cases hn : (500000000000000000 : Int) < n
   ·rw [hbad (by omega)]
    simp +contextual -dsimp only [↓SD, SU, simprocAttr, hlt, ← hbe, hi0, hd1, hd2, hn]
   have hy := hnx (by omega) (by omega)
   have hsub := hsub (by omega)
   have hcm : (n : Int) * 10 = 10 * (n : Int) := Int.mul_comm _ _
   simp +contextual -dsimp only [↓SD, SU, simprocAttr, hlt, ← hbe, hi0, hd1, hd2, hn, hsub, hcm]
   refine ⟨⟨by omega, by omega⟩, by omega, ⟨by omega, by omega⟩, ⟨by omega, by omega⟩, ⟨by omega, by omega⟩, Ai.le ⟨(i + 1, 10 * n + (b.toNat - 48)), ⟨.inr hy, (by first | omega | (simp only; omega))⟩, rfl⟩ (by simp +contextual -dsimp only [↓SD, SU, simprocAttr, Int.natCast_add, Int.natCast_mul]) (by simp +contextual -dsimp only [↓SD, SU, simprocAttr])⟩
 ·obtain rfl : i = s.size := by omega
  have he := Aad s hp hz
  by_cases hm1 : minus s = 1
  ·have h45 := hbt.1 hm1
   rw [hm1] at he
   simp only [if_true] at he
   simp +contextual -dsimp only [↓SD, SU, simprocAttr, Nat.lt_irrefl, hs0, h45]
   refine ⟨⟨by omega, by omega⟩, Ac _ (Ij (-(n : Int)) (by omega)) ?_⟩
   by_cases hs : K5 (-(n : Int)) = s
   ·rw [if_pos hs] at he
    rw [he]
    simp +contextual -dsimp only [↓SD, SU, simprocAttr, hs]
   ·rw [if_neg hs] at he
    rw [he]
    simp +contextual -dsimp only [↓SD, SU, simprocAttr, hs]
  ·have h45 : ¬ ((A4 s 0).toNat : Int) = 45 := fun h => hm1 (hbt.2 h)
   simp only [if_neg hm1] at he
   simp +contextual -dsimp only [↓SD, SU, simprocAttr, Nat.lt_irrefl, hs0, h45]
   refine Ac _ (Ij (n : Int) (by omega)) ?_
   by_cases hs : K5 (n : Int) = s
   ·rw [if_pos hs] at he
    rw [he]
    simp +contextual -dsimp only [↓SD, SU, simprocAttr, hs]
   ·rw [if_neg hs] at he
    rw [he]
    simp +contextual -dsimp only [↓SD, SU, simprocAttr, hs]
end Go.Proofs.YtoffpbehgncakaaGreat
