/-
 TEXTS THAT THE REFERENCE DRAWS: some text within bounds, by abstract texts. Conditions: none.
-/
import Derived.Test.YteeiaaogmjbcjaaGreatHTxtL
import Derived.Test.YteeiaaogmjbcjaaGreatHJ19
import Derived.Test.YteeiaaogmjbcjaaGreatProg
import Derived.Test.YteeiaaogmjbcjaaGreatHAvDraw
set_option linter.unusedVariables false
set_option linter.unusedSimpArgs false
set_option maxRecDepth 100000
namespace Go.Proofs.YteeiaaogmjbcjaaGreat
open Go.RowKit Go.Proofs.YteeiaaogmjbcjaaGreat.Av Go.Proofs.YteeiaaogmjbcjaaGreat.Ml
open Go.Proofs.YteeiaaogmjbcjaaGreat.Av.AVal (av)

def TxtPost (c : List UInt8) (v n : Nat) (r : AV) (hp' : Hp) : Prop := ∃ s i h, r = .str s ∧ s.size ≤ n ∧ CurOk c i h ∧ hp' = [(2000, curB c v i h)]
def StrPost (n : Nat) (r : AV) (hp' : Hp) : Prop := ∃ s : ByteArray, r = .str s ∧ s.size ≤ n ∧ hp' = []
theorem ext_size2 (s : ByteArray) (a b : Nat) (h : b ≤ s.size) : (s.extract a b).size = b - a := by rw [ByteArray.size_extract]; omega
theorem l02Classic_ok (k : Int) (h0 : 0 ≤ k) (h1 : k < 12) : CallsH Tryz.prog 84 [.int .i64 k] [] (StrPost 346) := by
 refine ir_spec_l02Classic.H rfl ?_
 have hm : k.tmod 12 = k := Int.tmod_eq_of_lt h0 h1
 obtain ⟨y, hy, hs⟩ := classicL_at (i := k.toNat) (by omega)
 have h2 : (k.toNat : Int) = k := by omega
 simp +contextual -dsimp (maxSteps := 2000000) only [↓SD, SU, SB, simprocAttr, ir_spec_l02Classic, classicL_def, classicL_len, hm, h0, h1, hy]
 refine ⟨by omega, Goes.post [] ?_⟩
 simp +contextual -dsimp (maxSteps := 2000000) only [↓SD, SU, SB, simprocAttr]
 exact ⟨y, rfl, hs, rfl⟩
theorem l02Turn_ok (c : List UInt8) (v i : Nat) (h : Int) (hk : CurOk c i h) (s : ByteArray) (hs : s.size ≤ 100000) : CallsH Tryz.prog 85 [.ptr 2000 v 0 0, .str s] [(2000, curB c v i h)] (TxtPost c v (s.size + 13)) := by
 refine ir_spec_l02Turn.H rfl ?_
 by_cases h0 : s.size = 0
 ·simp +contextual -dsimp (maxSteps := 2000000) only [↓SD, SU, SB, simprocAttr, curB_frz, false_and, and_false, ir_spec_l02Turn, h0]
  refine Goes.post [(2000, curB c v i h)] ?_
  simp +contextual -dsimp (maxSteps := 2000000) only [↓SD, SU, SB, simprocAttr]
  exact ⟨bs [120], i, h, rfl, by rw [bszT]; simp, hk, rfl⟩
 have h0' : 0 < s.size := by omega
 have h0i : ¬ (s.size : Int) = 0 := by omega
 simp +contextual -dsimp (maxSteps := 2000000) only [↓SD, SU, SB, simprocAttr, curB_frz, false_and, and_false, ir_spec_l02Turn, h0, h0i]
 (refine aCallH_of [2000] (l01Below_ok c v _ _ hk (s.size) (by omega)) (by simp +contextual -dsimp only [↓SD, SU, SB, simprocAttr]) ?_; clear hk; rintro r hp' ⟨p, i, h, rfl, hp, hk, rfl⟩)
 obtain ⟨p0, p1⟩ := hp.in (by omega)
 simp +contextual -dsimp (maxSteps := 2000000) only [↓SD, SU, SB, simprocAttr, curB_frz, false_and, and_false]
 (refine aCallH_of [2000] (l01Below_ok c v _ _ hk (4) (by omega)) (by simp +contextual -dsimp only [↓SD, SU, SB, simprocAttr]) ?_; clear hk; rintro r hp' ⟨q, i, h, rfl, hq, hk, rfl⟩)
 obtain ⟨q0, q1⟩ := hq.in (by omega)
 generalize q = k at *
 have e1 := ext_size2 s 0 p.toNat (by omega)
 have e2 := ext_size2 s p.toNat s.size (by omega)
 have e3 := ext_size2 s (p + 1).toNat s.size (by omega)
 by_cases a0 : k = 0
 ·simp +contextual -dsimp (maxSteps := 2000000) only [↓SD, SU, SB, simprocAttr, curB_frz, false_and, and_false, a0]
  (repeat' (first | intro _ | refine And.intro ?_ ?_))
  all_goals first | omega | ((try simp only [ByteArray.size_append]); unfold maxLen; omega) | skip
  refine Goes.post [(2000, curB c v i h)] ?_
  simp +contextual -dsimp (maxSteps := 2000000) only [↓SD, SU, SB, simprocAttr]
  exact ⟨_, i, h, rfl, by simp only [ByteArray.size_append]; omega, hk, rfl⟩
 by_cases a1 : k = 1
 ·simp +contextual -dsimp (maxSteps := 2000000) only [↓SD, SU, SB, simprocAttr, curB_frz, false_and, and_false, a0, a1]
  refine ⟨by omega, ?_⟩
  refine Goes.post [(2000, curB c v i h)] ?_
  simp +contextual -dsimp (maxSteps := 2000000) only [↓SD, SU, SB, simprocAttr]
  exact ⟨_, i, h, rfl, by omega, hk, rfl⟩
 simp +contextual -dsimp (maxSteps := 2000000) only [↓SD, SU, SB, simprocAttr, curB_frz, false_and, and_false, a0, a1, oddL_def, oddL_len, oddL_pur]
 (repeat' (first | intro _ | refine And.intro ?_ ?_))
 all_goals first | omega | skip
 all_goals
  refine aCallH_of [2000] (l01Below_ok c v _ _ hk 40 (by omega)) (by simp +contextual -dsimp only [↓SD, SU, SB, simprocAttr]) ?_
  rintro r hp' ⟨x, i', h', rfl, hx, hk', rfl⟩
  obtain ⟨x0, x1⟩ := hx.in (by omega)
  obtain ⟨y, hy, hz⟩ := oddL_at (i := x.toNat) (by omega)
  simp +contextual -dsimp (maxSteps := 2000000) only [↓SD, SU, SB, simprocAttr, curB_frz, false_and, and_false, oddL_len, oddL_pur, hy, x0, x1]
  (repeat' (first | intro _ | refine And.intro ?_ ?_))
  all_goals first | omega | ((try simp only [ByteArray.size_append]); unfold maxLen; omega) | skip
  refine Goes.post [(2000, curB c v i' h')] ?_
  simp +contextual -dsimp (maxSteps := 2000000) only [↓SD, SU, SB, simprocAttr]
  exact ⟨_, i', h', rfl, by simp only [ByteArray.size_append]; omega, hk', rfl⟩
structure TxS where
 s : ByteArray
 n : Int
 i : Nat
 h : Int
structure BtS where
 k : Nat
 L : List UInt8
 i : Nat
 h : Int
end Go.Proofs.YteeiaaogmjbcjaaGreat
set_option linter.unusedVariables false
set_option maxRecDepth 100000
namespace Go.Proofs.YteeiaaogmjbcjaaGreat
open Go.Proofs.YteeiaaogmjbcjaaGreat.Av

theorem follows_ReadQ : Tryz.prog.follows .mixedOrders = true := by kernel_rfl

def ir_spec_l03Program : Ir Tryz.prog 54 [(13, 7777), (14, 7777), (16, 7777), (23, 7777), (26, 7777), (35, 7777)] [9999] 1 := ⟨_, _, Tryz.func54, follows_ReadQ, by kernel_rfl, low_of [] Tryz.progTables (by conv => lhs; cbv) (by kernel_rfl)⟩
def ir_spec_l04Pats : Ir Tryz.prog 26 [(12, 7777), (28, 7777), (36, 7777), (40, 7777), (46, 7777), (48, 7777), (57, 7777), (62, 7777), (67, 7777), (73, 7777)] [9999, 20] 1 := ⟨_, _, Tryz.func26, follows_ReadQ, by kernel_rfl, low_of [10020] Tryz.progTables (by conv => lhs; cbv) (by kernel_rfl)⟩
def ir_spec_l01Text : Ir Tryz.prog 56 [(5, 7777)] [9999] 1 := ⟨_, _, Tryz.func56, follows_ReadQ, by kernel_rfl, low_of [] Tryz.progTables (by conv => lhs; cbv) (by kernel_rfl)⟩
end Go.Proofs.YteeiaaogmjbcjaaGreat
