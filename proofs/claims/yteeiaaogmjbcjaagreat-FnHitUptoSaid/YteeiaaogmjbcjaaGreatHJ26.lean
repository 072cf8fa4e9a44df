/-
  THE ABSTRACT TEXTS OF FUNCTIONS (ReadW), printed by irgen.py, and that they are the functions' own. Conditions: none.
-/
import Derived.Test.YteeiaaogmjbcjaaGreatProg
import Derived.Test.YteeiaaogmjbcjaaGreatHAvDraw
import Derived.Test.YteeiaaogmjbcjaaGreatHJ24
import Derived.Test.YteeiaaogmjbcjaaGreatHJ07
set_option linter.unusedVariables false
set_option maxRecDepth 100000
namespace Go.Proofs.YteeiaaogmjbcjaaGreat
open Go.Proofs.YteeiaaogmjbcjaaGreat.Av

theorem follows_ReadW : Tryz.prog.follows .mixedOrders = true := by kernel_rfl

def ir_spec_l03Fault : Ir Tryz.prog 115 [] [9999] 2 := ⟨_, _, Tryz.func115, follows_ReadW, by kernel_rfl, low_of [] Tryz.progTables (by conv => lhs; cbv) (by kernel_rfl)⟩
def ir_spec_l03Tok : Ir Tryz.prog 136 [] [9999] 1 := ⟨_, _, Tryz.func136, follows_ReadW, by kernel_rfl, low_of [] Tryz.progTables (by conv => lhs; cbv) (by kernel_rfl)⟩
def ir_spec_l03Is : Ir Tryz.prog 112 [(6, 7777)] [9999] 2 := ⟨_, _, Tryz.func112, follows_ReadW, by kernel_rfl, low_of [] Tryz.progTables (by conv => lhs; cbv) (by kernel_rfl)⟩
def ir_spec_l03Take : Ir Tryz.prog 138 [(6, 7777), (9, 7777)] [9999] 2 := ⟨_, _, Tryz.func138, follows_ReadW, by kernel_rfl, low_of [] Tryz.progTables (by conv => lhs; cbv) (by kernel_rfl)⟩
def ir_spec_l03Word : Ir Tryz.prog 139 [(13, 7777), (7, 7777)] [9999] 2 := ⟨_, _, Tryz.func139, follows_ReadW, by kernel_rfl, low_of [] Tryz.progTables (by conv => lhs; cbv) (by kernel_rfl)⟩
def ir_spec_l03TyWord : Ir Tryz.prog 160 [(4, 7777), (9, 7777)] [9999] 1 := ⟨_, _, Tryz.func160, follows_ReadW, by kernel_rfl, low_of [] Tryz.progTables (by conv => lhs; cbv) (by kernel_rfl)⟩
def ir_spec_l03Named : Ir Tryz.prog 152 [(11,11)] [9999] 2 := ⟨_, _, Tryz.func152, follows_ReadW, by kernel_rfl, low_of [] Tryz.progTables (by conv => lhs; cbv) (by kernel_rfl)⟩
def ir_spec_l03TyName : Ir Tryz.prog 161 [(10, 7777), (5, 7777), (7, 7777)] [9999] 1 := ⟨_, _, Tryz.func161, follows_ReadW, by kernel_rfl, low_of [] Tryz.progTables (by conv => lhs; cbv) (by kernel_rfl)⟩
def ir_spec_l03Deep : Ir Tryz.prog 141 [(6, 7777), (8, 7777)] [9999] 2 := ⟨_, _, Tryz.func141, follows_ReadW, by kernel_rfl, low_of [] Tryz.progTables (by conv => lhs; cbv) (by kernel_rfl)⟩
def ir_spec_l03TyBegins : Ir Tryz.prog 150 [(32, 7777), (7, 7777)] [9999] 1 := ⟨_, _, Tryz.func150, follows_ReadW, by kernel_rfl, low_of [] Tryz.progTables (by conv => lhs; cbv) (by kernel_rfl)⟩
def ir_spec_l03PBegins : Ir Tryz.prog 163 [(22, 7777), (5, 7777)] [9999] 1 := ⟨_, _, Tryz.func163, follows_ReadW, by kernel_rfl, low_of [] Tryz.progTables (by conv => lhs; cbv) (by kernel_rfl)⟩
def ir_spec_l03Begins : Ir Tryz.prog 153 [(6, 7777)] [9999] 1 := ⟨_, _, Tryz.func153, follows_ReadW, by kernel_rfl, low_of [] Tryz.progTables (by conv => lhs; cbv) (by kernel_rfl)⟩
def ir_spec_l03EBegins : Ir Tryz.prog 142 [(4, 7777), (8, 7777)] [9999] 1 := ⟨_, _, Tryz.func142, follows_ReadW, by kernel_rfl, low_of [] Tryz.progTables (by conv => lhs; cbv) (by kernel_rfl)⟩
def ir_spec_l03In : Ir Tryz.prog 154 [(15, 7777)] [9999] 2 := ⟨_, _, Tryz.func154, follows_ReadW, by kernel_rfl, low_of [] Tryz.progTables (by conv => lhs; cbv) (by kernel_rfl)⟩
def ir_spec_l03Seen : Ir Tryz.prog 162 [] [9999] 2 := ⟨_, _, Tryz.func162, follows_ReadW, by kernel_rfl, low_of [] Tryz.progTables (by conv => lhs; cbv) (by kernel_rfl)⟩
def ir_spec_l03One : Ir Tryz.prog 143 [] [9999] 4 := ⟨_, _, Tryz.func143, follows_ReadW, by kernel_rfl, low_of [] Tryz.progTables (by conv => lhs; cbv) (by kernel_rfl)⟩
end Go.Proofs.YteeiaaogmjbcjaaGreat
set_option linter.unusedVariables false
set_option maxRecDepth 100000
namespace Go.Proofs.YteeiaaogmjbcjaaGreat
open Go.Proofs.YteeiaaogmjbcjaaGreat.Av

theorem follows_LexW : Tryz.prog.follows .mixedOrders = true := by kernel_rfl

def ir_spec_l02Has : Ir Tryz.prog 128 [] [] 3 := ⟨_, _, Tryz.func128, follows_LexW, by kernel_rfl, low_of [] Tryz.progTables (by conv => lhs; cbv) (by kernel_rfl)⟩
def ir_spec_l02Remark : Ir Tryz.prog 129 [] [9999] 2 := ⟨_, _, Tryz.func129, follows_LexW, by kernel_rfl, low_of [] Tryz.progTables (by conv => lhs; cbv) (by kernel_rfl)⟩
def ir_spec_l02Sign : Ir Tryz.prog 134 [] [9999] 2 := ⟨_, _, Tryz.func134, follows_LexW, by kernel_rfl, low_of [] Tryz.progTables (by conv => lhs; cbv) (by kernel_rfl)⟩
def ir_spec_l02Word : Ir Tryz.prog 131 [] [] 1 := ⟨_, _, Tryz.func131, follows_LexW, by kernel_rfl, low_of [] Tryz.progTables (by conv => lhs; cbv) (by kernel_rfl)⟩
def ir_spec_l02End : Ir Tryz.prog 132 [] [9999] 2 := ⟨_, _, Tryz.func132, follows_LexW, by kernel_rfl, low_of [] Tryz.progTables (by conv => lhs; cbv) (by kernel_rfl)⟩
def ir_spec_l01Half : Ir Tryz.prog 148 [] [] 1 := ⟨_, _, Tryz.func148, follows_LexW, by kernel_rfl, low_of [] Tryz.progTables (by conv => lhs; cbv) (by kernel_rfl)⟩
def ir_spec_Unquote : Ir Tryz.prog 133 [] [9999] 1 := ⟨_, _, Tryz.func133, follows_LexW, by kernel_rfl, low_of [] Tryz.progTables (by conv => lhs; cbv) (by kernel_rfl)⟩
def ir_spec_SignOf : Ir Tryz.prog 135 [] [] 1 := ⟨_, _, Tryz.func135, follows_LexW, by kernel_rfl, low_of [] Tryz.progTables (by conv => lhs; cbv) (by kernel_rfl)⟩
def ir_spec_Lex : Ir Tryz.prog 111 [(105, 7777), (115, 7777), (153, 7777), (49, 7777)] [9999] 1 := ⟨_, _, Tryz.func111, follows_LexW, by kernel_rfl, low_of [] Tryz.progTables (by conv => lhs; cbv) (by kernel_rfl)⟩
end Go.Proofs.YteeiaaogmjbcjaaGreat
set_option linter.unusedVariables false
set_option maxRecDepth 100000
namespace Go.Proofs.YteeiaaogmjbcjaaGreat
open Go.Proofs.YteeiaaogmjbcjaaGreat.Av

theorem follows_Quote : Tryz.prog.follows .mixedOrders = true := by kernel_rfl

def ir_spec_l01Hex : Ir Tryz.prog 158 [] [] 1 := ⟨_, _, Tryz.func158, follows_Quote, by kernel_rfl, low_of [] Tryz.progTables (by conv => lhs; cbv) (by kernel_rfl)⟩
def ir_spec_Quote : Ir Tryz.prog 149 [(6,6)] [] 1 := ⟨_, _, Tryz.func149, follows_Quote, by kernel_rfl, low_of [] Tryz.progTables (by conv => lhs; cbv) (by kernel_rfl)⟩
end Go.Proofs.YteeiaaogmjbcjaaGreat
set_option linter.unusedVariables false
set_option maxRecDepth 100000
namespace Go.Proofs.YteeiaaogmjbcjaaGreat
open Go.Proofs.YteeiaaogmjbcjaaGreat.Av

theorem follows_Num : Tryz.prog.follows .mixedOrders = true := by kernel_rfl

def ir_spec_l01Digits : Ir Tryz.prog 83 [] [] 1 := ⟨_, _, Tryz.func83, follows_Num, by kernel_rfl, low_of [] Tryz.progTables (by conv => lhs; cbv) (by kernel_rfl)⟩
def ir_spec_NumText : Ir Tryz.prog 52 [] [] 1 := ⟨_, _, Tryz.func52, follows_Num, by kernel_rfl, low_of [] Tryz.progTables (by conv => lhs; cbv) (by kernel_rfl)⟩
end Go.Proofs.YteeiaaogmjbcjaaGreat
set_option linter.unusedVariables false
set_option linter.unusedSimpArgs false
set_option maxRecDepth 100000
namespace Go.Proofs.YteeiaaogmjbcjaaGreat
open Go.RowKit Go.Proofs.YteeiaaogmjbcjaaGreat.Av Go.Proofs.YteeiaaogmjbcjaaGreat.Ml
open Go.Proofs.YteeiaaogmjbcjaaGreat.Av.AVal (av)

theorem l01Digits_ok (k : Nat) : k ≤ 9223372036854775808 → CallsF Tryz.prog 83 [.int .i64 (-(k : Int))] (.str (digS k)) := by
 induction k using Nat.strongRecOn with
 | _ k ih =>
  intro hk
  refine ir_spec_l01Digits.F rfl (by simp; exact pint _) (AvPure.str _) ?_
  by_cases h10 : k < 10
  ·have h1 : -10 < -(k : Int) := by omega
   have h2 : (48 : Int) - -(k : Int) = ((48 + k : Nat) : Int) := by omega
   rw [digS_small h10]
   simp +contextual -dsimp only [↓SD, SU, SB, Nat.reduceAdd, Nat.reduceBEq, Nat.reduceEqDiff, Nat.reduceLeDiff, Nat.reduceLT, Nat.reduceSub, ↓reduceIte, reduceCtorEq, Int.reduceToNat, Int.reduceEq, Int.reduceLT, Int.reduceLE, Int.reduceNeg, Int.reduceAdd, Int.reduceSub, ir_spec_l01Digits, h1]
   refine ⟨by omega, by omega, ?_⟩
   refine b2s_of _ _ [UInt8.ofNat (48 + k)] rfl (by rw [List.map_cons, List.map_nil, av_byte _ (by omega), ← h2]) ?_
   simp +contextual -dsimp only [↓SD, SU, SB, Nat.reduceAdd, Nat.reduceBEq, Nat.reduceEqDiff, Nat.reduceLeDiff, Nat.reduceLT, Nat.reduceSub, ↓reduceIte, reduceCtorEq, Int.reduceToNat]
  ·have h1 : ¬ -10 < -(k : Int) := by omega
   have h2 : (-(k : Int)).tdiv 10 = -((k / 10 : Nat) : Int) := by rw [Int.neg_tdiv, Int.tdiv_eq_ediv_of_nonneg (by omega)]; rfl
   have h3 : (-(k : Int)).tmod 10 = -((k % 10 : Nat) : Int) := by rw [Int.neg_tmod, Int.tmod_eq_emod_of_nonneg (by omega)]; rfl
   have h4 : (48 : Int) - -((k % 10 : Nat) : Int) = ((48 + k % 10 : Nat) : Int) := by omega
   have C := ih (k / 10) (by omega) (by omega)
   have hs := digS_le (k / 10) (by omega)
   rw [digS_great h10]
   simp +contextual -dsimp only [↓SD, SU, SB, Nat.reduceAdd, Nat.reduceBEq, Nat.reduceEqDiff, Nat.reduceLeDiff, Nat.reduceLT, Nat.reduceSub, ↓reduceIte, reduceCtorEq, Int.reduceToNat, Int.reduceEq, Int.reduceLT, Int.reduceLE, Int.reduceNeg, Int.reduceAdd, Int.reduceSub, ir_spec_l01Digits, h1, h2, h3]
   refine ⟨by omega, ?_⟩
   refine aCallK_of _ C ?_
   simp +contextual -dsimp only [↓SD, SU, SB, Nat.reduceAdd, Nat.reduceBEq, Nat.reduceEqDiff, Nat.reduceLeDiff, Nat.reduceLT, Nat.reduceSub, ↓reduceIte, reduceCtorEq, Int.reduceToNat, Int.reduceEq, Int.reduceLT, Int.reduceLE, Int.reduceNeg, Int.reduceAdd, Int.reduceSub, h3, h4]
   refine ⟨by omega, by omega, by omega, ?_⟩
   refine b2s_of _ _ [UInt8.ofNat (48 + k % 10)] rfl (by rw [List.map_cons, List.map_nil, av_byte _ (by omega)]) ?_
   simp +contextual -dsimp only [↓SD, SU, SB, Nat.reduceAdd, Nat.reduceBEq, Nat.reduceEqDiff, Nat.reduceLeDiff, Nat.reduceLT, Nat.reduceSub, ↓reduceIte, reduceCtorEq, Int.reduceToNat]
   have h5 : (⟨[UInt8.ofNat (48 + k % 10)].toArray⟩ : ByteArray).size = 1 := rfl
   unfold maxLen; omega
theorem wrap_id (n : Int) (h : -9223372036854775808 ≤ n ∧ n ≤ 9223372036854775807) : (IntKind.i64.wrap (n * 2) / 2 = n) ↔ (-4611686018427387904 ≤ n ∧ n ≤ 4611686018427387903) := by
 rw [IntKind.wrap_i64]
 omega
theorem specWrap_ok (n : Int) (h : -9223372036854775808 ≤ n ∧ n ≤ 9223372036854775807) : CallsF Tryz.prog 66 [.int .i64 n] (.int .i64 (IntKind.i64.wrap (n * 2) / 2)) := by
 refine ir_spec_Wrap.F rfl (by simp; exact pint _) (pint _) ?_
 have e1 : min 1 IntKind.i64.bits = 1 := rfl
 have e2 : ∀ x : Int, x.fdiv (2 ^ 1) = x / 2 := fun x => by rw [Int.fdiv_eq_ediv_of_nonneg _ (by decide)]; rfl
 have e3 : n * 2 ^ 1 = n * 2 := rfl
 simp +contextual -dsimp only [↓SD, SU, SB, Nat.reduceAdd, Nat.reduceBEq, Nat.reduceEqDiff, Nat.reduceLeDiff, Nat.reduceLT, Nat.reduceSub, ↓reduceIte, reduceCtorEq, Int.reduceToNat, Int.reduceEq, Int.reduceLT, Int.reduceLE, Int.reduceNeg, Int.reduceAdd, Int.reduceSub, ir_spec_Wrap, e1, e2, e3]
 rw [IntKind.wrap_i64]
 omega
theorem specNumText_ok (n : Int) (hn : -9223372036854775808 ≤ n ∧ n ≤ 9223372036854775807) : CallsF Tryz.prog 52 [.int .i64 n] (.str (numS n)) := by
 refine ir_spec_NumText.F rfl (by simp; exact pint _) (AvPure.str _) ?_
 have C := specWrap_ok n hn
 have W := wrap_id n hn
 simp +contextual -dsimp only [↓SD, SU, SB, Nat.reduceAdd, Nat.reduceBEq, Nat.reduceEqDiff, Nat.reduceLeDiff, Nat.reduceLT, Nat.reduceSub, ↓reduceIte, reduceCtorEq, Int.reduceToNat, Int.reduceEq, Int.reduceLT, Int.reduceLE, Int.reduceNeg, Int.reduceAdd, Int.reduceSub, ir_spec_NumText]
 refine aCallK_of _ C ?_
 by_cases hin : -4611686018427387904 ≤ n ∧ n ≤ 4611686018427387903
 ·have hw := W.2 hin
  by_cases h0 : n < 0
  ·have hS : numS n = ⟨#[45]⟩ ++ digS (-n).toNat := by unfold numS; rw [if_pos hin, if_pos h0]
   obtain ⟨k, rfl⟩ : ∃ k : Nat, n = -(k : Int) := ⟨(-n).toNat, by omega⟩
   have hs := digS_le k (by omega)
   have hk : (-(-(k : Int))).toNat = k := by omega
   rw [hS, hk]
   simp +contextual -dsimp only [↓SD, SU, SB, Nat.reduceAdd, Nat.reduceBEq, Nat.reduceEqDiff, Nat.reduceLeDiff, Nat.reduceLT, Nat.reduceSub, ↓reduceIte, reduceCtorEq, Int.reduceToNat, Int.reduceEq, Int.reduceLT, Int.reduceLE, Int.reduceNeg, Int.reduceAdd, Int.reduceSub, hw, h0]
   refine aCallK_of _ (l01Digits_ok k (by omega)) ?_
   have hb : bs [45] = (⟨#[45]⟩ : ByteArray) := rfl
   simp +contextual -dsimp only [↓SD, SU, SB, Nat.reduceAdd, Nat.reduceBEq, Nat.reduceEqDiff, Nat.reduceLeDiff, Nat.reduceLT, Nat.reduceSub, ↓reduceIte, reduceCtorEq, Int.reduceToNat, Int.reduceEq, Int.reduceLT, Int.reduceLE, Int.reduceNeg, Int.reduceAdd, Int.reduceSub, hb]
   have h1 : (⟨#[45]⟩ : ByteArray).size = 1 := rfl
   unfold maxLen; omega
  ·have hS : numS n = digS n.toNat := by unfold numS; rw [if_pos hin, if_neg h0]
   obtain ⟨k, rfl⟩ : ∃ k : Nat, n = (k : Int) := ⟨n.toNat, by omega⟩
   rw [hS, Int.toNat_natCast]
   simp +contextual -dsimp only [↓SD, SU, SB, Nat.reduceAdd, Nat.reduceBEq, Nat.reduceEqDiff, Nat.reduceLeDiff, Nat.reduceLT, Nat.reduceSub, ↓reduceIte, reduceCtorEq, Int.reduceToNat, Int.reduceEq, Int.reduceLT, Int.reduceLE, Int.reduceNeg, Int.reduceAdd, Int.reduceSub, hw, h0]
   refine ⟨by omega, ?_⟩
   refine aCallK_of _ (l01Digits_ok k (by omega)) ?_
   simp +contextual -dsimp only [↓SD, SU, SB, Nat.reduceAdd, Nat.reduceBEq, Nat.reduceEqDiff, Nat.reduceLeDiff, Nat.reduceLT, Nat.reduceSub, ↓reduceIte, reduceCtorEq, Int.reduceToNat, Int.reduceEq, Int.reduceLT, Int.reduceLE, Int.reduceNeg, Int.reduceAdd, Int.reduceSub]
 ·have hw : ¬ IntKind.i64.wrap (n * 2) / 2 = n := fun h => hin (W.1 h)
  have hS : numS n = ⟨#[]⟩ := by unfold numS; rw [if_neg hin]
  rw [hS]
  simp +contextual -dsimp only [↓SD, SU, SB, Nat.reduceAdd, Nat.reduceBEq, Nat.reduceEqDiff, Nat.reduceLeDiff, Nat.reduceLT, Nat.reduceSub, ↓reduceIte, reduceCtorEq, Int.reduceToNat, Int.reduceEq, Int.reduceLT, Int.reduceLE, Int.reduceNeg, Int.reduceAdd, Int.reduceSub, hw]
  first | done | rfl

theorem aTail_row {hp : Hp} {k v n : Nat} {b : Box} (hk : hget hp k = some b) (hv : b.ver = v) (hn : n = b.es.length) : aTail hp (.row k v n) = some b.es := by
 unfold aTail
 simp only [hk, hv, hn, true_and, Nat.le_refl, if_true, List.take_length]
structure DS where
 m : Nat
 l : List UInt8
 v : Nat
end Go.Proofs.YteeiaaogmjbcjaaGreat
