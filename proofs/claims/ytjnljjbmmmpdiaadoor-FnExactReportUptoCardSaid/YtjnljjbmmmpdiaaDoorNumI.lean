/-
 NumText of the program, by abstract texts. Conditions: none.
-/
import Derived.Test.YtjnljjbmmmpdiaaDoorNumA
set_option linter.unusedVariables false
set_option linter.unusedSimpArgs false
set_option maxRecDepth 100000
namespace Go.Proofs.YtjnljjbmmmpdiaaDoor
open Go.RowKit Go.Proofs.YtjnljjbmmmpdiaaDoor.Av Go.Proofs.YtjnljjbmmmpdiaaDoor.Ml
open Go.Proofs.YtjnljjbmmmpdiaaDoor.Av.AVal (av)

theorem implNumText_ok (n : Int) (hn : -9223372036854775808 ≤ n ∧ n ≤ 9223372036854775807) : CallsF Tryd.prog 23 [.int .i64 n] (.str (numS n)) := by
 refine fun_impl_NumText rfl (by simp; exact pint _) (AvPure.str _) ?_
 have W := within_ok n (-4611686018427387904) 4611686018427387903
 by_cases hin : -4611686018427387904 ≤ n ∧ n ≤ 4611686018427387903
 ·have hw : (decide (-4611686018427387904 ≤ n) && decide (n ≤ 4611686018427387903)) = true := by simp; exact hin
  rw [hw] at W
  by_cases h0 : n < 0
  ·have hS : numS n = ⟨#[45]⟩ ++ digS (-n).toNat := by unfold numS; rw [if_pos hin, if_pos h0]
   obtain ⟨k, rfl⟩ : ∃ k : Nat, n = -(k : Int) := ⟨(-n).toNat, by omega⟩
   have hs := digS_le k (by omega)
   have hk : (-(-(k : Int))).toNat = k := by omega
   have hk2 : -(-(k : Int)) = k := by omega
   rw [hS, hk]
   simp +contextual -dsimp (maxSteps := 2000000) only [↓SD, SU, SB, simprocAttr, ir_impl_NumText, rs_impl_NumText]
   refine aCallK_of _ W ?_
   simp +contextual -dsimp (maxSteps := 2000000) only [↓SD, SU, SB, simprocAttr, h0, hk2]
   refine ⟨by omega, ?_⟩
   refine aCallK_of _ (digits_ok k (by omega)) ?_
   have hb : bs [45] = (⟨#[45]⟩ : ByteArray) := rfl
   simp +contextual -dsimp (maxSteps := 2000000) only [↓SD, SU, SB, simprocAttr, hb]
   have h1 : (⟨#[45]⟩ : ByteArray).size = 1 := rfl
   unfold maxLen; omega
  ·have hS : numS n = digS n.toNat := by unfold numS; rw [if_pos hin, if_neg h0]
   obtain ⟨k, rfl⟩ : ∃ k : Nat, n = (k : Int) := ⟨n.toNat, by omega⟩
   rw [hS, Int.toNat_natCast]
   simp +contextual -dsimp (maxSteps := 2000000) only [↓SD, SU, SB, simprocAttr, ir_impl_NumText, rs_impl_NumText]
   refine aCallK_of _ W ?_
   simp +contextual -dsimp (maxSteps := 2000000) only [↓SD, SU, SB, simprocAttr, h0]
   refine aCallK_of _ (digits_ok k (by omega)) ?_
   simp +contextual -dsimp (maxSteps := 2000000) only [↓SD, SU, SB, simprocAttr]
 ·have hw : (decide (-4611686018427387904 ≤ n) && decide (n ≤ 4611686018427387903)) = false := by simp; omega
  rw [hw] at W
  have hS : numS n = ⟨#[]⟩ := by unfold numS; rw [if_neg hin]
  rw [hS]
  simp +contextual -dsimp (maxSteps := 2000000) only [↓SD, SU, SB, simprocAttr, ir_impl_NumText, rs_impl_NumText]
  refine aCallK_of _ W ?_
  simp +contextual -dsimp (maxSteps := 2000000) only [↓SD, SU, SB, simprocAttr]
  rfl
end Go.Proofs.YtjnljjbmmmpdiaaDoor
