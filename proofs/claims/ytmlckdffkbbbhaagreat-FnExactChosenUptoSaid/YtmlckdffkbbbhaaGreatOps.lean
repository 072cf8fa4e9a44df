/-
 THE OPERATORS: lists of both sides, by abstract texts. Conditions: none.
-/
import Derived.Test.YtmlckdffkbbbhaaGreatPackA
import Derived.Test.YtmlckdffkbbbhaaGreatIrOps
set_option linter.unusedVariables false
set_option linter.unusedSimpArgs false
set_option maxRecDepth 100000
namespace Go.Proofs.YtmlckdffkbbbhaaGreat
open Go.RowKit Go.Proofs.YtmlckdffkbbbhaaGreat.Av Go.Proofs.YtmlckdffkbbbhaaGreat.Ml
open Go.Proofs.YtmlckdffkbbbhaaGreat.Av.AVal (av)

def opsL : List ByteArray := [bs [43], bs [45], bs [42], bs [47], bs [37], bs [94], bs [61], bs [60, 62], bs [60], bs [60, 61]]
theorem opsL_as : opsL.map av = [.str (bs [43]), .str (bs [45]), .str (bs [42]), .str (bs [47]), .str (bs [37]), .str (bs [94]), .str (bs [61]), .str (bs [60, 62]), .str (bs [60]), .str (bs [60, 61])] := rfl
theorem primOps_ok : CallsF Tryz.prog 136 [] (.sl (opsL.map av)) := by
 refine fun_impl_primOps rfl (by simp) (lav_clean opsL) ?_
 simp +contextual -dsimp only [↓SD, SU, SB, simprocAttr, ir_impl_primOps, rs_impl_primOps, opsL_as]
theorem l04Prim_ok (s : ByteArray) : CallsF Tryz.prog 85 [.str s] (.bool (opsL.any (fun x => decide (s = x)))) := by
 refine fun_spec_l04Prim rfl (by simp; exact AvPure.str _) (AvPure.bool _) ?_
 simp +contextual -dsimp only [↓SD, SU, SB, simprocAttr, ir_spec_l04Prim, rs_spec_l04Prim]
 refine aLoop_of (X := Nat) (fun k => ⟨[(0, .str s), (5, .sl (opsL.map av)), (6, .int .i64 opsL.length), (7, .int .i64 k)], []⟩) (fun k => k ≤ opsL.length ∧ (opsL.take k).all (fun x => !decide (s = x)) = true) (fun k => opsL.length - k) 0 ⟨Nat.zero_le _, rfl⟩ (by simp +contextual -dsimp only [↓SD, SU, SB, simprocAttr, opsL_as]; rfl) trivial ?_
 intro k ⟨hk, hpk⟩
 have hk10 : opsL.length = 10 := rfl
 by_cases hlt : k < opsL.length
 ·have e := getD_map (av (α := ByteArray)) opsL k .top hlt
  simp +contextual -dsimp only [↓SD, SU, SB, simprocAttr, map_len, e, av_str, hlt]
  refine ⟨fun h1 => ?_, fun h1 => ⟨by omega, ?_⟩⟩
  ·rw [List.any_eq_true.2 ⟨opsL[k], List.getElem_mem hlt, by simp [h1]⟩]
  ·exact Goes.le ⟨k + 1, ⟨⟨hlt, by rw [all_take' _ hlt hpk]; simp [h1]⟩, (by first | omega | (simp only; omega))⟩, rfl⟩ (by simp +contextual -dsimp only [↓SD, SU, SB, simprocAttr, Int.natCast_add]) trivial
 ·obtain rfl : k = opsL.length := by omega
  rw [List.take_length] at hpk
  have : opsL.any (fun x => decide (s = x)) = false := by
   rw [List.any_eq_false]; intro x hx; simpa using List.all_eq_true.1 hpk x hx
  simp +contextual -dsimp only [↓SD, SU, SB, simprocAttr, map_len, Nat.lt_irrefl, this]
end Go.Proofs.YtmlckdffkbbbhaaGreat
