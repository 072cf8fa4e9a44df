/-
  INSTANCES OF PACKAGE slices AT Pat, by abstract texts. Conditions: none. Printed by gensl.py.
-/
import Derived.Test.YtohalepkikjinaaPackT
import Derived.Test.YtohalepkikjinaaPackG
import Derived.Test.YtohalepkikjinaaIrSPat
set_option linter.unusedVariables false
set_option linter.unusedSimpArgs false
set_option maxRecDepth 100000
namespace Go.Proofs.Ytohalepkikjinaa
open Go.RowKit Go.Proofs.Ytohalepkikjinaa.Av Go.Proofs.Ytohalepkikjinaa.Ml
open Go.Proofs.Ytohalepkikjinaa.Av.AVal (av)

theorem IndexFunc_Pat_ok (l : List Pat) (g : FuncId) (caps : List AV) (p : Pat → Bool) (hl : l.length ≤ 1099511627776) (hp : ∀ x ∈ caps, AvPure x) (hc : ∀ hp, caps.map (AV.pur1 hp) = caps) (hg : ∀ x ∈ l, CallsF Try.prog g (av x :: caps) (.bool (p x))) :
    CallsF Try.prog 35 [.sl (l.map av), .fn g caps] (.int .i64 (indexOf l p)) := by
  refine fun_slices_IndexFunc_impl_Pat_impl_Pat rfl (by simp; exact ⟨lav_clean l, AvPure.fn hp⟩) (AvPure.int _ _) ?_
  simp +contextual -dsimp (maxSteps := 2000000) only [↓SD, SU, SB, Nat.reduceAdd, Nat.reduceBEq, Nat.reduceEqDiff, Nat.reduceLeDiff, Nat.reduceLT, Nat.reduceSub, ↓reduceIte, zA, zI, zN, reduceCtorEq, Int.reduceToNat, zE, ir_slices_IndexFunc_impl_Pat_impl_Pat, rs_slices_IndexFunc_impl_Pat_impl_Pat, map_len]
  refine aLoop_of (X := Nat) (fun k => ⟨[(0, .sl (l.map av)), (1, .fn g caps), (7, .int .i64 l.length), (8, .int .i64 k)], []⟩) (fun k => k ≤ l.length ∧ (l.take k).all (fun x => !p x) = true) (fun k => l.length - k) 0 ⟨Nat.zero_le _, rfl⟩ (by simp +contextual -dsimp only [↓SD, SU, SB, Nat.reduceAdd, Nat.reduceBEq, Nat.reduceEqDiff, Nat.reduceLeDiff, Nat.reduceLT, Nat.reduceSub, ↓reduceIte, zA, zI, zN, reduceCtorEq, Int.reduceToNat, zE]) trivial ?_
  intro k ⟨hk, hpk⟩
  by_cases hlt : k < l.length
  · have e := getD_map av l k .top hlt
    have C := hg l[k] (List.getElem_mem hlt)
    rw [av_Pat] at C
    simp +contextual -dsimp (maxSteps := 2000000) only [↓SD, SU, SB, Nat.reduceAdd, Nat.reduceBEq, Nat.reduceEqDiff, Nat.reduceLeDiff, Nat.reduceLT, Nat.reduceSub, ↓reduceIte, zA, zI, zN, reduceCtorEq, Int.reduceToNat, zE, map_len, e, av_Pat, hlt, hc]
    refine aCallK_of _ C ?_
    simp +contextual -dsimp (maxSteps := 2000000) only [↓SD, SU, SB, Nat.reduceAdd, Nat.reduceBEq, Nat.reduceEqDiff, Nat.reduceLeDiff, Nat.reduceLT, Nat.reduceSub, ↓reduceIte, zA, zI, zN, reduceCtorEq, Int.reduceToNat, zE]
    refine ⟨fun h1 => by rw [indexOf_at hlt hpk h1], fun h1 => ⟨by omega, ?_⟩⟩
    exact Goes.le ⟨k + 1, ⟨⟨hlt, by rw [all_take' _ hlt hpk, h1]; rfl⟩, (by first | omega | (simp only; omega))⟩, rfl⟩ (by simp +contextual -dsimp only [↓SD, SU, SB, Nat.reduceAdd, Nat.reduceBEq, Nat.reduceEqDiff, Nat.reduceLeDiff, Nat.reduceLT, Nat.reduceSub, ↓reduceIte, zA, zI, zN, reduceCtorEq, Int.reduceToNat, zE, Int.natCast_add]) trivial
  · obtain rfl : k = l.length := by omega
    rw [List.take_length] at hpk
    simp +contextual -dsimp (maxSteps := 2000000) only [↓SD, SU, SB, Nat.reduceAdd, Nat.reduceBEq, Nat.reduceEqDiff, Nat.reduceLeDiff, Nat.reduceLT, Nat.reduceSub, ↓reduceIte, zA, zI, zN, reduceCtorEq, Int.reduceToNat, zE, map_len, Nat.lt_irrefl, indexOf_none hpk]
theorem ContainsFunc_Pat_ok (l : List Pat) (g : FuncId) (caps : List AV) (p : Pat → Bool) (hl : l.length ≤ 1099511627776) (hp : ∀ x ∈ caps, AvPure x) (hc : ∀ hp, caps.map (AV.pur1 hp) = caps) (hg : ∀ x ∈ l, CallsF Try.prog g (av x :: caps) (.bool (p x))) :
    CallsF Try.prog 18 [.sl (l.map av), .fn g caps] (.bool (l.any p)) := by
  refine fun_slices_ContainsFunc_impl_Pat_impl_Pat rfl (by simp; exact ⟨lav_clean l, AvPure.fn hp⟩) (AvPure.bool _) ?_
  simp +contextual -dsimp (maxSteps := 2000000) only [↓SD, SU, SB, Nat.reduceAdd, Nat.reduceBEq, Nat.reduceEqDiff, Nat.reduceLeDiff, Nat.reduceLT, Nat.reduceSub, ↓reduceIte, zA, zI, zN, reduceCtorEq, Int.reduceToNat, zE, ir_slices_ContainsFunc_impl_Pat_impl_Pat, rs_slices_ContainsFunc_impl_Pat_impl_Pat, hc]
  refine aCallK_of _ (IndexFunc_Pat_ok l g caps p hl hp hc hg) ?_
  simp +contextual -dsimp (maxSteps := 2000000) only [↓SD, SU, SB, Nat.reduceAdd, Nat.reduceBEq, Nat.reduceEqDiff, Nat.reduceLeDiff, Nat.reduceLT, Nat.reduceSub, ↓reduceIte, zA, zI, zN, reduceCtorEq, Int.reduceToNat, zE, indexOf_neg]

end Go.Proofs.Ytohalepkikjinaa
