/-
  NUMBERS AS TEXT, of the reference and of the program, by abstract texts. Conditions: none.
-/
import Derived.Test.YtabifanjbckchaaGreatPackO
import Derived.Test.YtabifanjbckchaaGreatPackT
import Derived.Test.YtabifanjbckchaaGreatIrNum
set_option linter.unusedVariables false
set_option linter.unusedSimpArgs false
set_option maxRecDepth 100000
namespace Go.Proofs.YtabifanjbckchaaGreat
open Go.RowKit Go.Proofs.YtabifanjbckchaaGreat.Av Go.Proofs.YtabifanjbckchaaGreat.Ml
open Go.Proofs.YtabifanjbckchaaGreat.Av.AVal (av)

theorem bits64 : IntKind.i64.bits = 64 := rfl
theorem wrap_id (n : Int) (h : -9223372036854775808 ≤ n ∧ n ≤ 9223372036854775807) : (IntKind.i64.wrap (n * 2) / 2 = n) ↔ (-4611686018427387904 ≤ n ∧ n ≤ 4611686018427387903) := by
  rw [IntKind.wrap_i64]
  omega
theorem specWrap_ok (n : Int) (h : -9223372036854775808 ≤ n ∧ n ≤ 9223372036854775807) : CallsF Tryz.prog 71 [.int .i64 n] (.int .i64 (IntKind.i64.wrap (n * 2) / 2)) := by
  refine fun_spec_Wrap rfl (by simp; exact pint _) (pint _) ?_
  have e1 : min 1 IntKind.i64.bits = 1 := rfl
  have e2 : ∀ x : Int, x.fdiv (2 ^ 1) = x / 2 := fun x => by rw [Int.fdiv_eq_ediv_of_nonneg _ (by decide)]; rfl
  have e3 : n * 2 ^ 1 = n * 2 := rfl
  simp +contextual -dsimp only [↓SD, SU, SB, Nat.reduceAdd, Nat.reduceBEq, Nat.reduceEqDiff, Nat.reduceLeDiff, Nat.reduceLT, Nat.reduceSub, ↓reduceIte, zA, zI, zN, reduceCtorEq, Int.reduceToNat, zE, Int.reduceEq, Int.reduceLT, Int.reduceLE, Int.reduceNeg, Int.reduceAdd, Int.reduceSub, ir_spec_Wrap, rs_spec_Wrap, e1, e2, e3]
  rw [IntKind.wrap_i64]
  omega
def RevPost (k v : Nat) (l : List UInt8) (r : AV) (hp' : Hp) : Prop := r = .tup [] ∧ hp' = [(k, ⟨v, false, 5, 1, l.reverse.map av⟩)]
theorem aTail_row {hp : Hp} {k v n : Nat} {b : Box} (hk : hget hp k = some b) (hv : b.ver = v) (hn : n = b.es.length) : aTail hp (.row k v n) = some b.es := by
  unfold aTail
  simp only [hk, hv, hn, true_and, Nat.le_refl, if_true, List.take_length]
/-- the digits are written the last one first -/
structure DS where
  m : Nat
  l : List UInt8
  v : Nat
def DSpre (N : Nat) (x : DS) : Prop := x.m ≤ N ∧ ((0 < x.m ∨ x.l = []) → dig N = dig x.m ++ x.l.reverse) ∧ (x.m = 0 → x.l ≠ [] → dig N = x.l.reverse)
theorem DSpre_len {N : Nat} {x : DS} (hN : N ≤ 9223372036854775808) (h : DSpre N x) : x.l.length ≤ 20 := by
  have := dig_len 20 N (by decide) (by omega)
  by_cases hm : 0 < x.m ∨ x.l = []
  · have h2 := h.2.1 hm
    rw [h2] at this; simp at this; omega
  · have h2 := h.2.2 (by omega) (fun e => hm (.inr e))
    rw [h2] at this; simpa using this
theorem DSpre_step {N : Nat} {x : DS} (h : DSpre N x) (hm : 0 < x.m ∨ x.l = []) (v : Nat) : DSpre N ⟨x.m / 10, x.l ++ [UInt8.ofNat (48 + x.m % 10)], v⟩ := by
  have h2 := h.2.1 hm
  refine ⟨?_, ?_, ?_⟩
  · have := Nat.div_le_self x.m 10; have := h.1; simp only; omega
  · intro h3
    simp only [List.append_eq_nil_iff, reduceCtorEq, and_false, or_false] at h3
    rw [h2, dig_great (by omega)]; simp
  · intro h3 _
    simp only at h3
    rw [h2, dig_small (by omega)]
    have : x.m % 10 = x.m := by omega
    simp [this]
end Go.Proofs.YtabifanjbckchaaGreat
