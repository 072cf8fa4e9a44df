/-
 NUMBERS AS TEXT, of the reference and of the program, by abstract texts. Conditions: none.
-/
import Derived.Test.YtjnljjbmmmpdiaaDoorNumP
import Derived.Test.YtjnljjbmmmpdiaaDoorWithinA
import Derived.Test.YtjnljjbmmmpdiaaDoorIrNum
set_option linter.unusedVariables false
set_option linter.unusedSimpArgs false
set_option maxRecDepth 100000
namespace Go.Proofs.YtjnljjbmmmpdiaaDoor
open Go.RowKit Go.Proofs.YtjnljjbmmmpdiaaDoor.Av Go.Proofs.YtjnljjbmmmpdiaaDoor.Ml
open Go.Proofs.YtjnljjbmmmpdiaaDoor.Av.AVal (av)

theorem l01Digits_ok (k : Nat) : k ≤ 9223372036854775808 → CallsF Tryd.prog 20 [.int .i64 (-(k : Int))] (.str (digS k)) := by
 induction k using Nat.strongRecOn with
 | _ k ih =>
  intro hk
  refine fun_spec_l01Digits rfl (by simp; exact pint _) (AvPure.str _) ?_
  by_cases h10 : k < 10
  ·have h1 : -10 < -(k : Int) := by omega
   have h2 : (48 : Int) - -(k : Int) = ((48 + k : Nat) : Int) := by omega
   rw [digS_small h10]
   simp +contextual -dsimp only [↓SD, SU, SB, Nat.reduceAdd, Nat.reduceBEq, Nat.reduceEqDiff, Nat.reduceLeDiff, Nat.reduceLT, Nat.reduceSub, ↓reduceIte, reduceCtorEq, Int.reduceToNat, Int.reduceEq, Int.reduceLT, Int.reduceLE, Int.reduceNeg, Int.reduceAdd, Int.reduceSub, ir_spec_l01Digits, rs_spec_l01Digits, h1]
   refine ⟨by omega, by omega, ?_⟩
   refine b2s_of _ _ [UInt8.ofNat (48 + k)] rfl (by rw [List.map_cons, List.map_nil, av_byte _ (by omega), ← h2]) ?_
   simp +contextual -dsimp only [↓SD, SU, SB, Nat.reduceAdd, Nat.reduceBEq, Nat.reduceEqDiff, Nat.reduceLeDiff, Nat.reduceLT, Nat.reduceSub, ↓reduceIte, reduceCtorEq, Int.reduceToNat]
  ·have h1 : ¬ -10 < -(k : Int) := by omega
   have h2 : (-(k : Int)).tdiv 10 = -((k / 10 : Nat) : Int) := by rw [Int.neg_tdiv, Int.tdiv_eq_ediv_of_nonneg (by omega)]; rfl
   have h3 : (-(k : Int)).tmod 10 = -((k % 10 : Nat) : Int) := by rw [Int.neg_tmod, Int.tmod_eq_emod_of_nonneg (by omega)]; rfl
   have h4 : (48 : Int) - -((k % 10 : Nat) : Int) = ((48 + k % 10 : Nat) : Int) := by omega
   have C := ih (k / 10) (by omega) (by omega)
   have hs := digS_le (k / 10) (by omega)
   rw [digS_great h10]
   simp +contextual -dsimp only [↓SD, SU, SB, Nat.reduceAdd, Nat.reduceBEq, Nat.reduceEqDiff, Nat.reduceLeDiff, Nat.reduceLT, Nat.reduceSub, ↓reduceIte, reduceCtorEq, Int.reduceToNat, Int.reduceEq, Int.reduceLT, Int.reduceLE, Int.reduceNeg, Int.reduceAdd, Int.reduceSub, ir_spec_l01Digits, rs_spec_l01Digits, h1, h2, h3]
   refine ⟨by omega, ?_⟩
   refine aCallK_of _ C ?_
   simp +contextual -dsimp only [↓SD, SU, SB, Nat.reduceAdd, Nat.reduceBEq, Nat.reduceEqDiff, Nat.reduceLeDiff, Nat.reduceLT, Nat.reduceSub, ↓reduceIte, reduceCtorEq, Int.reduceToNat, Int.reduceEq, Int.reduceLT, Int.reduceLE, Int.reduceNeg, Int.reduceAdd, Int.reduceSub, h3, h4]
   refine ⟨by omega, by omega, by omega, ?_⟩
   refine b2s_of _ _ [UInt8.ofNat (48 + k % 10)] rfl (by rw [List.map_cons, List.map_nil, av_byte _ (by omega)]) ?_
   simp +contextual -dsimp only [↓SD, SU, SB, Nat.reduceAdd, Nat.reduceBEq, Nat.reduceEqDiff, Nat.reduceLeDiff, Nat.reduceLT, Nat.reduceSub, ↓reduceIte, reduceCtorEq, Int.reduceToNat]
   have h5 : (⟨[UInt8.ofNat (48 + k % 10)].toArray⟩ : ByteArray).size = 1 := rfl
   unfold maxLen; omega
theorem bits64 : IntKind.i64.bits = 64 := rfl
theorem wrap_id (n : Int) (h : -9223372036854775808 ≤ n ∧ n ≤ 9223372036854775807) : (IntKind.i64.wrap (n * 2) / 2 = n) ↔ (-4611686018427387904 ≤ n ∧ n ≤ 4611686018427387903) := by
 rw [IntKind.wrap_i64]
 omega
theorem specWrap_ok (n : Int) (h : -9223372036854775808 ≤ n ∧ n ≤ 9223372036854775807) : CallsF Tryd.prog 19 [.int .i64 n] (.int .i64 (IntKind.i64.wrap (n * 2) / 2)) := by
 refine fun_spec_Wrap rfl (by simp; exact pint _) (pint _) ?_
 have e1 : min 1 IntKind.i64.bits = 1 := rfl
 have e2 : ∀ x : Int, x.fdiv (2 ^ 1) = x / 2 := fun x => by rw [Int.fdiv_eq_ediv_of_nonneg _ (by decide)]; rfl
 have e3 : n * 2 ^ 1 = n * 2 := rfl
 simp +contextual -dsimp only [↓SD, SU, SB, Nat.reduceAdd, Nat.reduceBEq, Nat.reduceEqDiff, Nat.reduceLeDiff, Nat.reduceLT, Nat.reduceSub, ↓reduceIte, reduceCtorEq, Int.reduceToNat, Int.reduceEq, Int.reduceLT, Int.reduceLE, Int.reduceNeg, Int.reduceAdd, Int.reduceSub, ir_spec_Wrap, rs_spec_Wrap, e1, e2, e3]
 rw [IntKind.wrap_i64]
 omega
theorem specNumText_ok (n : Int) (hn : -9223372036854775808 ≤ n ∧ n ≤ 9223372036854775807) : CallsF Tryd.prog 11 [.int .i64 n] (.str (numS n)) := by
 refine fun_spec_NumText rfl (by simp; exact pint _) (AvPure.str _) ?_
 have C := specWrap_ok n hn
 have W := wrap_id n hn
 simp +contextual -dsimp only [↓SD, SU, SB, Nat.reduceAdd, Nat.reduceBEq, Nat.reduceEqDiff, Nat.reduceLeDiff, Nat.reduceLT, Nat.reduceSub, ↓reduceIte, reduceCtorEq, Int.reduceToNat, Int.reduceEq, Int.reduceLT, Int.reduceLE, Int.reduceNeg, Int.reduceAdd, Int.reduceSub, ir_spec_NumText, rs_spec_NumText]
 refine aCallK_of _ C ?_
 by_cases hin : -4611686018427387904 ≤ n ∧ n ≤ 4611686018427387903
 ·have hw := W.2 hin
  by_cases h0 : n < 0
  ·have hS : numS n = ⟨#[45]⟩ ++ digS (-n).toNat := by unfold numS; rw [if_pos hin, if_pos h0]
   obtain ⟨k, rfl⟩ : ∃ k : Nat, n = -(k : Int) := ⟨(-n).toNat, by omega⟩
   have hs := digS_le k (by omega)
   have hk : (-(-(k : Int))).toNat = k := by omega
   rw [hS, hk]
   simp +contextual -dsimp only [↓SD, SU, SB, Nat.reduceAdd, Nat.reduceBEq, Nat.reduceEqDiff, Nat.reduceLeDiff, Nat.reduceLT, Nat.reduceSub, ↓reduceIte, reduceCtorEq, Int.reduceToNat, Int.reduceEq, Int.reduceLT, Int.reduceLE, Int.reduceNeg, Int.reduceAdd, Int.reduceSub, hw, h0]
   refine aCallK_of _ (l01Digits_ok k (by omega)) ?_
   have hb : bs [45] = (⟨#[45]⟩ : ByteArray) := rfl
   simp +contextual -dsimp only [↓SD, SU, SB, Nat.reduceAdd, Nat.reduceBEq, Nat.reduceEqDiff, Nat.reduceLeDiff, Nat.reduceLT, Nat.reduceSub, ↓reduceIte, reduceCtorEq, Int.reduceToNat, Int.reduceEq, Int.reduceLT, Int.reduceLE, Int.reduceNeg, Int.reduceAdd, Int.reduceSub, hb]
   have h1 : (⟨#[45]⟩ : ByteArray).size = 1 := rfl
   unfold maxLen; omega
  ·have hS : numS n = digS n.toNat := by unfold numS; rw [if_pos hin, if_neg h0]
   obtain ⟨k, rfl⟩ : ∃ k : Nat, n = (k : Int) := ⟨n.toNat, by omega⟩
   rw [hS, Int.toNat_natCast]
   simp +contextual -dsimp only [↓SD, SU, SB, Nat.reduceAdd, Nat.reduceBEq, Nat.reduceEqDiff, Nat.reduceLeDiff, Nat.reduceLT, Nat.reduceSub, ↓reduceIte, reduceCtorEq, Int.reduceToNat, Int.reduceEq, Int.reduceLT, Int.reduceLE, Int.reduceNeg, Int.reduceAdd, Int.reduceSub, hw, h0]
   refine ⟨by omega, ?_⟩
   refine aCallK_of _ (l01Digits_ok k (by omega)) ?_
   simp +contextual -dsimp only [↓SD, SU, SB, Nat.reduceAdd, Nat.reduceBEq, Nat.reduceEqDiff, Nat.reduceLeDiff, Nat.reduceLT, Nat.reduceSub, ↓reduceIte, reduceCtorEq, Int.reduceToNat, Int.reduceEq, Int.reduceLT, Int.reduceLE, Int.reduceNeg, Int.reduceAdd, Int.reduceSub]
 ·have hw : ¬ IntKind.i64.wrap (n * 2) / 2 = n := fun h => hin (W.1 h)
  have hS : numS n = ⟨#[]⟩ := by unfold numS; rw [if_neg hin]
  rw [hS]
  simp +contextual -dsimp only [↓SD, SU, SB, Nat.reduceAdd, Nat.reduceBEq, Nat.reduceEqDiff, Nat.reduceLeDiff, Nat.reduceLT, Nat.reduceSub, ↓reduceIte, reduceCtorEq, Int.reduceToNat, Int.reduceEq, Int.reduceLT, Int.reduceLE, Int.reduceNeg, Int.reduceAdd, Int.reduceSub, hw]
  rfl

def RevPost (k v : Nat) (l : List UInt8) (r : AV) (hp' : Hp) : Prop := r = .tup [] ∧ hp' = [(k, ⟨v, false, 5, 1, l.reverse.map av⟩)]
theorem Reverse8_ok (k v : Nat) (l : List UInt8) (hl : l.length ≤ 1048576) : CallsH Tryd.prog 36 [.row k v l.length] [(k, ⟨v, false, 5, 1, l.map av⟩)] (RevPost k v l) := by
 refine funH_slices_Reverse_byte_byte rfl ?_
 simp +contextual -dsimp only [↓SD, SU, SB, Nat.reduceAdd, Nat.reduceBEq, Nat.reduceEqDiff, Nat.reduceLeDiff, Nat.reduceLT, Nat.reduceSub, ↓reduceIte, reduceCtorEq, Int.reduceToNat, Int.reduceEq, Int.reduceLT, Int.reduceLE, Int.reduceNeg, Int.reduceAdd, Int.reduceSub, ir_slices_Reverse_byte_byte, rs_slices_Reverse_byte_byte, map_len]
 refine ⟨by omega, ?_⟩
 refine aLoop_of (X := Nat) (fun i => ⟨[(0, .row k v l.length), (2, .int .i64 i), (3, .int .i64 ((l.length : Int) - 1 - i))], [(k, ⟨v, false, 5, 1, (turnL 0 l i).map av⟩)]⟩) (fun i => 2 * i ≤ l.length + 1) (fun i => l.length - i) 0 (by simp) (by simp +contextual -dsimp only [↓SD, SU, SB, Nat.reduceAdd, Nat.reduceBEq, Nat.reduceEqDiff, Nat.reduceLeDiff, Nat.reduceLT, Nat.reduceSub, ↓reduceIte, reduceCtorEq, Int.reduceToNat, Int.natCast_zero, Int.sub_zero]) (by simp +contextual -dsimp only [↓SD, SU, SB, Nat.reduceAdd, Nat.reduceBEq, Nat.reduceEqDiff, Nat.reduceLeDiff, Nat.reduceLT, Nat.reduceSub, ↓reduceIte, reduceCtorEq, Int.reduceToNat, turnL_zero]) ?_
 rintro i hi
 by_cases hlt : 2 * i + 1 < l.length
 ·have h1 : (i : Int) < (l.length : Int) - 1 - i := by omega
  obtain ⟨j, hj⟩ : ∃ j : Nat, j = l.length - 1 - i := ⟨_, rfl⟩
  have h2 : ((l.length : Int) - 1 - i) = (j : Int) := by omega
  have hjl : j < l.length := by omega
  have hil : i < l.length := by omega
  have ei := getD_map av (turnL 0 l i) i .top (by rw [turnL_len]; omega)
  have ej := getD_map av (turnL 0 l i) j .top (by rw [turnL_len]; omega)
  rw [turnL_get 0 l hil (by omega) (by omega)] at ei
  rw [turnL_get 0 l hjl (by omega) (by omega)] at ej
  have hst := turnL_step 0 l hlt
  rw [h2] at h1
  have hne : i ≠ j := by omega
  have es : ((turnL 0 l i).map av).set i (.int .u8 l[j].toNat) = ((turnL 0 l i).set i l[j]).map av := by rw [List.map_set]; rfl
  have ej2 := getD_map av ((turnL 0 l i).set i l[j]) j .top (by rw [List.length_set, turnL_len]; omega)
  rw [List.getElem_set, if_neg hne, turnL_get 0 l hjl (by omega) (by omega)] at ej2
  have es2 : (((turnL 0 l i).set i l[j]).map av).set j (.int .u8 l[i].toNat) = (((turnL 0 l i).set i l[j]).set j l[i]).map av := by simp only [List.map_set]; rfl
  have hst2 : ((turnL 0 l i).set i l[j]).set j l[i] = turnL 0 l (i + 1) := by subst hj; exact hst
  rw [hst2] at es2
  have hlen : ((turnL 0 l i).set i l[j]).length = l.length := by rw [List.length_set, turnL_len]
  simp +contextual -dsimp only [↓SD, SU, SB, Nat.reduceAdd, Nat.reduceBEq, Nat.reduceEqDiff, Nat.reduceLeDiff, Nat.reduceLT, Nat.reduceSub, ↓reduceIte, reduceCtorEq, Int.reduceToNat, map_len, turnL_len, h1, h2, hil, hjl, ei, ej, av_u8, es, ej2, es2, hlen]
  refine ⟨by omega, by omega, Goes.le ⟨i + 1, ⟨by omega, (by first | omega | (simp only; omega))⟩, rfl⟩ ?_ (by simp +contextual -dsimp only [↓SD, SU, SB, Nat.reduceAdd, Nat.reduceBEq, Nat.reduceEqDiff, Nat.reduceLeDiff, Nat.reduceLT, Nat.reduceSub, ↓reduceIte, reduceCtorEq, Int.reduceToNat])⟩
  have h3 : (l.length : Int) - 1 - ((i : Int) + 1) = (j : Int) - 1 := by omega
  simp +contextual -dsimp only [↓SD, SU, SB, Nat.reduceAdd, Nat.reduceBEq, Nat.reduceEqDiff, Nat.reduceLeDiff, Nat.reduceLT, Nat.reduceSub, ↓reduceIte, reduceCtorEq, Int.reduceToNat, Int.natCast_add, h3]
 ·have h1 : ¬ (i : Int) < (l.length : Int) - 1 - i := by omega
  simp +contextual -dsimp only [↓SD, SU, SB, Nat.reduceAdd, Nat.reduceBEq, Nat.reduceEqDiff, Nat.reduceLeDiff, Nat.reduceLT, Nat.reduceSub, ↓reduceIte, reduceCtorEq, Int.reduceToNat, map_len, turnL_len, h1]
  refine Goes.post [(k, ⟨v, false, 5, 1, l.reverse.map av⟩)] ?_
  rw [turnL_end 0 l (by omega)]
  simp +contextual -dsimp only [↓SD, SU, SB, Nat.reduceAdd, Nat.reduceBEq, Nat.reduceEqDiff, Nat.reduceLeDiff, Nat.reduceLT, Nat.reduceSub, ↓reduceIte, reduceCtorEq, Int.reduceToNat]
  exact ⟨rfl, rfl⟩

theorem aTail_row {hp : Hp} {k v n : Nat} {b : Box} (hk : hget hp k = some b) (hv : b.ver = v) (hn : n = b.es.length) : aTail hp (.row k v n) = some b.es := by
 unfold aTail
 simp only [hk, hv, hn, true_and, Nat.le_refl, if_true, List.take_length]
structure DS where
 m : Nat
 l : List UInt8
 v : Nat
def DSpre (N : Nat) (x : DS) : Prop := x.m ≤ N ∧ ((0 < x.m ∨ x.l = []) → dig N = dig x.m ++ x.l.reverse) ∧ (x.m = 0 → x.l ≠ [] → dig N = x.l.reverse)
theorem DSpre_len {N : Nat} {x : DS} (hN : N ≤ 9223372036854775808) (h : DSpre N x) : x.l.length ≤ 20 := by
 have := dig_len 20 N (by decide) (by omega)
 by_cases hm : 0 < x.m ∨ x.l = []
 ·have h2 := h.2.1 hm
  rw [h2] at this; simp at this; omega
 ·have h2 := h.2.2 (by omega) (fun e => hm (.inr e))
  rw [h2] at this; simpa using this
theorem DSpre_step {N : Nat} {x : DS} (h : DSpre N x) (hm : 0 < x.m ∨ x.l = []) (v : Nat) : DSpre N ⟨x.m / 10, x.l ++ [UInt8.ofNat (48 + x.m % 10)], v⟩ := by
 have h2 := h.2.1 hm
 refine ⟨?_, ?_, ?_⟩
 ·have := Nat.div_le_self x.m 10; have := h.1; simp only; omega
 ·intro h3
  simp only [List.append_eq_nil_iff, reduceCtorEq, and_false, or_false] at h3
  rw [h2, dig_great (by omega)]; simp
 ·intro h3 _
  simp only at h3
  rw [h2, dig_small (by omega)]
  have : x.m % 10 = x.m := by omega
  simp [this]
theorem digits_ok (N : Nat) (hN : N ≤ 9223372036854775807) : CallsF Tryd.prog 30 [.int .i64 (N : Int)] (.str (digS N)) := by
 refine fun_impl_digits rfl (by simp; exact pint _) (AvPure.str _) ?_
 simp +contextual -dsimp only [↓SD, SU, SB, Nat.reduceAdd, Nat.reduceBEq, Nat.reduceEqDiff, Nat.reduceLeDiff, Nat.reduceLT, Nat.reduceSub, ↓reduceIte, reduceCtorEq, Int.reduceToNat, Int.reduceEq, Int.reduceLT, Int.reduceLE, Int.reduceNeg, Int.reduceAdd, Int.reduceSub, ir_impl_digits, rs_impl_digits]
 intro v
 refine aLoop_of (X := DS) (fun x => ⟨[(0, .int .i64 (x.m : Int)), (3, .row 4 x.v x.l.length)], [(4, ⟨x.v, false, 5, 1, x.l.map av⟩)]⟩) (DSpre N) (fun x => 2 * x.m + (if x.l = [] then 1 else 0)) ⟨N, [], v⟩ ⟨Nat.le_refl _, fun _ => by simp, fun _ h => absurd rfl h⟩ (by simp +contextual -dsimp only [↓SD, SU, SB, Nat.reduceAdd, Nat.reduceBEq, Nat.reduceEqDiff, Nat.reduceLeDiff, Nat.reduceLT, Nat.reduceSub, ↓reduceIte, reduceCtorEq, Int.reduceToNat]) (by simp +contextual -dsimp only [↓SD, SU, SB, Nat.reduceAdd, Nat.reduceBEq, Nat.reduceEqDiff, Nat.reduceLeDiff, Nat.reduceLT, Nat.reduceSub, ↓reduceIte, reduceCtorEq, Int.reduceToNat]) ?_
 rintro ⟨m, l, u⟩ hp
 have hlen := DSpre_len (by omega) hp
 have hmN : m ≤ N := hp.1
 have h48 : (48 : Int) + ((m : Int).tmod 10) = ((48 + m % 10 : Nat) : Int) := by rw [Int.tmod_eq_emod_of_nonneg (by omega)]; rfl
 have h10 : (m : Int).tdiv 10 = ((m / 10 : Nat) : Int) := by rw [Int.tdiv_eq_ediv_of_nonneg (by omega)]; rfl
 have hin : (0 : Int) ≤ (m : Int).tmod 10 ∧ (m : Int).tmod 10 < 10 := by rw [Int.tmod_eq_emod_of_nonneg (by omega)]; omega
 have hstep := fun hm v => DSpre_step hp hm v
 dsimp only at hlen hstep
 have hl2 : List.take l.length (l.map (av : UInt8 → AV)) = l.map av := List.take_of_length_le (by simp)
 have hav : AV.int .u8 (((48 + m % 10 : Nat) : Int)) = av (UInt8.ofNat (48 + m % 10)) := by rw [av_u8, av_byte _ (by omega)]
 by_cases hm : 0 < m ∨ l = []
 ·have hc : (0 < (m : Int)) ∨ (l.length : Int) = 0 := by rcases hm with h | h; exact .inl (by omega); exact .inr (by simp [h])
  have fin : ∀ u', DSpre N ⟨m / 10, l ++ [UInt8.ofNat (48 + m % 10)], u'⟩ ∧ 2 * (m / 10) + (if l ++ [UInt8.ofNat (48 + m % 10)] = [] then 1 else 0) < 2 * m + (if l = [] then 1 else 0) := by
   intro u'
   refine ⟨hstep hm u', ?_⟩
   simp only [List.append_eq_nil_iff, reduceCtorEq, and_false, if_false]
   rcases hm with h | h
   ·split <;> omega
   ·subst h; simp; omega
  clear hstep hp
  by_cases hc0 : 0 < (m : Int)
  ·simp +contextual -dsimp only [↓SD, SU, SB, Nat.reduceAdd, Nat.reduceBEq, Nat.reduceEqDiff, Nat.reduceLeDiff, Nat.reduceLT, Nat.reduceSub, ↓reduceIte, reduceCtorEq, Int.reduceToNat, Int.reduceEq, Int.reduceLT, Int.reduceLE, Int.reduceNeg, Int.reduceAdd, Int.reduceSub, hc0, h48, h10, map_len, hl2, Nat.le_refl]
   refine ⟨by omega, by omega, by omega, ⟨by omega, by unfold maxLen; omega⟩, fun u' => ⟨by omega, Goes.le ⟨⟨m / 10, l ++ [UInt8.ofNat (48 + m % 10)], u'⟩, fin u', rfl⟩ (by simp +contextual -dsimp only [↓SD, SU, SB, Nat.reduceAdd, Nat.reduceBEq, Nat.reduceEqDiff, Nat.reduceLeDiff, Nat.reduceLT, Nat.reduceSub, ↓reduceIte, reduceCtorEq, Int.reduceToNat]; simp) (by simp +contextual -dsimp only [↓SD, SU, SB, Nat.reduceAdd, Nat.reduceBEq, Nat.reduceEqDiff, Nat.reduceLeDiff, Nat.reduceLT, Nat.reduceSub, ↓reduceIte, reduceCtorEq, Int.reduceToNat, List.map_append, hav])⟩⟩
  ·replace hc := hc.resolve_left hc0
   simp +contextual -dsimp only [↓SD, SU, SB, Nat.reduceAdd, Nat.reduceBEq, Nat.reduceEqDiff, Nat.reduceLeDiff, Nat.reduceLT, Nat.reduceSub, ↓reduceIte, reduceCtorEq, Int.reduceToNat, Int.reduceEq, Int.reduceLT, Int.reduceLE, Int.reduceNeg, Int.reduceAdd, Int.reduceSub, hc, hc0, h48, h10, map_len, hl2, Nat.le_refl]
   refine ⟨by omega, by omega, by omega, ⟨by omega, by unfold maxLen; omega⟩, fun u' => ⟨by omega, Goes.le ⟨⟨m / 10, l ++ [UInt8.ofNat (48 + m % 10)], u'⟩, fin u', rfl⟩ (by simp +contextual -dsimp only [↓SD, SU, SB, Nat.reduceAdd, Nat.reduceBEq, Nat.reduceEqDiff, Nat.reduceLeDiff, Nat.reduceLT, Nat.reduceSub, ↓reduceIte, reduceCtorEq, Int.reduceToNat]; simp) (by simp +contextual -dsimp only [↓SD, SU, SB, Nat.reduceAdd, Nat.reduceBEq, Nat.reduceEqDiff, Nat.reduceLeDiff, Nat.reduceLT, Nat.reduceSub, ↓reduceIte, reduceCtorEq, Int.reduceToNat, List.map_append, hav])⟩⟩
 ·have h1 : ¬ 0 < (m : Int) := by omega
  have h2 : ¬ (l.length : Int) = 0 := fun h => hm (.inr (List.length_eq_zero_iff.1 (by omega)))
  have hd : digS N = ⟨l.reverse.toArray⟩ := by unfold digS; rw [hp.2.2 (by simp only; omega) (fun e => hm (.inr e))]
  have hr : AvPure (.str (digS N)) := AvPure.str _
  simp +contextual -dsimp only [↓SD, SU, SB, Nat.reduceAdd, Nat.reduceBEq, Nat.reduceEqDiff, Nat.reduceLeDiff, Nat.reduceLT, Nat.reduceSub, ↓reduceIte, reduceCtorEq, Int.reduceToNat, Int.reduceEq, Int.reduceLT, Int.reduceLE, Int.reduceNeg, Int.reduceAdd, Int.reduceSub, h1, h2, map_len]
  refine aCallH_of [4] (Reverse8_ok 4 u l (by omega)) (by simp +contextual -dsimp only [↓SD, SU, SB, Nat.reduceAdd, Nat.reduceBEq, Nat.reduceEqDiff, Nat.reduceLeDiff, Nat.reduceLT, Nat.reduceSub, ↓reduceIte, reduceCtorEq, Int.reduceToNat]) ?_
  rintro r hp' ⟨rfl, rfl⟩
  simp +contextual -dsimp only [↓SD, SU, SB, Nat.reduceAdd, Nat.reduceBEq, Nat.reduceEqDiff, Nat.reduceLeDiff, Nat.reduceLT, Nat.reduceSub, ↓reduceIte, reduceCtorEq, Int.reduceToNat, Int.reduceEq, Int.reduceLT, Int.reduceLE, Int.reduceNeg, Int.reduceAdd, Int.reduceSub]
  refine b2s_of _ _ l.reverse (aTail_row rfl rfl (by simp)) rfl ?_
  simp +contextual -dsimp only [↓SD, SU, SB, Nat.reduceAdd, Nat.reduceBEq, Nat.reduceEqDiff, Nat.reduceLeDiff, Nat.reduceLT, Nat.reduceSub, ↓reduceIte, reduceCtorEq, Int.reduceToNat, Int.reduceEq, Int.reduceLT, Int.reduceLE, Int.reduceNeg, Int.reduceAdd, Int.reduceSub, hd]
end Go.Proofs.YtjnljjbmmmpdiaaDoor
