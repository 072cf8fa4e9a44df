/-
 WORDS: names and constructors, by abstract texts. Conditions: none.
-/
import Derived.Test.YtjbcnilllfaipaaGreatYJ08
set_option linter.unusedVariables false
set_option linter.unusedSimpArgs false
set_option maxRecDepth 100000
namespace Go.Proofs.YtjbcnilllfaipaaGreat
open Go.RowKit Go.Proofs.YtjbcnilllfaipaaGreat.Av Go.Proofs.YtjbcnilllfaipaaGreat.Ml
open Go.Proofs.YtjbcnilllfaipaaGreat.Av.AVal (av)

def cls (b : Int) : Int := if 97 ≤ b ∧ b ≤ 122 then 1 else if 65 ≤ b ∧ b ≤ 90 then 2 else if (48 ≤ b ∧ b ≤ 57) ∨ b = 95 then 3 else 0
theorem Abz (b : Int) (h0 : 0 ≤ b) (h1 : b ≤ 255) : Ap Tryz.prog 113 [.int .u8 b] (.int .i64 (cls b)) := by
 refine Is.F rfl (by simp; exact pu8 _) (BL _) ?_
 simp +contextual -dsimp only [↓SD, SU, Nat.reduceAdd, Nat.reduceBEq, Nat.reduceEqDiff, Nat.reduceLeDiff, Nat.reduceLT, Nat.reduceSub, ↓reduceIte, reduceCtorEq, Int.reduceToNat, Is]
 (repeat' (first | intro _ | refine And.intro ?_ ?_))
 all_goals first | omega | (congr 1; done) | (congr 1; unfold cls; (repeat' split) <;> omega)
theorem OW (b : Int) : Ap Tryz.prog 143 [.int .u8 b] (.bool (decide (cls b = 2))) := by
 refine Jy.F rfl (by simp; exact pu8 _) (Ac.bool _) ?_
 simp +contextual -dsimp only [↓SD, SU, Nat.reduceAdd, Nat.reduceBEq, Nat.reduceEqDiff, Nat.reduceLeDiff, Nat.reduceLT, Nat.reduceSub, ↓reduceIte, reduceCtorEq, Int.reduceToNat, Jy]
 (repeat' (first | intro _ | refine And.intro ?_ ?_))
 all_goals first | omega | (congr 1; done) | (congr 1; apply Bool.eq_iff_iff.2; simp only [decide_eq_true_eq, Bool.false_eq_true, false_iff, true_iff]; unfold cls; (repeat' split) <;> omega)
theorem OX (b : Int) : Ap Tryz.prog 93 [.int .u8 b] (.bool (decide (97 ≤ b ∧ b ≤ 122))) := by
 refine Jz.F rfl (by simp; exact pu8 _) (Ac.bool _) ?_
 simp +contextual -dsimp only [↓SD, SU, Nat.reduceAdd, Nat.reduceBEq, Nat.reduceEqDiff, Nat.reduceLeDiff, Nat.reduceLT, Nat.reduceSub, ↓reduceIte, reduceCtorEq, Int.reduceToNat, Jz]
 (repeat' (first | intro _ | refine And.intro ?_ ?_))
 all_goals first | omega | (congr 1; done) | (congr 1; apply Bool.eq_iff_iff.2; simp only [decide_eq_true_eq, Bool.false_eq_true, false_iff, true_iff]; omega)
theorem WA (b : Int) : Ap Tryz.prog 145 [.int .u8 b] (.bool (decide (48 ≤ b ∧ b ≤ 57))) := by
 refine JA.F rfl (by simp; exact pu8 _) (Ac.bool _) ?_
 simp +contextual -dsimp only [↓SD, SU, Nat.reduceAdd, Nat.reduceBEq, Nat.reduceEqDiff, Nat.reduceLeDiff, Nat.reduceLT, Nat.reduceSub, ↓reduceIte, reduceCtorEq, Int.reduceToNat, JA]
 (repeat' (first | intro _ | refine And.intro ?_ ?_))
 all_goals first | omega | (congr 1; done) | (congr 1; apply Bool.eq_iff_iff.2; simp only [decide_eq_true_eq, Bool.false_eq_true, false_iff, true_iff]; omega)
theorem ZG (b : Int) : Ap Tryz.prog 129 [.int .u8 b] (.bool (!decide (cls b = 0))) := by
 refine Kh.F rfl (by simp; exact pu8 _) (Ac.bool _) ?_
 simp +contextual -dsimp only [↓SD, SU, Nat.reduceAdd, Nat.reduceBEq, Nat.reduceEqDiff, Nat.reduceLeDiff, Nat.reduceLT, Nat.reduceSub, ↓reduceIte, reduceCtorEq, Int.reduceToNat, Kh]
 refine Ab _ (OX b) ?_
 simp +contextual -dsimp only [↓SD, SU, Nat.reduceAdd, Nat.reduceBEq, Nat.reduceEqDiff, Nat.reduceLeDiff, Nat.reduceLT, Nat.reduceSub, ↓reduceIte, reduceCtorEq, Int.reduceToNat]
 refine ⟨fun h0 => ?_, fun h0 => ?_⟩
 ·refine Ab _ (OW b) ?_
  simp +contextual -dsimp only [↓SD, SU, Nat.reduceAdd, Nat.reduceBEq, Nat.reduceEqDiff, Nat.reduceLeDiff, Nat.reduceLT, Nat.reduceSub, ↓reduceIte, reduceCtorEq, Int.reduceToNat, h0]
  refine ⟨fun h1 => ?_, fun h1 => ?_⟩
  ·refine Ab _ (WA b) ?_
   simp +contextual -dsimp only [↓SD, SU, Nat.reduceAdd, Nat.reduceBEq, Nat.reduceEqDiff, Nat.reduceLeDiff, Nat.reduceLT, Nat.reduceSub, ↓reduceIte, reduceCtorEq, Int.reduceToNat, h0, h1]
   (repeat' (first | intro _ | refine And.intro ?_ ?_))
   all_goals first
    | omega
    | (congr 1; apply Bool.eq_iff_iff.2; simp only [decide_eq_true_eq, Bool.not_eq_true', decide_eq_false_iff_not, true_iff, Bool.false_eq_true, false_iff, Decidable.not_not]; unfold cls at *; (repeat' split at *) <;> omega)
    | (congr 1; apply Bool.eq_iff_iff.2; simp only [decide_eq_true_eq, Bool.not_eq_true', decide_eq_false_iff_not, true_iff, Bool.false_eq_true, false_iff, Decidable.not_not]; unfold cls at *; (repeat' split) <;> omega)
  ·simp [h1]
 ·congr 1; apply Bool.eq_iff_iff.2; simp only [Bool.not_eq_true', decide_eq_false_iff_not, true_iff]; unfold cls; (repeat' split) <;> omega

def WX (s : ByteArray) : Bool := (List.range s.size).all fun i => !decide (cls (D7 s i).toNat = 0)
theorem YW {s : ByteArray} {k : Nat} (hk : k < s.size) (h : cls (D7 s k).toNat = 0) : WX s = false := by
 unfold WX; rw [List.all_eq_false]; exact ⟨k, List.mem_range.2 hk, by simp [h]⟩
theorem Vy {s : ByteArray} (h : ∀ i, i < s.size → ¬ cls (D7 s i).toNat = 0) : WX s = true := by
 unfold WX; rw [List.all_eq_true]; intro x hx; simp [h x (List.mem_range.1 hx)]
theorem Qf (s : ByteArray) (hs : s.size ≤ 1099511627776) : Ap Tryz.prog 92 [.str s] (.bool (WX s && (decide (1 ≤ (s.size : Int)) && decide ((s.size : Int) ≤ 12)))) := by
 refine Kd.F rfl (by simp; exact Ac.str _) (Ac.bool _) ?_
 simp +contextual -dsimp only [↓SD, SU, Nat.reduceAdd, Nat.reduceBEq, Nat.reduceEqDiff, Nat.reduceLeDiff, Nat.reduceLT, Nat.reduceSub, ↓reduceIte, reduceCtorEq, Int.reduceToNat, Kd]
 refine Al (X := Nat) (fun k => ⟨[(0, .str s), (5, .int .i64 s.size), (6, .int .i64 k)], []⟩) (fun k => k ≤ s.size ∧ ∀ i, i < k → ¬ cls (D7 s i).toNat = 0) (fun k => s.size - k) 0 ⟨Nat.zero_le _, fun i h => absurd h (by omega)⟩ (by simp +contextual -dsimp only [↓SD, SU, Nat.reduceAdd, Nat.reduceBEq, Nat.reduceEqDiff, Nat.reduceLeDiff, Nat.reduceLT, Nat.reduceSub, ↓reduceIte, reduceCtorEq, Int.reduceToNat]) trivial ?_
 intro k ⟨hk, hp⟩
 by_cases hlt : k < s.size
 ·simp +contextual -dsimp only [↓SD, SU, Nat.reduceAdd, Nat.reduceBEq, Nat.reduceEqDiff, Nat.reduceLeDiff, Nat.reduceLT, Nat.reduceSub, ↓reduceIte, reduceCtorEq, Int.reduceToNat, hlt]
  refine Ab _ (ZG _) ?_
  simp +contextual -dsimp only [↓SD, SU, Nat.reduceAdd, Nat.reduceBEq, Nat.reduceEqDiff, Nat.reduceLeDiff, Nat.reduceLT, Nat.reduceSub, ↓reduceIte, reduceCtorEq, Int.reduceToNat]
  refine ⟨fun h => by rw [YW hlt h]; rfl, fun h => ⟨by omega, Af.le ⟨k + 1, ⟨⟨hlt, fun i hi => ?_⟩, (by first | omega | (simp only; omega))⟩, rfl⟩ (by simp +contextual -dsimp only [↓SD, SU, Nat.reduceAdd, Nat.reduceBEq, Nat.reduceEqDiff, Nat.reduceLeDiff, Nat.reduceLT, Nat.reduceSub, ↓reduceIte, reduceCtorEq, Int.reduceToNat, Int.natCast_add]) trivial⟩⟩
  rcases Nat.lt_succ_iff_lt_or_eq.1 hi with hi | rfl
  ·exact hp i hi
  ·exact h
 ·obtain rfl : k = s.size := by omega
  simp +contextual -dsimp only [↓SD, SU, Nat.reduceAdd, Nat.reduceBEq, Nat.reduceEqDiff, Nat.reduceLeDiff, Nat.reduceLT, Nat.reduceSub, ↓reduceIte, reduceCtorEq, Int.reduceToNat, Nat.lt_irrefl]
  refine Ab _ (Em _ _ _) ?_
  simp +contextual -dsimp only [↓SD, SU, Nat.reduceAdd, Nat.reduceBEq, Nat.reduceEqDiff, Nat.reduceLeDiff, Nat.reduceLT, Nat.reduceSub, ↓reduceIte, reduceCtorEq, Int.reduceToNat, Vy hp]

def Jd (c : Int) (s : ByteArray) : Bool := (WX s && (decide (1 ≤ (s.size : Int)) && decide ((s.size : Int) ≤ 12))) && decide (cls (D7 s 0).toNat = c)
abbrev SN (s : ByteArray) : Bool := Jd 2 s
theorem Ma (s : ByteArray) (hs : s.size ≤ 1099511627776) : Ap Tryz.prog 127 [.str s] (.bool (SN s)) := by
 refine KR.F rfl (by simp; exact Ac.str _) (Ac.bool _) ?_
 simp +contextual -dsimp only [↓SD, SU, Nat.reduceAdd, Nat.reduceBEq, Nat.reduceEqDiff, Nat.reduceLeDiff, Nat.reduceLT, Nat.reduceSub, ↓reduceIte, reduceCtorEq, Int.reduceToNat, KR]
 refine Ab _ (Qf s hs) ?_
 simp +contextual -dsimp only [↓SD, SU, Nat.reduceAdd, Nat.reduceBEq, Nat.reduceEqDiff, Nat.reduceLeDiff, Nat.reduceLT, Nat.reduceSub, ↓reduceIte, reduceCtorEq, Int.reduceToNat]
 (repeat' (first | intro _ | refine And.intro ?_ ?_))
 ·omega
 ·rename_i h; simp only [Bool.and_eq_true, decide_eq_true_eq] at h; omega
 ·rename_i h
  refine Ab _ (OW _) ?_
  simp +contextual -dsimp only [↓SD, SU, Nat.reduceAdd, Nat.reduceBEq, Nat.reduceEqDiff, Nat.reduceLeDiff, Nat.reduceLT, Nat.reduceSub, ↓reduceIte, reduceCtorEq, Int.reduceToNat, h]
  unfold SN Jd; rw [h, Bool.true_and]
 ·rename_i h
  unfold SN Jd; rw [h]; rfl

theorem N0 {c : Int} {s : ByteArray} (h : s.size < 1 ∨ 12 < s.size ∨ ¬ cls (D7 s 0).toNat = c) : Jd c s = false := by
 unfold Jd
 rcases h with h | h | h
 ·rw [decide_eq_false (p := 1 ≤ (s.size : Int)) (by omega)]; simp
 ·rw [decide_eq_false (p := (s.size : Int) ≤ 12) (by omega)]; simp
 ·rw [decide_eq_false h]; simp
theorem Z8 {c : Int} {s : ByteArray} (h1 : ¬ s.size < 1) (h2 : ¬ 12 < s.size) (h : cls (D7 s 0).toNat = c) : Jd c s = WX s := by
 unfold Jd
 rw [decide_eq_true h, decide_eq_true (p := 1 ≤ (s.size : Int)) (by omega), decide_eq_true (p := (s.size : Int) ≤ 12) (by omega)]; simp
theorem M8 (c : Int) (s : ByteArray) (hs : s.size ≤ 1099511627776) : Ap Tryz.prog 67 [.str s, .int .i64 c] (.bool (Jd c s)) := by
 refine Jm.F rfl (by simp; exact ⟨Ac.str _, BL _⟩) (Ac.bool _) ?_
 simp +contextual -dsimp only [↓SD, SU, Nat.reduceAdd, Nat.reduceBEq, Nat.reduceEqDiff, Nat.reduceLeDiff, Nat.reduceLT, Nat.reduceSub, ↓reduceIte, reduceCtorEq, Int.reduceToNat, Jm]
 refine ⟨fun h1 => ⟨fun h2 => ⟨by omega, ?_⟩, fun h2 => by rw [N0 (by omega)]⟩, fun h1 => by rw [N0 (by omega)]⟩
 have hb := b8 s (Int.toNat 0)
 refine Ab _ (Abz _ hb.1 hb.2) ?_
 simp +contextual -dsimp only [↓SD, SU, Nat.reduceAdd, Nat.reduceBEq, Nat.reduceEqDiff, Nat.reduceLeDiff, Nat.reduceLT, Nat.reduceSub, ↓reduceIte, reduceCtorEq, Int.reduceToNat, h1, h2]
 refine ⟨fun h => by rw [N0 (.inr (.inr h))], fun h => ?_⟩
 rw [Z8 (by omega) (by omega) h]
 refine Al (X := Nat) (fun k => ⟨[(0, .str s), (1, .int .i64 c), (5, .int .i64 k)], []⟩) (fun k => k ≤ s.size ∧ ∀ i, i < k → ¬ cls (D7 s i).toNat = 0) (fun k => s.size - k) 0 ⟨Nat.zero_le _, fun i h => absurd h (by omega)⟩ (by simp +contextual -dsimp only [↓SD, SU, Nat.reduceAdd, Nat.reduceBEq, Nat.reduceEqDiff, Nat.reduceLeDiff, Nat.reduceLT, Nat.reduceSub, ↓reduceIte, reduceCtorEq, Int.reduceToNat]) trivial ?_
 intro k ⟨hk, hp⟩
 by_cases hlt : k < s.size
 ·simp +contextual -dsimp only [↓SD, SU, Nat.reduceAdd, Nat.reduceBEq, Nat.reduceEqDiff, Nat.reduceLeDiff, Nat.reduceLT, Nat.reduceSub, ↓reduceIte, reduceCtorEq, Int.reduceToNat, hlt]
  have hb := b8 s k
  refine Ab _ (Abz _ hb.1 hb.2) ?_
  simp +contextual -dsimp only [↓SD, SU, Nat.reduceAdd, Nat.reduceBEq, Nat.reduceEqDiff, Nat.reduceLeDiff, Nat.reduceLT, Nat.reduceSub, ↓reduceIte, reduceCtorEq, Int.reduceToNat]
  refine ⟨fun h => by rw [YW hlt h], fun h => ⟨by omega, Af.le ⟨k + 1, ⟨⟨hlt, fun i hi => ?_⟩, (by first | omega | (simp only; omega))⟩, rfl⟩ (by simp +contextual -dsimp only [↓SD, SU, Nat.reduceAdd, Nat.reduceBEq, Nat.reduceEqDiff, Nat.reduceLeDiff, Nat.reduceLT, Nat.reduceSub, ↓reduceIte, reduceCtorEq, Int.reduceToNat, Int.natCast_add]) trivial⟩⟩
  rcases Nat.lt_succ_iff_lt_or_eq.1 hi with hi | rfl
  ·exact hp i hi
  ·exact h
 ·obtain rfl : k = s.size := by omega
  simp +contextual -dsimp only [↓SD, SU, Nat.reduceAdd, Nat.reduceBEq, Nat.reduceEqDiff, Nat.reduceLeDiff, Nat.reduceLT, Nat.reduceSub, ↓reduceIte, reduceCtorEq, Int.reduceToNat, Nat.lt_irrefl]
  rw [Vy hp]
theorem Lu (s : ByteArray) (hs : s.size ≤ 1099511627776) : Ap Tryz.prog 69 [.str s] (.bool (SN s)) := by
 refine KK.F rfl (by simp; exact Ac.str _) (Ac.bool _) ?_
 simp +contextual -dsimp only [↓SD, SU, Nat.reduceAdd, Nat.reduceBEq, Nat.reduceEqDiff, Nat.reduceLeDiff, Nat.reduceLT, Nat.reduceSub, ↓reduceIte, reduceCtorEq, Int.reduceToNat, KK]
 refine Ab _ (M8 2 s hs) ?_
 simp +contextual -dsimp only [↓SD, SU, Nat.reduceAdd, Nat.reduceBEq, Nat.reduceEqDiff, Nat.reduceLeDiff, Nat.reduceLT, Nat.reduceSub, ↓reduceIte, reduceCtorEq, Int.reduceToNat]

def JK (s : ByteArray) (k : Int) (p : Bool) : Bool :=
 if s = bs [116, 114, 117, 101] ∨ s = bs [102, 97, 108, 115, 101] ∨ s = bs [91, 93] then decide (k = 0)
 else if s = bs [58, 58] then decide (k = 1) && p
 else SN s && decide (k ≤ 1)
theorem Qo (k : Int) (p : Bool) : JK (bs [58, 58]) k p = (decide (k = 1) && p) := by
 unfold JK
 rw [if_neg (by decide), if_pos rfl]
theorem HO (s : ByteArray) (k : Int) (p : Bool) (hs : s.size ≤ 1099511627776) : Ap Tryz.prog 125 [.str s, .int .i64 k, .bool p] (.bool (JK s k p)) := by
 refine II.F rfl (by simp; exact ⟨Ac.str _, BL _, Ac.bool _⟩) (Ac.bool _) ?_
 simp +contextual -dsimp only [↓SD, SU, Nat.reduceAdd, Nat.reduceBEq, Nat.reduceEqDiff, Nat.reduceLeDiff, Nat.reduceLT, Nat.reduceSub, ↓reduceIte, reduceCtorEq, Int.reduceToNat, II]
 (repeat' (first | intro _ | refine And.intro ?_ ?_))
 all_goals first | (refine Ab _ (Ma s hs) ?_; simp +contextual -dsimp only [↓SD, SU, Nat.reduceAdd, Nat.reduceBEq, Nat.reduceEqDiff, Nat.reduceLeDiff, Nat.reduceLT, Nat.reduceSub, ↓reduceIte, reduceCtorEq, Int.reduceToNat, *]; (repeat' (first | intro _ | refine And.intro ?_ ?_))) | skip
 all_goals first | (simp [Qo, *]; done) | (simp [JK, *]; done)
theorem FA (s : ByteArray) (k : Int) (p : Bool) (hs : s.size ≤ 1099511627776) : Ap Tryz.prog 72 [.str s, .int .i64 k, .bool p] (.bool (JK s k p)) := by
 refine Iq.F rfl (by simp; exact ⟨Ac.str _, BL _, Ac.bool _⟩) (Ac.bool _) ?_
 simp +contextual -dsimp only [↓SD, SU, Nat.reduceAdd, Nat.reduceBEq, Nat.reduceEqDiff, Nat.reduceLeDiff, Nat.reduceLT, Nat.reduceSub, ↓reduceIte, reduceCtorEq, Int.reduceToNat, Iq]
 (repeat' (first | intro _ | refine And.intro ?_ ?_))
 all_goals first | (refine Ab _ (Lu s hs) ?_; simp +contextual -dsimp only [↓SD, SU, Nat.reduceAdd, Nat.reduceBEq, Nat.reduceEqDiff, Nat.reduceLeDiff, Nat.reduceLT, Nat.reduceSub, ↓reduceIte, reduceCtorEq, Int.reduceToNat, *]; (repeat' (first | intro _ | refine And.intro ?_ ?_))) | skip
 all_goals first | (simp [Qo, *]; done) | (simp [JK, *]; done)

theorem VS (l : List ByteArray) (s : ByteArray) (hl : l.length ≤ 1099511627776) : Ap Tryz.prog 130 [.sl (l.map av), .str s] (.int .i64 (indexOf l (fun x => decide (s = x)))) := by
 refine Ea.F rfl (by simp; exact ⟨Aq l, Ac.str _⟩) (Ac.int _ _) ?_
 simp +contextual -dsimp only [↓SD, SU, Nat.reduceAdd, Nat.reduceBEq, Nat.reduceEqDiff, Nat.reduceLeDiff, Nat.reduceLT, Nat.reduceSub, ↓reduceIte, reduceCtorEq, Int.reduceToNat, Ea, Aa]
 refine Al (X := Nat) (fun k => ⟨[(0, .sl (l.map av)), (1, .str s), (7, .int .i64 l.length), (8, .int .i64 k)], []⟩) (fun k => k ≤ l.length ∧ (l.take k).all (fun x => !decide (s = x)) = true) (fun k => l.length - k) 0 ⟨Nat.zero_le _, rfl⟩ (by simp +contextual -dsimp only [↓SD, SU, Nat.reduceAdd, Nat.reduceBEq, Nat.reduceEqDiff, Nat.reduceLeDiff, Nat.reduceLT, Nat.reduceSub, ↓reduceIte, reduceCtorEq, Int.reduceToNat]) trivial ?_
 intro k ⟨hk, hpk⟩
 by_cases hlt : k < l.length
 ·have e := getD_map (av (α := ByteArray)) l k .top hlt
  simp +contextual -dsimp only [↓SD, SU, Nat.reduceAdd, Nat.reduceBEq, Nat.reduceEqDiff, Nat.reduceLeDiff, Nat.reduceLT, Nat.reduceSub, ↓reduceIte, reduceCtorEq, Int.reduceToNat, Aa, e, B7, hlt]
  refine ⟨fun h1 => ?_, fun h1 => ⟨by omega, ?_⟩⟩
  ·rw [← h1, K7 (p := fun x => decide (s = x)) hlt hpk (by simp [h1])]
  ·exact Af.le ⟨k + 1, ⟨⟨hlt, by rw [A5 _ hlt hpk]; simp [h1]⟩, (by first | omega | (simp only; omega))⟩, rfl⟩ (by simp +contextual -dsimp only [↓SD, SU, Nat.reduceAdd, Nat.reduceBEq, Nat.reduceEqDiff, Nat.reduceLeDiff, Nat.reduceLT, Nat.reduceSub, ↓reduceIte, reduceCtorEq, Int.reduceToNat, Int.natCast_add]) trivial
 ·obtain rfl : k = l.length := by omega
  rw [List.take_length] at hpk
  simp +contextual -dsimp only [↓SD, SU, Nat.reduceAdd, Nat.reduceBEq, Nat.reduceEqDiff, Nat.reduceLeDiff, Nat.reduceLT, Nat.reduceSub, ↓reduceIte, reduceCtorEq, Int.reduceToNat, Aa, Nat.lt_irrefl, I4 hpk]
theorem Hj (l : List ByteArray) (s : ByteArray) (hl : l.length ≤ 1099511627776) : Ap Tryz.prog 94 [.sl (l.map av), .str s] (.bool (l.any (fun x => decide (s = x)))) := by
 refine DI.F rfl (by simp; exact ⟨Aq l, Ac.str _⟩) (Ac.bool _) ?_
 simp +contextual -dsimp only [↓SD, SU, Nat.reduceAdd, Nat.reduceBEq, Nat.reduceEqDiff, Nat.reduceLeDiff, Nat.reduceLT, Nat.reduceSub, ↓reduceIte, reduceCtorEq, Int.reduceToNat, DI]
 refine Ab _ (VS l s hl) ?_
 simp +contextual -dsimp only [↓SD, SU, Nat.reduceAdd, Nat.reduceBEq, Nat.reduceEqDiff, Nat.reduceLeDiff, Nat.reduceLT, Nat.reduceSub, ↓reduceIte, reduceCtorEq, Int.reduceToNat, Kk]

def kwL : List ByteArray := [bs [108, 101, 116], bs [114, 101, 99], bs [105, 110], bs [102, 117, 110], bs [105, 102], bs [116, 104, 101, 110], bs [101, 108, 115, 101], bs [109, 97, 116, 99, 104], bs [119, 105, 116, 104], bs [101, 110, 100], bs [116, 121, 112, 101], bs [111, 102], bs [114, 97, 105, 115, 101], bs [116, 114, 121], bs [114, 101, 102], bs [116, 114, 117, 101], bs [102, 97, 108, 115, 101]]
theorem Abg : kwL.map av = [.str (bs [108, 101, 116]), .str (bs [114, 101, 99]), .str (bs [105, 110]), .str (bs [102, 117, 110]), .str (bs [105, 102]), .str (bs [116, 104, 101, 110]), .str (bs [101, 108, 115, 101]), .str (bs [109, 97, 116, 99, 104]), .str (bs [119, 105, 116, 104]), .str (bs [101, 110, 100]), .str (bs [116, 121, 112, 101]), .str (bs [111, 102]), .str (bs [114, 97, 105, 115, 101]), .str (bs [116, 114, 121]), .str (bs [114, 101, 102]), .str (bs [116, 114, 117, 101]), .str (bs [102, 97, 108, 115, 101])] := rfl
def F0 (s : ByteArray) : Bool := Jd 1 s && !kwL.any (fun x => decide (s = x))
theorem Uo : Ap Tryz.prog 95 [] (.sl (kwL.map av)) := by
 refine IG.F rfl (by simp) (Aq kwL) ?_
 simp +contextual -dsimp only [↓SD, SU, Nat.reduceAdd, Nat.reduceBEq, Nat.reduceEqDiff, Nat.reduceLeDiff, Nat.reduceLT, Nat.reduceSub, ↓reduceIte, reduceCtorEq, Int.reduceToNat, IG, Abg]
theorem Fb (s : ByteArray) (hs : s.size ≤ 1099511627776) : Ap Tryz.prog 51 [.str s] (.bool (F0 s)) := by
 refine Kj.F rfl (by simp; exact Ac.str _) (Ac.bool _) ?_
 simp +contextual -dsimp only [↓SD, SU, Nat.reduceAdd, Nat.reduceBEq, Nat.reduceEqDiff, Nat.reduceLeDiff, Nat.reduceLT, Nat.reduceSub, ↓reduceIte, reduceCtorEq, Int.reduceToNat, Kj]
 refine Ab _ (Qf s hs) ?_
 simp +contextual -dsimp only [↓SD, SU, Nat.reduceAdd, Nat.reduceBEq, Nat.reduceEqDiff, Nat.reduceLeDiff, Nat.reduceLT, Nat.reduceSub, ↓reduceIte, reduceCtorEq, Int.reduceToNat]
 (repeat' (first | intro _ | refine And.intro ?_ ?_))
 ·omega
 ·rename_i h; simp only [Bool.and_eq_true, decide_eq_true_eq] at h; omega
 ·rename_i h
  refine Ab _ (OX _) ?_
  have e : decide (cls (D7 s 0).toNat = 1) = decide (97 ≤ ((D7 s 0).toNat : Int) ∧ ((D7 s 0).toNat : Int) ≤ 122) := by
   apply Bool.eq_iff_iff.2; simp only [decide_eq_true_eq]; unfold cls; (repeat' split) <;> omega
  simp +contextual -dsimp only [↓SD, SU, Nat.reduceAdd, Nat.reduceBEq, Nat.reduceEqDiff, Nat.reduceLeDiff, Nat.reduceLT, Nat.reduceSub, ↓reduceIte, reduceCtorEq, Int.reduceToNat, h]
  refine ⟨fun h2 => ?_, fun h2 => ?_⟩
  ·refine Ab _ Uo ?_
   simp +contextual -dsimp only [↓SD, SU, Nat.reduceAdd, Nat.reduceBEq, Nat.reduceEqDiff, Nat.reduceLeDiff, Nat.reduceLT, Nat.reduceSub, ↓reduceIte, reduceCtorEq, Int.reduceToNat, h2]
   refine Ab _ (Hj kwL s (by decide)) ?_
   simp +contextual -dsimp only [↓SD, SU, Nat.reduceAdd, Nat.reduceBEq, Nat.reduceEqDiff, Nat.reduceLeDiff, Nat.reduceLT, Nat.reduceSub, ↓reduceIte, reduceCtorEq, Int.reduceToNat, h2]
   unfold F0 Jd
   rw [h, e, decide_eq_true h2]; rfl
  ·unfold F0 Jd
   rw [h, e, decide_eq_false h2]; rfl
 ·rename_i h
  unfold F0 Jd; rw [h]; rfl
theorem Wz (s : ByteArray) : Ap Tryz.prog 68 [.str s] (.bool (kwL.any (fun x => decide (s = x)))) := by
 refine Jn.F rfl (by simp; exact Ac.str _) (Ac.bool _) ?_
 simp +contextual -dsimp only [↓SD, SU, Nat.reduceAdd, Nat.reduceBEq, Nat.reduceEqDiff, Nat.reduceLeDiff, Nat.reduceLT, Nat.reduceSub, ↓reduceIte, reduceCtorEq, Int.reduceToNat, Jn]
 refine Al (X := Nat) (fun k => ⟨[(0, .str s), (5, .sl (kwL.map av)), (6, .int .i64 kwL.length), (7, .int .i64 k)], []⟩) (fun k => k ≤ kwL.length ∧ (kwL.take k).all (fun x => !decide (s = x)) = true) (fun k => kwL.length - k) 0 ⟨Nat.zero_le _, rfl⟩ (by simp +contextual -dsimp only [↓SD, SU, Nat.reduceAdd, Nat.reduceBEq, Nat.reduceEqDiff, Nat.reduceLeDiff, Nat.reduceLT, Nat.reduceSub, ↓reduceIte, reduceCtorEq, Int.reduceToNat, Abg]; rfl) trivial ?_
 intro k ⟨hk, hpk⟩
 have hk17 : kwL.length = 17 := rfl
 by_cases hlt : k < kwL.length
 ·have e := getD_map (av (α := ByteArray)) kwL k .top hlt
  simp +contextual -dsimp only [↓SD, SU, Nat.reduceAdd, Nat.reduceBEq, Nat.reduceEqDiff, Nat.reduceLeDiff, Nat.reduceLT, Nat.reduceSub, ↓reduceIte, reduceCtorEq, Int.reduceToNat, Aa, e, B7, hlt]
  refine ⟨fun h1 => ?_, fun h1 => ⟨by omega, ?_⟩⟩
  ·rw [List.any_eq_true.2 ⟨kwL[k], List.getElem_mem hlt, by simp [h1]⟩]
  ·exact Af.le ⟨k + 1, ⟨⟨hlt, by rw [A5 _ hlt hpk]; simp [h1]⟩, (by first | omega | (simp only; omega))⟩, rfl⟩ (by simp +contextual -dsimp only [↓SD, SU, Nat.reduceAdd, Nat.reduceBEq, Nat.reduceEqDiff, Nat.reduceLeDiff, Nat.reduceLT, Nat.reduceSub, ↓reduceIte, reduceCtorEq, Int.reduceToNat, Int.natCast_add]) trivial
 ·obtain rfl : k = kwL.length := by omega
  rw [List.take_length] at hpk
  have : kwL.any (fun x => decide (s = x)) = false := by
   rw [List.any_eq_false]; intro x hx; simpa using List.all_eq_true.1 hpk x hx
  simp +contextual -dsimp only [↓SD, SU, Nat.reduceAdd, Nat.reduceBEq, Nat.reduceEqDiff, Nat.reduceLeDiff, Nat.reduceLT, Nat.reduceSub, ↓reduceIte, reduceCtorEq, Int.reduceToNat, Aa, Nat.lt_irrefl, this]
theorem AZ (s : ByteArray) (hs : s.size ≤ 1099511627776) : Ap Tryz.prog 36 [.str s] (.bool (F0 s)) := by
 refine J1.F rfl (by simp; exact Ac.str _) (Ac.bool _) ?_
 simp +contextual -dsimp only [↓SD, SU, Nat.reduceAdd, Nat.reduceBEq, Nat.reduceEqDiff, Nat.reduceLeDiff, Nat.reduceLT, Nat.reduceSub, ↓reduceIte, reduceCtorEq, Int.reduceToNat, J1]
 refine Ab _ (M8 1 s hs) ?_
 simp +contextual -dsimp only [↓SD, SU, Nat.reduceAdd, Nat.reduceBEq, Nat.reduceEqDiff, Nat.reduceLeDiff, Nat.reduceLT, Nat.reduceSub, ↓reduceIte, reduceCtorEq, Int.reduceToNat]
 refine ⟨fun h => ?_, fun h => ?_⟩
 ·refine Ab _ (Wz s) ?_
  simp +contextual -dsimp only [↓SD, SU, Nat.reduceAdd, Nat.reduceBEq, Nat.reduceEqDiff, Nat.reduceLeDiff, Nat.reduceLT, Nat.reduceSub, ↓reduceIte, reduceCtorEq, Int.reduceToNat, F0, h]
 ·simp [F0, h]

end Go.Proofs.YtjbcnilllfaipaaGreat
