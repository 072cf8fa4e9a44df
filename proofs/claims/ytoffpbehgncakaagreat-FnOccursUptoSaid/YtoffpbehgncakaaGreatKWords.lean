/-
 WORDS: names and constructors, by abstract texts. Conditions: none.
-/
import Derived.Test.YtoffpbehgncakaaGreatKJ11
set_option linter.unusedVariables false
set_option linter.unusedSimpArgs false
set_option maxRecDepth 100000
namespace Go.Proofs.YtoffpbehgncakaaGreat
open Go.RowKit Go.Proofs.YtoffpbehgncakaaGreat.Av Go.Proofs.YtoffpbehgncakaaGreat.Ml
open Go.Proofs.YtoffpbehgncakaaGreat.Av.AVal (av)

def cls (b : Int) : Int := if 97 ≤ b ∧ b ≤ 122 then 1 else if 65 ≤ b ∧ b ≤ 90 then 2 else if (48 ≤ b ∧ b ≤ 57) ∨ b = 95 then 3 else 0
theorem ND (b : Int) (h0 : 0 ≤ b) (h1 : b ≤ 255) : AH Tryz.prog 130 [.int .u8 b] (.int .i64 (cls b)) := by
 refine GZ.F rfl (by simp; exact pu8 _) (Cr _) ?_
 simp +contextual -dsimp only [↓SD, SU, Nat.reduceAdd, Nat.reduceBEq, Nat.reduceEqDiff, Nat.reduceLeDiff, Nat.reduceLT, Nat.reduceSub, ↓reduceIte, reduceCtorEq, Int.reduceToNat, GZ]
 (repeat' (first | intro _ | refine And.intro ?_ ?_))
 all_goals first | omega | (congr 1; done) | (congr 1; unfold cls; (repeat' split) <;> omega)
theorem M6 (b : Int) : AH Tryz.prog 160 [.int .u8 b] (.bool (decide (cls b = 2))) := by
 refine HT.F rfl (by simp; exact pu8 _) (Ap.bool _) ?_
 simp +contextual -dsimp only [↓SD, SU, Nat.reduceAdd, Nat.reduceBEq, Nat.reduceEqDiff, Nat.reduceLeDiff, Nat.reduceLT, Nat.reduceSub, ↓reduceIte, reduceCtorEq, Int.reduceToNat, HT]
 (repeat' (first | intro _ | refine And.intro ?_ ?_))
 all_goals first | omega | (congr 1; done) | (congr 1; apply Bool.eq_iff_iff.2; simp only [decide_eq_true_eq, Bool.false_eq_true, false_iff, true_iff]; unfold cls; (repeat' split) <;> omega)
theorem M7 (b : Int) : AH Tryz.prog 70 [.int .u8 b] (.bool (decide (97 ≤ b ∧ b ≤ 122))) := by
 refine HU.F rfl (by simp; exact pu8 _) (Ap.bool _) ?_
 simp +contextual -dsimp only [↓SD, SU, Nat.reduceAdd, Nat.reduceBEq, Nat.reduceEqDiff, Nat.reduceLeDiff, Nat.reduceLT, Nat.reduceSub, ↓reduceIte, reduceCtorEq, Int.reduceToNat, HU]
 (repeat' (first | intro _ | refine And.intro ?_ ?_))
 all_goals first | omega | (congr 1; done) | (congr 1; apply Bool.eq_iff_iff.2; simp only [decide_eq_true_eq, Bool.false_eq_true, false_iff, true_iff]; omega)
theorem U6 (b : Int) : AH Tryz.prog 162 [.int .u8 b] (.bool (decide (48 ≤ b ∧ b ≤ 57))) := by
 refine HV.F rfl (by simp; exact pu8 _) (Ap.bool _) ?_
 simp +contextual -dsimp only [↓SD, SU, Nat.reduceAdd, Nat.reduceBEq, Nat.reduceEqDiff, Nat.reduceLeDiff, Nat.reduceLT, Nat.reduceSub, ↓reduceIte, reduceCtorEq, Int.reduceToNat, HV]
 (repeat' (first | intro _ | refine And.intro ?_ ?_))
 all_goals first | omega | (congr 1; done) | (congr 1; apply Bool.eq_iff_iff.2; simp only [decide_eq_true_eq, Bool.false_eq_true, false_iff, true_iff]; omega)
theorem Yg (b : Int) : AH Tryz.prog 115 [.int .u8 b] (.bool (!decide (cls b = 0))) := by
 refine IP.F rfl (by simp; exact pu8 _) (Ap.bool _) ?_
 simp +contextual -dsimp only [↓SD, SU, Nat.reduceAdd, Nat.reduceBEq, Nat.reduceEqDiff, Nat.reduceLeDiff, Nat.reduceLT, Nat.reduceSub, ↓reduceIte, reduceCtorEq, Int.reduceToNat, IP]
 refine Ac _ (M7 b) ?_
 simp +contextual -dsimp only [↓SD, SU, Nat.reduceAdd, Nat.reduceBEq, Nat.reduceEqDiff, Nat.reduceLeDiff, Nat.reduceLT, Nat.reduceSub, ↓reduceIte, reduceCtorEq, Int.reduceToNat]
 refine ⟨fun h0 => ?_, fun h0 => ?_⟩
 ·refine Ac _ (M6 b) ?_
  simp +contextual -dsimp only [↓SD, SU, Nat.reduceAdd, Nat.reduceBEq, Nat.reduceEqDiff, Nat.reduceLeDiff, Nat.reduceLT, Nat.reduceSub, ↓reduceIte, reduceCtorEq, Int.reduceToNat, h0]
  refine ⟨fun h1 => ?_, fun h1 => ?_⟩
  ·refine Ac _ (U6 b) ?_
   simp +contextual -dsimp only [↓SD, SU, Nat.reduceAdd, Nat.reduceBEq, Nat.reduceEqDiff, Nat.reduceLeDiff, Nat.reduceLT, Nat.reduceSub, ↓reduceIte, reduceCtorEq, Int.reduceToNat, h0, h1]
   (repeat' (first | intro _ | refine And.intro ?_ ?_))
   all_goals first
    | omega
    | (congr 1; apply Bool.eq_iff_iff.2; simp only [decide_eq_true_eq, Bool.not_eq_true', decide_eq_false_iff_not, true_iff, Bool.false_eq_true, false_iff, Decidable.not_not]; unfold cls at *; (repeat' split at *) <;> omega)
    | (congr 1; apply Bool.eq_iff_iff.2; simp only [decide_eq_true_eq, Bool.not_eq_true', decide_eq_false_iff_not, true_iff, Bool.false_eq_true, false_iff, Decidable.not_not]; unfold cls at *; (repeat' split) <;> omega)
  ·simp [h1]
 ·congr 1; apply Bool.eq_iff_iff.2; simp only [Bool.not_eq_true', decide_eq_false_iff_not, true_iff]; unfold cls; (repeat' split) <;> omega

def Vk (s : ByteArray) : Bool := (List.range s.size).all fun i => !decide (cls (A4 s i).toNat = 0)
theorem Xs {s : ByteArray} {k : Nat} (hk : k < s.size) (h : cls (A4 s k).toNat = 0) : Vk s = false := by
 unfold Vk; rw [List.all_eq_false]; exact ⟨k, List.mem_range.2 hk, by simp [h]⟩
theorem TQ {s : ByteArray} (h : ∀ i, i < s.size → ¬ cls (A4 s i).toNat = 0) : Vk s = true := by
 unfold Vk; rw [List.all_eq_true]; intro x hx; simp [h x (List.mem_range.1 hx)]
theorem Oz (s : ByteArray) (hs : s.size ≤ 1099511627776) : AH Tryz.prog 69 [.str s] (.bool (Vk s && (decide (1 ≤ (s.size : Int)) && decide ((s.size : Int) ≤ 12)))) := by
 refine IK.F rfl (by simp; exact Ap.str _) (Ap.bool _) ?_
 simp +contextual -dsimp only [↓SD, SU, Nat.reduceAdd, Nat.reduceBEq, Nat.reduceEqDiff, Nat.reduceLeDiff, Nat.reduceLT, Nat.reduceSub, ↓reduceIte, reduceCtorEq, Int.reduceToNat, IK]
 refine AB (X := Nat) (fun k => ⟨[(0, .str s), (5, .int .i64 s.size), (6, .int .i64 k)], []⟩) (fun k => k ≤ s.size ∧ ∀ i, i < k → ¬ cls (A4 s i).toNat = 0) (fun k => s.size - k) 0 ⟨Nat.zero_le _, fun i h => absurd h (by omega)⟩ (by simp +contextual -dsimp only [↓SD, SU, Nat.reduceAdd, Nat.reduceBEq, Nat.reduceEqDiff, Nat.reduceLeDiff, Nat.reduceLT, Nat.reduceSub, ↓reduceIte, reduceCtorEq, Int.reduceToNat]) trivial ?_
 intro k ⟨hk, hp⟩
 by_cases hlt : k < s.size
 ·simp +contextual -dsimp only [↓SD, SU, Nat.reduceAdd, Nat.reduceBEq, Nat.reduceEqDiff, Nat.reduceLeDiff, Nat.reduceLT, Nat.reduceSub, ↓reduceIte, reduceCtorEq, Int.reduceToNat, hlt]
  refine Ac _ (Yg _) ?_
  simp +contextual -dsimp only [↓SD, SU, Nat.reduceAdd, Nat.reduceBEq, Nat.reduceEqDiff, Nat.reduceLeDiff, Nat.reduceLT, Nat.reduceSub, ↓reduceIte, reduceCtorEq, Int.reduceToNat]
  refine ⟨fun h => by rw [Xs hlt h]; rfl, fun h => ⟨by omega, Ai.le ⟨k + 1, ⟨⟨hlt, fun i hi => ?_⟩, (by first | omega | (simp only; omega))⟩, rfl⟩ (by simp +contextual -dsimp only [↓SD, SU, Nat.reduceAdd, Nat.reduceBEq, Nat.reduceEqDiff, Nat.reduceLeDiff, Nat.reduceLT, Nat.reduceSub, ↓reduceIte, reduceCtorEq, Int.reduceToNat, Int.natCast_add]) trivial⟩⟩
  rcases Nat.lt_succ_iff_lt_or_eq.1 hi with hi | rfl
  ·exact hp i hi
  ·exact h
 ·obtain rfl : k = s.size := by omega
  simp +contextual -dsimp only [↓SD, SU, Nat.reduceAdd, Nat.reduceBEq, Nat.reduceEqDiff, Nat.reduceLeDiff, Nat.reduceLT, Nat.reduceSub, ↓reduceIte, reduceCtorEq, Int.reduceToNat, Nat.lt_irrefl]
  refine Ac _ (Dn _ _ _) ?_
  simp +contextual -dsimp only [↓SD, SU, Nat.reduceAdd, Nat.reduceBEq, Nat.reduceEqDiff, Nat.reduceLeDiff, Nat.reduceLT, Nat.reduceSub, ↓reduceIte, reduceCtorEq, Int.reduceToNat, TQ hp]

def Hs (c : Int) (s : ByteArray) : Bool := (Vk s && (decide (1 ≤ (s.size : Int)) && decide ((s.size : Int) ≤ 12))) && decide (cls (A4 s 0).toNat = c)
abbrev NC (s : ByteArray) : Bool := Hs 2 s
theorem KB (s : ByteArray) (hs : s.size ≤ 1099511627776) : AH Tryz.prog 113 [.str s] (.bool (NC s)) := by
 refine JA.F rfl (by simp; exact Ap.str _) (Ap.bool _) ?_
 simp +contextual -dsimp only [↓SD, SU, Nat.reduceAdd, Nat.reduceBEq, Nat.reduceEqDiff, Nat.reduceLeDiff, Nat.reduceLT, Nat.reduceSub, ↓reduceIte, reduceCtorEq, Int.reduceToNat, JA]
 refine Ac _ (Oz s hs) ?_
 simp +contextual -dsimp only [↓SD, SU, Nat.reduceAdd, Nat.reduceBEq, Nat.reduceEqDiff, Nat.reduceLeDiff, Nat.reduceLT, Nat.reduceSub, ↓reduceIte, reduceCtorEq, Int.reduceToNat]
 (repeat' (first | intro _ | refine And.intro ?_ ?_))
 ·omega
 ·rename_i h; simp only [Bool.and_eq_true, decide_eq_true_eq] at h; omega
 ·rename_i h
  refine Ac _ (M6 _) ?_
  simp +contextual -dsimp only [↓SD, SU, Nat.reduceAdd, Nat.reduceBEq, Nat.reduceEqDiff, Nat.reduceLeDiff, Nat.reduceLT, Nat.reduceSub, ↓reduceIte, reduceCtorEq, Int.reduceToNat, h]
  unfold NC Hs; rw [h, Bool.true_and]
 ·rename_i h
  unfold NC Hs; rw [h]; rfl

theorem Mi {c : Int} {s : ByteArray} (h : s.size < 1 ∨ 12 < s.size ∨ ¬ cls (A4 s 0).toNat = c) : Hs c s = false := by
 unfold Hs
 rcases h with h | h | h
 ·rw [decide_eq_false (p := 1 ≤ (s.size : Int)) (by omega)]; simp
 ·rw [decide_eq_false (p := (s.size : Int) ≤ 12) (by omega)]; simp
 ·rw [decide_eq_false h]; simp
theorem YA {c : Int} {s : ByteArray} (h1 : ¬ s.size < 1) (h2 : ¬ 12 < s.size) (h : cls (A4 s 0).toNat = c) : Hs c s = Vk s := by
 unfold Hs
 rw [decide_eq_true h, decide_eq_true (p := 1 ≤ (s.size : Int)) (by omega), decide_eq_true (p := (s.size : Int) ≤ 12) (by omega)]; simp
theorem Ls (c : Int) (s : ByteArray) (hs : s.size ≤ 1099511627776) : AH Tryz.prog 98 [.str s, .int .i64 c] (.bool (Hs c s)) := by
 refine HM.F rfl (by simp; exact ⟨Ap.str _, Cr _⟩) (Ap.bool _) ?_
 simp +contextual -dsimp only [↓SD, SU, Nat.reduceAdd, Nat.reduceBEq, Nat.reduceEqDiff, Nat.reduceLeDiff, Nat.reduceLT, Nat.reduceSub, ↓reduceIte, reduceCtorEq, Int.reduceToNat, HM]
 refine ⟨fun h1 => ⟨fun h2 => ⟨by omega, ?_⟩, fun h2 => by rw [Mi (by omega)]⟩, fun h1 => by rw [Mi (by omega)]⟩
 have hb := b8 s (Int.toNat 0)
 refine Ac _ (ND _ hb.1 hb.2) ?_
 simp +contextual -dsimp only [↓SD, SU, Nat.reduceAdd, Nat.reduceBEq, Nat.reduceEqDiff, Nat.reduceLeDiff, Nat.reduceLT, Nat.reduceSub, ↓reduceIte, reduceCtorEq, Int.reduceToNat, h1, h2]
 refine ⟨fun h => by rw [Mi (.inr (.inr h))], fun h => ?_⟩
 rw [YA (by omega) (by omega) h]
 refine AB (X := Nat) (fun k => ⟨[(0, .str s), (1, .int .i64 c), (5, .int .i64 k)], []⟩) (fun k => k ≤ s.size ∧ ∀ i, i < k → ¬ cls (A4 s i).toNat = 0) (fun k => s.size - k) 0 ⟨Nat.zero_le _, fun i h => absurd h (by omega)⟩ (by simp +contextual -dsimp only [↓SD, SU, Nat.reduceAdd, Nat.reduceBEq, Nat.reduceEqDiff, Nat.reduceLeDiff, Nat.reduceLT, Nat.reduceSub, ↓reduceIte, reduceCtorEq, Int.reduceToNat]) trivial ?_
 intro k ⟨hk, hp⟩
 by_cases hlt : k < s.size
 ·simp +contextual -dsimp only [↓SD, SU, Nat.reduceAdd, Nat.reduceBEq, Nat.reduceEqDiff, Nat.reduceLeDiff, Nat.reduceLT, Nat.reduceSub, ↓reduceIte, reduceCtorEq, Int.reduceToNat, hlt]
  have hb := b8 s k
  refine Ac _ (ND _ hb.1 hb.2) ?_
  simp +contextual -dsimp only [↓SD, SU, Nat.reduceAdd, Nat.reduceBEq, Nat.reduceEqDiff, Nat.reduceLeDiff, Nat.reduceLT, Nat.reduceSub, ↓reduceIte, reduceCtorEq, Int.reduceToNat]
  refine ⟨fun h => by rw [Xs hlt h], fun h => ⟨by omega, Ai.le ⟨k + 1, ⟨⟨hlt, fun i hi => ?_⟩, (by first | omega | (simp only; omega))⟩, rfl⟩ (by simp +contextual -dsimp only [↓SD, SU, Nat.reduceAdd, Nat.reduceBEq, Nat.reduceEqDiff, Nat.reduceLeDiff, Nat.reduceLT, Nat.reduceSub, ↓reduceIte, reduceCtorEq, Int.reduceToNat, Int.natCast_add]) trivial⟩⟩
  rcases Nat.lt_succ_iff_lt_or_eq.1 hi with hi | rfl
  ·exact hp i hi
  ·exact h
 ·obtain rfl : k = s.size := by omega
  simp +contextual -dsimp only [↓SD, SU, Nat.reduceAdd, Nat.reduceBEq, Nat.reduceEqDiff, Nat.reduceLeDiff, Nat.reduceLT, Nat.reduceSub, ↓reduceIte, reduceCtorEq, Int.reduceToNat, Nat.lt_irrefl]
  rw [TQ hp]
theorem Hf (s : ByteArray) (hs : s.size ≤ 1099511627776) : AH Tryz.prog 100 [.str s] (.bool (NC s)) := by
 refine Jx.F rfl (by simp; exact Ap.str _) (Ap.bool _) ?_
 simp +contextual -dsimp only [↓SD, SU, Nat.reduceAdd, Nat.reduceBEq, Nat.reduceEqDiff, Nat.reduceLeDiff, Nat.reduceLT, Nat.reduceSub, ↓reduceIte, reduceCtorEq, Int.reduceToNat, Jx]
 refine Ac _ (Ls 2 s hs) ?_
 simp +contextual -dsimp only [↓SD, SU, Nat.reduceAdd, Nat.reduceBEq, Nat.reduceEqDiff, Nat.reduceLeDiff, Nat.reduceLT, Nat.reduceSub, ↓reduceIte, reduceCtorEq, Int.reduceToNat]

def Ik (s : ByteArray) (k : Int) (p : Bool) : Bool :=
 if s = bs [116, 114, 117, 101] ∨ s = bs [102, 97, 108, 115, 101] ∨ s = bs [91, 93] then decide (k = 0)
 else if s = bs [58, 58] then decide (k = 1) && p
 else NC s && decide (k ≤ 1)
theorem OJ (k : Int) (p : Bool) : Ik (bs [58, 58]) k p = (decide (k = 1) && p) := by
 unfold Ik
 rw [if_neg (by decide), if_pos rfl]
theorem Gp (s : ByteArray) (k : Int) (p : Bool) (hs : s.size ≤ 1099511627776) : AH Tryz.prog 111 [.str s, .int .i64 k, .bool p] (.bool (Ik s k p)) := by
 refine G4.F rfl (by simp; exact ⟨Ap.str _, Cr _, Ap.bool _⟩) (Ap.bool _) ?_
 simp +contextual -dsimp only [↓SD, SU, Nat.reduceAdd, Nat.reduceBEq, Nat.reduceEqDiff, Nat.reduceLeDiff, Nat.reduceLT, Nat.reduceSub, ↓reduceIte, reduceCtorEq, Int.reduceToNat, G4]
 (repeat' (first | intro _ | refine And.intro ?_ ?_))
 all_goals first | (refine Ac _ (KB s hs) ?_; simp +contextual -dsimp only [↓SD, SU, Nat.reduceAdd, Nat.reduceBEq, Nat.reduceEqDiff, Nat.reduceLeDiff, Nat.reduceLT, Nat.reduceSub, ↓reduceIte, reduceCtorEq, Int.reduceToNat, *]; (repeat' (first | intro _ | refine And.intro ?_ ?_))) | skip
 all_goals first | (simp [OJ, *]; done) | (simp [Ik, *]; done)
theorem Ei (s : ByteArray) (k : Int) (p : Bool) (hs : s.size ≤ 1099511627776) : AH Tryz.prog 103 [.str s, .int .i64 k, .bool p] (.bool (Ik s k p)) := by
 refine GV.F rfl (by simp; exact ⟨Ap.str _, Cr _, Ap.bool _⟩) (Ap.bool _) ?_
 simp +contextual -dsimp only [↓SD, SU, Nat.reduceAdd, Nat.reduceBEq, Nat.reduceEqDiff, Nat.reduceLeDiff, Nat.reduceLT, Nat.reduceSub, ↓reduceIte, reduceCtorEq, Int.reduceToNat, GV]
 (repeat' (first | intro _ | refine And.intro ?_ ?_))
 all_goals first | (refine Ac _ (Hf s hs) ?_; simp +contextual -dsimp only [↓SD, SU, Nat.reduceAdd, Nat.reduceBEq, Nat.reduceEqDiff, Nat.reduceLeDiff, Nat.reduceLT, Nat.reduceSub, ↓reduceIte, reduceCtorEq, Int.reduceToNat, *]; (repeat' (first | intro _ | refine And.intro ?_ ?_))) | skip
 all_goals first | (simp [OJ, *]; done) | (simp [Ik, *]; done)

theorem Uj (l : List ByteArray) (s : ByteArray) (hl : l.length ≤ 1099511627776) : AH Tryz.prog 54 [.sl (l.map av), .str s] (.int .i64 (indexOf l (fun x => decide (s = x)))) := by
 refine Dg.F rfl (by simp; exact ⟨AQ l, Ap.str _⟩) (Ap.int _ _) ?_
 simp +contextual -dsimp only [↓SD, SU, Nat.reduceAdd, Nat.reduceBEq, Nat.reduceEqDiff, Nat.reduceLeDiff, Nat.reduceLT, Nat.reduceSub, ↓reduceIte, reduceCtorEq, Int.reduceToNat, Dg, Aa]
 refine AB (X := Nat) (fun k => ⟨[(0, .sl (l.map av)), (1, .str s), (7, .int .i64 l.length), (8, .int .i64 k)], []⟩) (fun k => k ≤ l.length ∧ (l.take k).all (fun x => !decide (s = x)) = true) (fun k => l.length - k) 0 ⟨Nat.zero_le _, rfl⟩ (by simp +contextual -dsimp only [↓SD, SU, Nat.reduceAdd, Nat.reduceBEq, Nat.reduceEqDiff, Nat.reduceLeDiff, Nat.reduceLT, Nat.reduceSub, ↓reduceIte, reduceCtorEq, Int.reduceToNat]) trivial ?_
 intro k ⟨hk, hpk⟩
 by_cases hlt : k < l.length
 ·have e := getD_map (av (α := ByteArray)) l k .top hlt
  simp +contextual -dsimp only [↓SD, SU, Nat.reduceAdd, Nat.reduceBEq, Nat.reduceEqDiff, Nat.reduceLeDiff, Nat.reduceLT, Nat.reduceSub, ↓reduceIte, reduceCtorEq, Int.reduceToNat, Aa, e, Ec, hlt]
  refine ⟨fun h1 => ?_, fun h1 => ⟨by omega, ?_⟩⟩
  ·rw [← h1, JT (p := fun x => decide (s = x)) hlt hpk (by simp [h1])]
  ·exact Ai.le ⟨k + 1, ⟨⟨hlt, by rw [A5 _ hlt hpk]; simp [h1]⟩, (by first | omega | (simp only; omega))⟩, rfl⟩ (by simp +contextual -dsimp only [↓SD, SU, Nat.reduceAdd, Nat.reduceBEq, Nat.reduceEqDiff, Nat.reduceLeDiff, Nat.reduceLT, Nat.reduceSub, ↓reduceIte, reduceCtorEq, Int.reduceToNat, Int.natCast_add]) trivial
 ·obtain rfl : k = l.length := by omega
  rw [List.take_length] at hpk
  simp +contextual -dsimp only [↓SD, SU, Nat.reduceAdd, Nat.reduceBEq, Nat.reduceEqDiff, Nat.reduceLeDiff, Nat.reduceLT, Nat.reduceSub, ↓reduceIte, reduceCtorEq, Int.reduceToNat, Aa, Nat.lt_irrefl, Hm hpk]
theorem EH (l : List ByteArray) (s : ByteArray) (hl : l.length ≤ 1099511627776) : AH Tryz.prog 27 [.sl (l.map av), .str s] (.bool (l.any (fun x => decide (s = x)))) := by
 refine CR.F rfl (by simp; exact ⟨AQ l, Ap.str _⟩) (Ap.bool _) ?_
 simp +contextual -dsimp only [↓SD, SU, Nat.reduceAdd, Nat.reduceBEq, Nat.reduceEqDiff, Nat.reduceLeDiff, Nat.reduceLT, Nat.reduceSub, ↓reduceIte, reduceCtorEq, Int.reduceToNat, CR]
 refine Ac _ (Uj l s hl) ?_
 simp +contextual -dsimp only [↓SD, SU, Nat.reduceAdd, Nat.reduceBEq, Nat.reduceEqDiff, Nat.reduceLeDiff, Nat.reduceLT, Nat.reduceSub, ↓reduceIte, reduceCtorEq, Int.reduceToNat, IW]

def kwL : List ByteArray := [bs [108, 101, 116], bs [114, 101, 99], bs [105, 110], bs [102, 117, 110], bs [105, 102], bs [116, 104, 101, 110], bs [101, 108, 115, 101], bs [109, 97, 116, 99, 104], bs [119, 105, 116, 104], bs [101, 110, 100], bs [116, 121, 112, 101], bs [111, 102], bs [114, 97, 105, 115, 101], bs [116, 114, 121], bs [114, 101, 102], bs [116, 114, 117, 101], bs [102, 97, 108, 115, 101]]
theorem Zx : kwL.map av = [.str (bs [108, 101, 116]), .str (bs [114, 101, 99]), .str (bs [105, 110]), .str (bs [102, 117, 110]), .str (bs [105, 102]), .str (bs [116, 104, 101, 110]), .str (bs [101, 108, 115, 101]), .str (bs [109, 97, 116, 99, 104]), .str (bs [119, 105, 116, 104]), .str (bs [101, 110, 100]), .str (bs [116, 121, 112, 101]), .str (bs [111, 102]), .str (bs [114, 97, 105, 115, 101]), .str (bs [116, 114, 121]), .str (bs [114, 101, 102]), .str (bs [116, 114, 117, 101]), .str (bs [102, 97, 108, 115, 101])] := rfl
def Eu (s : ByteArray) : Bool := Hs 1 s && !kwL.any (fun x => decide (s = x))
theorem SH : AH Tryz.prog 71 [] (.sl (kwL.map av)) := by
 refine G2.F rfl (by simp) (AQ kwL) ?_
 simp +contextual -dsimp only [↓SD, SU, Nat.reduceAdd, Nat.reduceBEq, Nat.reduceEqDiff, Nat.reduceLeDiff, Nat.reduceLT, Nat.reduceSub, ↓reduceIte, reduceCtorEq, Int.reduceToNat, G2, Zx]
theorem DW (s : ByteArray) (hs : s.size ≤ 1099511627776) : AH Tryz.prog 34 [.str s] (.bool (Eu s)) := by
 refine IU.F rfl (by simp; exact Ap.str _) (Ap.bool _) ?_
 simp +contextual -dsimp only [↓SD, SU, Nat.reduceAdd, Nat.reduceBEq, Nat.reduceEqDiff, Nat.reduceLeDiff, Nat.reduceLT, Nat.reduceSub, ↓reduceIte, reduceCtorEq, Int.reduceToNat, IU]
 refine Ac _ (Oz s hs) ?_
 simp +contextual -dsimp only [↓SD, SU, Nat.reduceAdd, Nat.reduceBEq, Nat.reduceEqDiff, Nat.reduceLeDiff, Nat.reduceLT, Nat.reduceSub, ↓reduceIte, reduceCtorEq, Int.reduceToNat]
 (repeat' (first | intro _ | refine And.intro ?_ ?_))
 ·omega
 ·rename_i h; simp only [Bool.and_eq_true, decide_eq_true_eq] at h; omega
 ·rename_i h
  refine Ac _ (M7 _) ?_
  have e : decide (cls (A4 s 0).toNat = 1) = decide (97 ≤ ((A4 s 0).toNat : Int) ∧ ((A4 s 0).toNat : Int) ≤ 122) := by
   apply Bool.eq_iff_iff.2; simp only [decide_eq_true_eq]; unfold cls; (repeat' split) <;> omega
  simp +contextual -dsimp only [↓SD, SU, Nat.reduceAdd, Nat.reduceBEq, Nat.reduceEqDiff, Nat.reduceLeDiff, Nat.reduceLT, Nat.reduceSub, ↓reduceIte, reduceCtorEq, Int.reduceToNat, h]
  refine ⟨fun h2 => ?_, fun h2 => ?_⟩
  ·refine Ac _ SH ?_
   simp +contextual -dsimp only [↓SD, SU, Nat.reduceAdd, Nat.reduceBEq, Nat.reduceEqDiff, Nat.reduceLeDiff, Nat.reduceLT, Nat.reduceSub, ↓reduceIte, reduceCtorEq, Int.reduceToNat, h2]
   refine Ac _ (EH kwL s (by decide)) ?_
   simp +contextual -dsimp only [↓SD, SU, Nat.reduceAdd, Nat.reduceBEq, Nat.reduceEqDiff, Nat.reduceLeDiff, Nat.reduceLT, Nat.reduceSub, ↓reduceIte, reduceCtorEq, Int.reduceToNat, h2]
   unfold Eu Hs
   rw [h, e, decide_eq_true h2]; rfl
  ·unfold Eu Hs
   rw [h, e, decide_eq_false h2]; rfl
 ·rename_i h
  unfold Eu Hs; rw [h]; rfl
theorem M0 (s : ByteArray) : AH Tryz.prog 99 [.str s] (.bool (kwL.any (fun x => decide (s = x)))) := by
 refine HO.F rfl (by simp; exact Ap.str _) (Ap.bool _) ?_
 simp +contextual -dsimp only [↓SD, SU, Nat.reduceAdd, Nat.reduceBEq, Nat.reduceEqDiff, Nat.reduceLeDiff, Nat.reduceLT, Nat.reduceSub, ↓reduceIte, reduceCtorEq, Int.reduceToNat, HO]
 refine AB (X := Nat) (fun k => ⟨[(0, .str s), (5, .sl (kwL.map av)), (6, .int .i64 kwL.length), (7, .int .i64 k)], []⟩) (fun k => k ≤ kwL.length ∧ (kwL.take k).all (fun x => !decide (s = x)) = true) (fun k => kwL.length - k) 0 ⟨Nat.zero_le _, rfl⟩ (by simp +contextual -dsimp only [↓SD, SU, Nat.reduceAdd, Nat.reduceBEq, Nat.reduceEqDiff, Nat.reduceLeDiff, Nat.reduceLT, Nat.reduceSub, ↓reduceIte, reduceCtorEq, Int.reduceToNat, Zx]; rfl) trivial ?_
 intro k ⟨hk, hpk⟩
 have hk17 : kwL.length = 17 := rfl
 by_cases hlt : k < kwL.length
 ·have e := getD_map (av (α := ByteArray)) kwL k .top hlt
  simp +contextual -dsimp only [↓SD, SU, Nat.reduceAdd, Nat.reduceBEq, Nat.reduceEqDiff, Nat.reduceLeDiff, Nat.reduceLT, Nat.reduceSub, ↓reduceIte, reduceCtorEq, Int.reduceToNat, Aa, e, Ec, hlt]
  refine ⟨fun h1 => ?_, fun h1 => ⟨by omega, ?_⟩⟩
  ·rw [List.any_eq_true.2 ⟨kwL[k], List.getElem_mem hlt, by simp [h1]⟩]
  ·exact Ai.le ⟨k + 1, ⟨⟨hlt, by rw [A5 _ hlt hpk]; simp [h1]⟩, (by first | omega | (simp only; omega))⟩, rfl⟩ (by simp +contextual -dsimp only [↓SD, SU, Nat.reduceAdd, Nat.reduceBEq, Nat.reduceEqDiff, Nat.reduceLeDiff, Nat.reduceLT, Nat.reduceSub, ↓reduceIte, reduceCtorEq, Int.reduceToNat, Int.natCast_add]) trivial
 ·obtain rfl : k = kwL.length := by omega
  rw [List.take_length] at hpk
  have : kwL.any (fun x => decide (s = x)) = false := by
   rw [List.any_eq_false]; intro x hx; simpa using List.all_eq_true.1 hpk x hx
  simp +contextual -dsimp only [↓SD, SU, Nat.reduceAdd, Nat.reduceBEq, Nat.reduceEqDiff, Nat.reduceLeDiff, Nat.reduceLT, Nat.reduceSub, ↓reduceIte, reduceCtorEq, Int.reduceToNat, Aa, Nat.lt_irrefl, this]
theorem AZ (s : ByteArray) (hs : s.size ≤ 1099511627776) : AH Tryz.prog 56 [.str s] (.bool (Eu s)) := by
 refine II.F rfl (by simp; exact Ap.str _) (Ap.bool _) ?_
 simp +contextual -dsimp only [↓SD, SU, Nat.reduceAdd, Nat.reduceBEq, Nat.reduceEqDiff, Nat.reduceLeDiff, Nat.reduceLT, Nat.reduceSub, ↓reduceIte, reduceCtorEq, Int.reduceToNat, II]
 refine Ac _ (Ls 1 s hs) ?_
 simp +contextual -dsimp only [↓SD, SU, Nat.reduceAdd, Nat.reduceBEq, Nat.reduceEqDiff, Nat.reduceLeDiff, Nat.reduceLT, Nat.reduceSub, ↓reduceIte, reduceCtorEq, Int.reduceToNat]
 refine ⟨fun h => ?_, fun h => ?_⟩
 ·refine Ac _ (M0 s) ?_
  simp +contextual -dsimp only [↓SD, SU, Nat.reduceAdd, Nat.reduceBEq, Nat.reduceEqDiff, Nat.reduceLeDiff, Nat.reduceLT, Nat.reduceSub, ↓reduceIte, reduceCtorEq, Int.reduceToNat, Eu, h]
 ·simp [Eu, h]

end Go.Proofs.YtoffpbehgncakaaGreat
