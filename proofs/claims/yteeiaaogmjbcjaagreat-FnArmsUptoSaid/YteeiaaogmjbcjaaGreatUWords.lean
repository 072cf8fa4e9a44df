/-
 WORDS: names and constructors, by abstract texts. Conditions: none.
-/
import Derived.Test.YteeiaaogmjbcjaaGreatUJ09
set_option linter.unusedVariables false
set_option linter.unusedSimpArgs false
set_option maxRecDepth 100000
namespace Go.Proofs.YteeiaaogmjbcjaaGreat
open Go.RowKit Go.Proofs.YteeiaaogmjbcjaaGreat.Av Go.Proofs.YteeiaaogmjbcjaaGreat.Ml
open Go.Proofs.YteeiaaogmjbcjaaGreat.Av.AVal (av)

def cls (b : Int) : Int := if 97 ≤ b ∧ b ≤ 122 then 1 else if 65 ≤ b ∧ b ≤ 90 then 2 else if (48 ≤ b ∧ b ≤ 57) ∨ b = 95 then 3 else 0
theorem ND (b : Int) (h0 : 0 ≤ b) (h1 : b ≤ 255) : AJ Tryz.prog 120 [.int .u8 b] (.int .i64 (cls b)) := by
 refine GU.F rfl (by simp; exact pu8 _) (E2 _) ?_
 simp +contextual -dsimp only [↓SD, SU, Nat.reduceAdd, Nat.reduceBEq, Nat.reduceEqDiff, Nat.reduceLeDiff, Nat.reduceLT, Nat.reduceSub, ↓reduceIte, reduceCtorEq, Int.reduceToNat, GU]
 (repeat' (first | intro _ | refine And.intro ?_ ?_))
 all_goals first | omega | (congr 1; done) | (congr 1; unfold cls; (repeat' split) <;> omega)
theorem M8 (b : Int) : AJ Tryz.prog 121 [.int .u8 b] (.bool (decide (cls b = 2))) := by
 refine HO.F rfl (by simp; exact pu8 _) (Ap.bool _) ?_
 simp +contextual -dsimp only [↓SD, SU, Nat.reduceAdd, Nat.reduceBEq, Nat.reduceEqDiff, Nat.reduceLeDiff, Nat.reduceLT, Nat.reduceSub, ↓reduceIte, reduceCtorEq, Int.reduceToNat, HO]
 (repeat' (first | intro _ | refine And.intro ?_ ?_))
 all_goals first | omega | (congr 1; done) | (congr 1; apply Bool.eq_iff_iff.2; simp only [decide_eq_true_eq, Bool.false_eq_true, false_iff, true_iff]; unfold cls; (repeat' split) <;> omega)
theorem M9 (b : Int) : AJ Tryz.prog 118 [.int .u8 b] (.bool (decide (97 ≤ b ∧ b ≤ 122))) := by
 refine HP.F rfl (by simp; exact pu8 _) (Ap.bool _) ?_
 simp +contextual -dsimp only [↓SD, SU, Nat.reduceAdd, Nat.reduceBEq, Nat.reduceEqDiff, Nat.reduceLeDiff, Nat.reduceLT, Nat.reduceSub, ↓reduceIte, reduceCtorEq, Int.reduceToNat, HP]
 (repeat' (first | intro _ | refine And.intro ?_ ?_))
 all_goals first | omega | (congr 1; done) | (congr 1; apply Bool.eq_iff_iff.2; simp only [decide_eq_true_eq, Bool.false_eq_true, false_iff, true_iff]; omega)
theorem UX (b : Int) : AJ Tryz.prog 157 [.int .u8 b] (.bool (decide (48 ≤ b ∧ b ≤ 57))) := by
 refine HQ.F rfl (by simp; exact pu8 _) (Ap.bool _) ?_
 simp +contextual -dsimp only [↓SD, SU, Nat.reduceAdd, Nat.reduceBEq, Nat.reduceEqDiff, Nat.reduceLeDiff, Nat.reduceLT, Nat.reduceSub, ↓reduceIte, reduceCtorEq, Int.reduceToNat, HQ]
 (repeat' (first | intro _ | refine And.intro ?_ ?_))
 all_goals first | omega | (congr 1; done) | (congr 1; apply Bool.eq_iff_iff.2; simp only [decide_eq_true_eq, Bool.false_eq_true, false_iff, true_iff]; omega)
theorem Yd (b : Int) : AJ Tryz.prog 146 [.int .u8 b] (.bool (!decide (cls b = 0))) := by
 refine IJ.F rfl (by simp; exact pu8 _) (Ap.bool _) ?_
 simp +contextual -dsimp only [↓SD, SU, Nat.reduceAdd, Nat.reduceBEq, Nat.reduceEqDiff, Nat.reduceLeDiff, Nat.reduceLT, Nat.reduceSub, ↓reduceIte, reduceCtorEq, Int.reduceToNat, IJ]
 refine Ag _ (M9 b) ?_
 simp +contextual -dsimp only [↓SD, SU, Nat.reduceAdd, Nat.reduceBEq, Nat.reduceEqDiff, Nat.reduceLeDiff, Nat.reduceLT, Nat.reduceSub, ↓reduceIte, reduceCtorEq, Int.reduceToNat]
 refine ⟨fun h0 => ?_, fun h0 => ?_⟩
 ·refine Ag _ (M8 b) ?_
  simp +contextual -dsimp only [↓SD, SU, Nat.reduceAdd, Nat.reduceBEq, Nat.reduceEqDiff, Nat.reduceLeDiff, Nat.reduceLT, Nat.reduceSub, ↓reduceIte, reduceCtorEq, Int.reduceToNat, h0]
  refine ⟨fun h1 => ?_, fun h1 => ?_⟩
  ·refine Ag _ (UX b) ?_
   simp +contextual -dsimp only [↓SD, SU, Nat.reduceAdd, Nat.reduceBEq, Nat.reduceEqDiff, Nat.reduceLeDiff, Nat.reduceLT, Nat.reduceSub, ↓reduceIte, reduceCtorEq, Int.reduceToNat, h0, h1]
   (repeat' (first | intro _ | refine And.intro ?_ ?_))
   all_goals first
    | omega
    | (congr 1; apply Bool.eq_iff_iff.2; simp only [decide_eq_true_eq, Bool.not_eq_true', decide_eq_false_iff_not, true_iff, Bool.false_eq_true, false_iff, Decidable.not_not]; unfold cls at *; (repeat' split at *) <;> omega)
    | (congr 1; apply Bool.eq_iff_iff.2; simp only [decide_eq_true_eq, Bool.not_eq_true', decide_eq_false_iff_not, true_iff, Bool.false_eq_true, false_iff, Decidable.not_not]; unfold cls at *; (repeat' split) <;> omega)
  ·simp [h1]
 ·congr 1; apply Bool.eq_iff_iff.2; simp only [Bool.not_eq_true', decide_eq_false_iff_not, true_iff]; unfold cls; (repeat' split) <;> omega

def Vi (s : ByteArray) : Bool := (List.range s.size).all fun i => !decide (cls (AW s i).toNat = 0)
theorem Xs {s : ByteArray} {k : Nat} (hk : k < s.size) (h : cls (AW s k).toNat = 0) : Vi s = false := by
 unfold Vi; rw [List.all_eq_false]; exact ⟨k, List.mem_range.2 hk, by simp [h]⟩
theorem TH {s : ByteArray} (h : ∀ i, i < s.size → ¬ cls (AW s i).toNat = 0) : Vi s = true := by
 unfold Vi; rw [List.all_eq_true]; intro x hx; simp [h x (List.mem_range.1 hx)]
theorem Oq (s : ByteArray) (hs : s.size ≤ 1099511627776) : AJ Tryz.prog 117 [.str s] (.bool (Vi s && (decide (1 ≤ (s.size : Int)) && decide ((s.size : Int) ≤ 12)))) := by
 refine IG.F rfl (by simp; exact Ap.str _) (Ap.bool _) ?_
 simp +contextual -dsimp only [↓SD, SU, Nat.reduceAdd, Nat.reduceBEq, Nat.reduceEqDiff, Nat.reduceLeDiff, Nat.reduceLT, Nat.reduceSub, ↓reduceIte, reduceCtorEq, Int.reduceToNat, IG]
 refine AG (X := Nat) (fun k => ⟨[(0, .str s), (5, .int .i64 s.size), (6, .int .i64 k)], []⟩) (fun k => k ≤ s.size ∧ ∀ i, i < k → ¬ cls (AW s i).toNat = 0) (fun k => s.size - k) 0 ⟨Nat.zero_le _, fun i h => absurd h (by omega)⟩ (by simp +contextual -dsimp only [↓SD, SU, Nat.reduceAdd, Nat.reduceBEq, Nat.reduceEqDiff, Nat.reduceLeDiff, Nat.reduceLT, Nat.reduceSub, ↓reduceIte, reduceCtorEq, Int.reduceToNat]) trivial ?_
 intro k ⟨hk, hp⟩
 by_cases hlt : k < s.size
 ·simp +contextual -dsimp only [↓SD, SU, Nat.reduceAdd, Nat.reduceBEq, Nat.reduceEqDiff, Nat.reduceLeDiff, Nat.reduceLT, Nat.reduceSub, ↓reduceIte, reduceCtorEq, Int.reduceToNat, hlt]
  refine Ag _ (Yd _) ?_
  simp +contextual -dsimp only [↓SD, SU, Nat.reduceAdd, Nat.reduceBEq, Nat.reduceEqDiff, Nat.reduceLeDiff, Nat.reduceLT, Nat.reduceSub, ↓reduceIte, reduceCtorEq, Int.reduceToNat]
  refine ⟨fun h => by rw [Xs hlt h]; rfl, fun h => ⟨by omega, Ai.le ⟨k + 1, ⟨⟨hlt, fun i hi => ?_⟩, (by first | omega | (simp only; omega))⟩, rfl⟩ (by simp +contextual -dsimp only [↓SD, SU, Nat.reduceAdd, Nat.reduceBEq, Nat.reduceEqDiff, Nat.reduceLeDiff, Nat.reduceLT, Nat.reduceSub, ↓reduceIte, reduceCtorEq, Int.reduceToNat, Int.natCast_add]) trivial⟩⟩
  rcases Nat.lt_succ_iff_lt_or_eq.1 hi with hi | rfl
  ·exact hp i hi
  ·exact h
 ·obtain rfl : k = s.size := by omega
  simp +contextual -dsimp only [↓SD, SU, Nat.reduceAdd, Nat.reduceBEq, Nat.reduceEqDiff, Nat.reduceLeDiff, Nat.reduceLT, Nat.reduceSub, ↓reduceIte, reduceCtorEq, Int.reduceToNat, Nat.lt_irrefl]
  refine Ag _ (Ed _ _ _) ?_
  simp +contextual -dsimp only [↓SD, SU, Nat.reduceAdd, Nat.reduceBEq, Nat.reduceEqDiff, Nat.reduceLeDiff, Nat.reduceLT, Nat.reduceSub, ↓reduceIte, reduceCtorEq, Int.reduceToNat, TH hp]

def Gd (c : Int) (s : ByteArray) : Bool := (Vi s && (decide (1 ≤ (s.size : Int)) && decide ((s.size : Int) ≤ 12))) && decide (cls (AW s 0).toNat = c)
abbrev U6 (s : ByteArray) : Bool := Gd 2 s
theorem QC (s : ByteArray) (hs : s.size ≤ 1099511627776) : AJ Tryz.prog 99 [.str s] (.bool (U6 s)) := by
 refine Jx.F rfl (by simp; exact Ap.str _) (Ap.bool _) ?_
 simp +contextual -dsimp only [↓SD, SU, Nat.reduceAdd, Nat.reduceBEq, Nat.reduceEqDiff, Nat.reduceLeDiff, Nat.reduceLT, Nat.reduceSub, ↓reduceIte, reduceCtorEq, Int.reduceToNat, Jx]
 refine Ag _ (Oq s hs) ?_
 simp +contextual -dsimp only [↓SD, SU, Nat.reduceAdd, Nat.reduceBEq, Nat.reduceEqDiff, Nat.reduceLeDiff, Nat.reduceLT, Nat.reduceSub, ↓reduceIte, reduceCtorEq, Int.reduceToNat]
 (repeat' (first | intro _ | refine And.intro ?_ ?_))
 ·omega
 ·rename_i h; simp only [Bool.and_eq_true, decide_eq_true_eq] at h; omega
 ·rename_i h
  refine Ag _ (M8 _) ?_
  simp +contextual -dsimp only [↓SD, SU, Nat.reduceAdd, Nat.reduceBEq, Nat.reduceEqDiff, Nat.reduceLeDiff, Nat.reduceLT, Nat.reduceSub, ↓reduceIte, reduceCtorEq, Int.reduceToNat, h]
  unfold U6 Gd; rw [h, Bool.true_and]
 ·rename_i h
  unfold U6 Gd; rw [h]; rfl

theorem Mj {c : Int} {s : ByteArray} (h : s.size < 1 ∨ 12 < s.size ∨ ¬ cls (AW s 0).toNat = c) : Gd c s = false := by
 unfold Gd
 rcases h with h | h | h
 ·rw [decide_eq_false (p := 1 ≤ (s.size : Int)) (by omega)]; simp
 ·rw [decide_eq_false (p := (s.size : Int) ≤ 12) (by omega)]; simp
 ·rw [decide_eq_false h]; simp
theorem YM {c : Int} {s : ByteArray} (h1 : ¬ s.size < 1) (h2 : ¬ 12 < s.size) (h : cls (AW s 0).toNat = c) : Gd c s = Vi s := by
 unfold Gd
 rw [decide_eq_true h, decide_eq_true (p := 1 ≤ (s.size : Int)) (by omega), decide_eq_true (p := (s.size : Int) ≤ 12) (by omega)]; simp
theorem Lm (c : Int) (s : ByteArray) (hs : s.size ≤ 1099511627776) : AJ Tryz.prog 92 [.str s, .int .i64 c] (.bool (Gd c s)) := by
 refine HI.F rfl (by simp; exact ⟨Ap.str _, E2 _⟩) (Ap.bool _) ?_
 simp +contextual -dsimp only [↓SD, SU, Nat.reduceAdd, Nat.reduceBEq, Nat.reduceEqDiff, Nat.reduceLeDiff, Nat.reduceLT, Nat.reduceSub, ↓reduceIte, reduceCtorEq, Int.reduceToNat, HI]
 refine ⟨fun h1 => ⟨fun h2 => ⟨by omega, ?_⟩, fun h2 => by rw [Mj (by omega)]⟩, fun h1 => by rw [Mj (by omega)]⟩
 have hb := b8 s (Int.toNat 0)
 refine Ag _ (ND _ hb.1 hb.2) ?_
 simp +contextual -dsimp only [↓SD, SU, Nat.reduceAdd, Nat.reduceBEq, Nat.reduceEqDiff, Nat.reduceLeDiff, Nat.reduceLT, Nat.reduceSub, ↓reduceIte, reduceCtorEq, Int.reduceToNat, h1, h2]
 refine ⟨fun h => by rw [Mj (.inr (.inr h))], fun h => ?_⟩
 rw [YM (by omega) (by omega) h]
 refine AG (X := Nat) (fun k => ⟨[(0, .str s), (1, .int .i64 c), (5, .int .i64 k)], []⟩) (fun k => k ≤ s.size ∧ ∀ i, i < k → ¬ cls (AW s i).toNat = 0) (fun k => s.size - k) 0 ⟨Nat.zero_le _, fun i h => absurd h (by omega)⟩ (by simp +contextual -dsimp only [↓SD, SU, Nat.reduceAdd, Nat.reduceBEq, Nat.reduceEqDiff, Nat.reduceLeDiff, Nat.reduceLT, Nat.reduceSub, ↓reduceIte, reduceCtorEq, Int.reduceToNat]) trivial ?_
 intro k ⟨hk, hp⟩
 by_cases hlt : k < s.size
 ·simp +contextual -dsimp only [↓SD, SU, Nat.reduceAdd, Nat.reduceBEq, Nat.reduceEqDiff, Nat.reduceLeDiff, Nat.reduceLT, Nat.reduceSub, ↓reduceIte, reduceCtorEq, Int.reduceToNat, hlt]
  have hb := b8 s k
  refine Ag _ (ND _ hb.1 hb.2) ?_
  simp +contextual -dsimp only [↓SD, SU, Nat.reduceAdd, Nat.reduceBEq, Nat.reduceEqDiff, Nat.reduceLeDiff, Nat.reduceLT, Nat.reduceSub, ↓reduceIte, reduceCtorEq, Int.reduceToNat]
  refine ⟨fun h => by rw [Xs hlt h], fun h => ⟨by omega, Ai.le ⟨k + 1, ⟨⟨hlt, fun i hi => ?_⟩, (by first | omega | (simp only; omega))⟩, rfl⟩ (by simp +contextual -dsimp only [↓SD, SU, Nat.reduceAdd, Nat.reduceBEq, Nat.reduceEqDiff, Nat.reduceLeDiff, Nat.reduceLT, Nat.reduceSub, ↓reduceIte, reduceCtorEq, Int.reduceToNat, Int.natCast_add]) trivial⟩⟩
  rcases Nat.lt_succ_iff_lt_or_eq.1 hi with hi | rfl
  ·exact hp i hi
  ·exact h
 ·obtain rfl : k = s.size := by omega
  simp +contextual -dsimp only [↓SD, SU, Nat.reduceAdd, Nat.reduceBEq, Nat.reduceEqDiff, Nat.reduceLeDiff, Nat.reduceLT, Nat.reduceSub, ↓reduceIte, reduceCtorEq, Int.reduceToNat, Nat.lt_irrefl]
  rw [TH hp]
theorem J5 (s : ByteArray) (hs : s.size ≤ 1099511627776) : AJ Tryz.prog 91 [.str s] (.bool (U6 s)) := by
 refine Ju.F rfl (by simp; exact Ap.str _) (Ap.bool _) ?_
 simp +contextual -dsimp only [↓SD, SU, Nat.reduceAdd, Nat.reduceBEq, Nat.reduceEqDiff, Nat.reduceLeDiff, Nat.reduceLT, Nat.reduceSub, ↓reduceIte, reduceCtorEq, Int.reduceToNat, Ju]
 refine Ag _ (Lm 2 s hs) ?_
 simp +contextual -dsimp only [↓SD, SU, Nat.reduceAdd, Nat.reduceBEq, Nat.reduceEqDiff, Nat.reduceLeDiff, Nat.reduceLT, Nat.reduceSub, ↓reduceIte, reduceCtorEq, Int.reduceToNat]

def Em (s : ByteArray) (k : Int) (p : Bool) : Bool :=
 if s = bs [116, 114, 117, 101] ∨ s = bs [102, 97, 108, 115, 101] ∨ s = bs [91, 93] then decide (k = 0)
 else if s = bs [58, 58] then decide (k = 1) && p
 else U6 s && decide (k ≤ 1)
theorem OA (k : Int) (p : Bool) : Em (bs [58, 58]) k p = (decide (k = 1) && p) := by
 unfold Em
 rw [if_neg (by decide), if_pos rfl]
theorem E5 (s : ByteArray) (k : Int) (p : Bool) (hs : s.size ≤ 1099511627776) : AJ Tryz.prog 80 [.str s, .int .i64 k, .bool p] (.bool (Em s k p)) := by
 refine GX.F rfl (by simp; exact ⟨Ap.str _, E2 _, Ap.bool _⟩) (Ap.bool _) ?_
 simp +contextual -dsimp only [↓SD, SU, Nat.reduceAdd, Nat.reduceBEq, Nat.reduceEqDiff, Nat.reduceLeDiff, Nat.reduceLT, Nat.reduceSub, ↓reduceIte, reduceCtorEq, Int.reduceToNat, GX]
 (repeat' (first | intro _ | refine And.intro ?_ ?_))
 all_goals first | (refine Ag _ (QC s hs) ?_; simp +contextual -dsimp only [↓SD, SU, Nat.reduceAdd, Nat.reduceBEq, Nat.reduceEqDiff, Nat.reduceLeDiff, Nat.reduceLT, Nat.reduceSub, ↓reduceIte, reduceCtorEq, Int.reduceToNat, *]; (repeat' (first | intro _ | refine And.intro ?_ ?_))) | skip
 all_goals first | (simp [OA, *]; done) | (simp [Em, *]; done)
theorem Gh (s : ByteArray) (k : Int) (p : Bool) (hs : s.size ≤ 1099511627776) : AJ Tryz.prog 67 [.str s, .int .i64 k, .bool p] (.bool (Em s k p)) := by
 refine GO.F rfl (by simp; exact ⟨Ap.str _, E2 _, Ap.bool _⟩) (Ap.bool _) ?_
 simp +contextual -dsimp only [↓SD, SU, Nat.reduceAdd, Nat.reduceBEq, Nat.reduceEqDiff, Nat.reduceLeDiff, Nat.reduceLT, Nat.reduceSub, ↓reduceIte, reduceCtorEq, Int.reduceToNat, GO]
 (repeat' (first | intro _ | refine And.intro ?_ ?_))
 all_goals first | (refine Ag _ (J5 s hs) ?_; simp +contextual -dsimp only [↓SD, SU, Nat.reduceAdd, Nat.reduceBEq, Nat.reduceEqDiff, Nat.reduceLeDiff, Nat.reduceLT, Nat.reduceSub, ↓reduceIte, reduceCtorEq, Int.reduceToNat, *]; (repeat' (first | intro _ | refine And.intro ?_ ?_))) | skip
 all_goals first | (simp [OA, *]; done) | (simp [Em, *]; done)

theorem Ue (l : List ByteArray) (s : ByteArray) (hl : l.length ≤ 1099511627776) : AJ Tryz.prog 89 [.sl (l.map av), .str s] (.int .i64 (indexOf l (fun x => decide (s = x)))) := by
 refine Dg.F rfl (by simp; exact ⟨AD l, Ap.str _⟩) (Ap.int _ _) ?_
 simp +contextual -dsimp only [↓SD, SU, Nat.reduceAdd, Nat.reduceBEq, Nat.reduceEqDiff, Nat.reduceLeDiff, Nat.reduceLT, Nat.reduceSub, ↓reduceIte, reduceCtorEq, Int.reduceToNat, Dg, Aa]
 refine AG (X := Nat) (fun k => ⟨[(0, .sl (l.map av)), (1, .str s), (7, .int .i64 l.length), (8, .int .i64 k)], []⟩) (fun k => k ≤ l.length ∧ (l.take k).all (fun x => !decide (s = x)) = true) (fun k => l.length - k) 0 ⟨Nat.zero_le _, rfl⟩ (by simp +contextual -dsimp only [↓SD, SU, Nat.reduceAdd, Nat.reduceBEq, Nat.reduceEqDiff, Nat.reduceLeDiff, Nat.reduceLT, Nat.reduceSub, ↓reduceIte, reduceCtorEq, Int.reduceToNat]) trivial ?_
 intro k ⟨hk, hpk⟩
 by_cases hlt : k < l.length
 ·have e := getD_map (av (α := ByteArray)) l k .top hlt
  simp +contextual -dsimp only [↓SD, SU, Nat.reduceAdd, Nat.reduceBEq, Nat.reduceEqDiff, Nat.reduceLeDiff, Nat.reduceLT, Nat.reduceSub, ↓reduceIte, reduceCtorEq, Int.reduceToNat, Aa, e, EW, hlt]
  refine ⟨fun h1 => ?_, fun h1 => ⟨by omega, ?_⟩⟩
  ·rw [← h1, JM (p := fun x => decide (s = x)) hlt hpk (by simp [h1])]
  ·exact Ai.le ⟨k + 1, ⟨⟨hlt, by rw [Jf _ hlt hpk]; simp [h1]⟩, (by first | omega | (simp only; omega))⟩, rfl⟩ (by simp +contextual -dsimp only [↓SD, SU, Nat.reduceAdd, Nat.reduceBEq, Nat.reduceEqDiff, Nat.reduceLeDiff, Nat.reduceLT, Nat.reduceSub, ↓reduceIte, reduceCtorEq, Int.reduceToNat, Int.natCast_add]) trivial
 ·obtain rfl : k = l.length := by omega
  rw [List.take_length] at hpk
  simp +contextual -dsimp only [↓SD, SU, Nat.reduceAdd, Nat.reduceBEq, Nat.reduceEqDiff, Nat.reduceLeDiff, Nat.reduceLT, Nat.reduceSub, ↓reduceIte, reduceCtorEq, Int.reduceToNat, Aa, Nat.lt_irrefl, Hi hpk]
theorem I0 (l : List ByteArray) (s : ByteArray) (hl : l.length ≤ 1099511627776) : AJ Tryz.prog 60 [.sl (l.map av), .str s] (.bool (l.any (fun x => decide (s = x)))) := by
 refine CF.F rfl (by simp; exact ⟨AD l, Ap.str _⟩) (Ap.bool _) ?_
 simp +contextual -dsimp only [↓SD, SU, Nat.reduceAdd, Nat.reduceBEq, Nat.reduceEqDiff, Nat.reduceLeDiff, Nat.reduceLT, Nat.reduceSub, ↓reduceIte, reduceCtorEq, Int.reduceToNat, CF]
 refine Ag _ (Ue l s hl) ?_
 simp +contextual -dsimp only [↓SD, SU, Nat.reduceAdd, Nat.reduceBEq, Nat.reduceEqDiff, Nat.reduceLeDiff, Nat.reduceLT, Nat.reduceSub, ↓reduceIte, reduceCtorEq, Int.reduceToNat, IM]

def kwL : List ByteArray := [bs [108, 101, 116], bs [114, 101, 99], bs [105, 110], bs [102, 117, 110], bs [105, 102], bs [116, 104, 101, 110], bs [101, 108, 115, 101], bs [109, 97, 116, 99, 104], bs [119, 105, 116, 104], bs [101, 110, 100], bs [116, 121, 112, 101], bs [111, 102], bs [114, 97, 105, 115, 101], bs [116, 114, 121], bs [114, 101, 102], bs [116, 114, 117, 101], bs [102, 97, 108, 115, 101]]
theorem ZQ : kwL.map av = [.str (bs [108, 101, 116]), .str (bs [114, 101, 99]), .str (bs [105, 110]), .str (bs [102, 117, 110]), .str (bs [105, 102]), .str (bs [116, 104, 101, 110]), .str (bs [101, 108, 115, 101]), .str (bs [109, 97, 116, 99, 104]), .str (bs [119, 105, 116, 104]), .str (bs [101, 110, 100]), .str (bs [116, 121, 112, 101]), .str (bs [111, 102]), .str (bs [114, 97, 105, 115, 101]), .str (bs [116, 114, 121]), .str (bs [114, 101, 102]), .str (bs [116, 114, 117, 101]), .str (bs [102, 97, 108, 115, 101])] := rfl
def Il (s : ByteArray) : Bool := Gd 1 s && !kwL.any (fun x => decide (s = x))
theorem SA : AJ Tryz.prog 119 [] (.sl (kwL.map av)) := by
 refine GW.F rfl (by simp) (AD kwL) ?_
 simp +contextual -dsimp only [↓SD, SU, Nat.reduceAdd, Nat.reduceBEq, Nat.reduceEqDiff, Nat.reduceLeDiff, Nat.reduceLT, Nat.reduceSub, ↓reduceIte, reduceCtorEq, Int.reduceToNat, GW, ZQ]
theorem Jy (s : ByteArray) (hs : s.size ≤ 1099511627776) : AJ Tryz.prog 88 [.str s] (.bool (Il s)) := by
 refine IK.F rfl (by simp; exact Ap.str _) (Ap.bool _) ?_
 simp +contextual -dsimp only [↓SD, SU, Nat.reduceAdd, Nat.reduceBEq, Nat.reduceEqDiff, Nat.reduceLeDiff, Nat.reduceLT, Nat.reduceSub, ↓reduceIte, reduceCtorEq, Int.reduceToNat, IK]
 refine Ag _ (Oq s hs) ?_
 simp +contextual -dsimp only [↓SD, SU, Nat.reduceAdd, Nat.reduceBEq, Nat.reduceEqDiff, Nat.reduceLeDiff, Nat.reduceLT, Nat.reduceSub, ↓reduceIte, reduceCtorEq, Int.reduceToNat]
 (repeat' (first | intro _ | refine And.intro ?_ ?_))
 ·omega
 ·rename_i h; simp only [Bool.and_eq_true, decide_eq_true_eq] at h; omega
 ·rename_i h
  refine Ag _ (M9 _) ?_
  have e : decide (cls (AW s 0).toNat = 1) = decide (97 ≤ ((AW s 0).toNat : Int) ∧ ((AW s 0).toNat : Int) ≤ 122) := by
   apply Bool.eq_iff_iff.2; simp only [decide_eq_true_eq]; unfold cls; (repeat' split) <;> omega
  simp +contextual -dsimp only [↓SD, SU, Nat.reduceAdd, Nat.reduceBEq, Nat.reduceEqDiff, Nat.reduceLeDiff, Nat.reduceLT, Nat.reduceSub, ↓reduceIte, reduceCtorEq, Int.reduceToNat, h]
  refine ⟨fun h2 => ?_, fun h2 => ?_⟩
  ·refine Ag _ SA ?_
   simp +contextual -dsimp only [↓SD, SU, Nat.reduceAdd, Nat.reduceBEq, Nat.reduceEqDiff, Nat.reduceLeDiff, Nat.reduceLT, Nat.reduceSub, ↓reduceIte, reduceCtorEq, Int.reduceToNat, h2]
   refine Ag _ (I0 kwL s (by decide)) ?_
   simp +contextual -dsimp only [↓SD, SU, Nat.reduceAdd, Nat.reduceBEq, Nat.reduceEqDiff, Nat.reduceLeDiff, Nat.reduceLT, Nat.reduceSub, ↓reduceIte, reduceCtorEq, Int.reduceToNat, h2]
   unfold Il Gd
   rw [h, e, decide_eq_true h2]; rfl
  ·unfold Il Gd
   rw [h, e, decide_eq_false h2]; rfl
 ·rename_i h
  unfold Il Gd; rw [h]; rfl
theorem M5 (s : ByteArray) : AJ Tryz.prog 93 [.str s] (.bool (kwL.any (fun x => decide (s = x)))) := by
 refine HK.F rfl (by simp; exact Ap.str _) (Ap.bool _) ?_
 simp +contextual -dsimp only [↓SD, SU, Nat.reduceAdd, Nat.reduceBEq, Nat.reduceEqDiff, Nat.reduceLeDiff, Nat.reduceLT, Nat.reduceSub, ↓reduceIte, reduceCtorEq, Int.reduceToNat, HK]
 refine AG (X := Nat) (fun k => ⟨[(0, .str s), (5, .sl (kwL.map av)), (6, .int .i64 kwL.length), (7, .int .i64 k)], []⟩) (fun k => k ≤ kwL.length ∧ (kwL.take k).all (fun x => !decide (s = x)) = true) (fun k => kwL.length - k) 0 ⟨Nat.zero_le _, rfl⟩ (by simp +contextual -dsimp only [↓SD, SU, Nat.reduceAdd, Nat.reduceBEq, Nat.reduceEqDiff, Nat.reduceLeDiff, Nat.reduceLT, Nat.reduceSub, ↓reduceIte, reduceCtorEq, Int.reduceToNat, ZQ]; rfl) trivial ?_
 intro k ⟨hk, hpk⟩
 have hk17 : kwL.length = 17 := rfl
 by_cases hlt : k < kwL.length
 ·have e := getD_map (av (α := ByteArray)) kwL k .top hlt
  simp +contextual -dsimp only [↓SD, SU, Nat.reduceAdd, Nat.reduceBEq, Nat.reduceEqDiff, Nat.reduceLeDiff, Nat.reduceLT, Nat.reduceSub, ↓reduceIte, reduceCtorEq, Int.reduceToNat, Aa, e, EW, hlt]
  refine ⟨fun h1 => ?_, fun h1 => ⟨by omega, ?_⟩⟩
  ·rw [List.any_eq_true.2 ⟨kwL[k], List.getElem_mem hlt, by simp [h1]⟩]
  ·exact Ai.le ⟨k + 1, ⟨⟨hlt, by rw [Jf _ hlt hpk]; simp [h1]⟩, (by first | omega | (simp only; omega))⟩, rfl⟩ (by simp +contextual -dsimp only [↓SD, SU, Nat.reduceAdd, Nat.reduceBEq, Nat.reduceEqDiff, Nat.reduceLeDiff, Nat.reduceLT, Nat.reduceSub, ↓reduceIte, reduceCtorEq, Int.reduceToNat, Int.natCast_add]) trivial
 ·obtain rfl : k = kwL.length := by omega
  rw [List.take_length] at hpk
  have : kwL.any (fun x => decide (s = x)) = false := by
   rw [List.any_eq_false]; intro x hx; simpa using List.all_eq_true.1 hpk x hx
  simp +contextual -dsimp only [↓SD, SU, Nat.reduceAdd, Nat.reduceBEq, Nat.reduceEqDiff, Nat.reduceLeDiff, Nat.reduceLT, Nat.reduceSub, ↓reduceIte, reduceCtorEq, Int.reduceToNat, Aa, Nat.lt_irrefl, this]
theorem DX (s : ByteArray) (hs : s.size ≤ 1099511627776) : AJ Tryz.prog 70 [.str s] (.bool (Il s)) := by
 refine IB.F rfl (by simp; exact Ap.str _) (Ap.bool _) ?_
 simp +contextual -dsimp only [↓SD, SU, Nat.reduceAdd, Nat.reduceBEq, Nat.reduceEqDiff, Nat.reduceLeDiff, Nat.reduceLT, Nat.reduceSub, ↓reduceIte, reduceCtorEq, Int.reduceToNat, IB]
 refine Ag _ (Lm 1 s hs) ?_
 simp +contextual -dsimp only [↓SD, SU, Nat.reduceAdd, Nat.reduceBEq, Nat.reduceEqDiff, Nat.reduceLeDiff, Nat.reduceLT, Nat.reduceSub, ↓reduceIte, reduceCtorEq, Int.reduceToNat]
 refine ⟨fun h => ?_, fun h => ?_⟩
 ·refine Ag _ (M5 s) ?_
  simp +contextual -dsimp only [↓SD, SU, Nat.reduceAdd, Nat.reduceBEq, Nat.reduceEqDiff, Nat.reduceLeDiff, Nat.reduceLT, Nat.reduceSub, ↓reduceIte, reduceCtorEq, Int.reduceToNat, Il, h]
 ·simp [Il, h]

end Go.Proofs.YteeiaaogmjbcjaaGreat
