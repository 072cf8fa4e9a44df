/-
 WORDS: names and constructors, by abstract texts. Conditions: none.
-/
import Derived.Test.YteeiaaogmjbcjaaGreatUJ09
set_option linter.unusedVariables false
set_option linter.unusedSimpArgs false
set_option maxRecDepth 100000
namespace Go.Proofs.YteeiaaogmjbcjaaGreat
open Go.RowKit Go.Proofs.YteeiaaogmjbcjaaGreat.Av Go.Proofs.YteeiaaogmjbcjaaGreat.Ml
open Go.Proofs.YteeiaaogmjbcjaaGreat.Av.AVal (av)

def cls (b : Int) : Int := if 97 ≤ b ∧ b ≤ 122 then 1 else if 65 ≤ b ∧ b ≤ 90 then 2 else if (48 ≤ b ∧ b ≤ 57) ∨ b = 95 then 3 else 0
theorem NA (b : Int) (h0 : 0 ≤ b) (h1 : b ≤ 255) : AJ Tryz.prog 120 [.int .u8 b] (.int .i64 (cls b)) := by
 refine GP.F rfl (by simp; exact pu8 _) (E0 _) ?_
 simp +contextual -dsimp only [↓SD, SU, Nat.reduceAdd, Nat.reduceBEq, Nat.reduceEqDiff, Nat.reduceLeDiff, Nat.reduceLT, Nat.reduceSub, ↓reduceIte, reduceCtorEq, Int.reduceToNat, GP]
 (repeat' (first | intro _ | refine And.intro ?_ ?_))
 all_goals first | omega | (congr 1; done) | (congr 1; unfold cls; (repeat' split) <;> omega)
theorem M4 (b : Int) : AJ Tryz.prog 121 [.int .u8 b] (.bool (decide (cls b = 2))) := by
 refine HK.F rfl (by simp; exact pu8 _) (Ap.bool _) ?_
 simp +contextual -dsimp only [↓SD, SU, Nat.reduceAdd, Nat.reduceBEq, Nat.reduceEqDiff, Nat.reduceLeDiff, Nat.reduceLT, Nat.reduceSub, ↓reduceIte, reduceCtorEq, Int.reduceToNat, HK]
 (repeat' (first | intro _ | refine And.intro ?_ ?_))
 all_goals first | omega | (congr 1; done) | (congr 1; apply Bool.eq_iff_iff.2; simp only [decide_eq_true_eq, Bool.false_eq_true, false_iff, true_iff]; unfold cls; (repeat' split) <;> omega)
theorem M5 (b : Int) : AJ Tryz.prog 118 [.int .u8 b] (.bool (decide (97 ≤ b ∧ b ≤ 122))) := by
 refine HL.F rfl (by simp; exact pu8 _) (Ap.bool _) ?_
 simp +contextual -dsimp only [↓SD, SU, Nat.reduceAdd, Nat.reduceBEq, Nat.reduceEqDiff, Nat.reduceLeDiff, Nat.reduceLT, Nat.reduceSub, ↓reduceIte, reduceCtorEq, Int.reduceToNat, HL]
 (repeat' (first | intro _ | refine And.intro ?_ ?_))
 all_goals first | omega | (congr 1; done) | (congr 1; apply Bool.eq_iff_iff.2; simp only [decide_eq_true_eq, Bool.false_eq_true, false_iff, true_iff]; omega)
theorem UU (b : Int) : AJ Tryz.prog 157 [.int .u8 b] (.bool (decide (48 ≤ b ∧ b ≤ 57))) := by
 refine HM.F rfl (by simp; exact pu8 _) (Ap.bool _) ?_
 simp +contextual -dsimp only [↓SD, SU, Nat.reduceAdd, Nat.reduceBEq, Nat.reduceEqDiff, Nat.reduceLeDiff, Nat.reduceLT, Nat.reduceSub, ↓reduceIte, reduceCtorEq, Int.reduceToNat, HM]
 (repeat' (first | intro _ | refine And.intro ?_ ?_))
 all_goals first | omega | (congr 1; done) | (congr 1; apply Bool.eq_iff_iff.2; simp only [decide_eq_true_eq, Bool.false_eq_true, false_iff, true_iff]; omega)
theorem Yb (b : Int) : AJ Tryz.prog 146 [.int .u8 b] (.bool (!decide (cls b = 0))) := by
 refine IE.F rfl (by simp; exact pu8 _) (Ap.bool _) ?_
 simp +contextual -dsimp only [↓SD, SU, Nat.reduceAdd, Nat.reduceBEq, Nat.reduceEqDiff, Nat.reduceLeDiff, Nat.reduceLT, Nat.reduceSub, ↓reduceIte, reduceCtorEq, Int.reduceToNat, IE]
 refine Ag _ (M5 b) ?_
 simp +contextual -dsimp only [↓SD, SU, Nat.reduceAdd, Nat.reduceBEq, Nat.reduceEqDiff, Nat.reduceLeDiff, Nat.reduceLT, Nat.reduceSub, ↓reduceIte, reduceCtorEq, Int.reduceToNat]
 refine ⟨fun h0 => ?_, fun h0 => ?_⟩
 ·refine Ag _ (M4 b) ?_
  simp +contextual -dsimp only [↓SD, SU, Nat.reduceAdd, Nat.reduceBEq, Nat.reduceEqDiff, Nat.reduceLeDiff, Nat.reduceLT, Nat.reduceSub, ↓reduceIte, reduceCtorEq, Int.reduceToNat, h0]
  refine ⟨fun h1 => ?_, fun h1 => ?_⟩
  ·refine Ag _ (UU b) ?_
   simp +contextual -dsimp only [↓SD, SU, Nat.reduceAdd, Nat.reduceBEq, Nat.reduceEqDiff, Nat.reduceLeDiff, Nat.reduceLT, Nat.reduceSub, ↓reduceIte, reduceCtorEq, Int.reduceToNat, h0, h1]
   (repeat' (first | intro _ | refine And.intro ?_ ?_))
   all_goals first
    | omega
    | (congr 1; apply Bool.eq_iff_iff.2; simp only [decide_eq_true_eq, Bool.not_eq_true', decide_eq_false_iff_not, true_iff, Bool.false_eq_true, false_iff, Decidable.not_not]; unfold cls at *; (repeat' split at *) <;> omega)
    | (congr 1; apply Bool.eq_iff_iff.2; simp only [decide_eq_true_eq, Bool.not_eq_true', decide_eq_false_iff_not, true_iff, Bool.false_eq_true, false_iff, Decidable.not_not]; unfold cls at *; (repeat' split) <;> omega)
  ·simp [h1]
 ·congr 1; apply Bool.eq_iff_iff.2; simp only [Bool.not_eq_true', decide_eq_false_iff_not, true_iff]; unfold cls; (repeat' split) <;> omega

def Vg (s : ByteArray) : Bool := (List.range s.size).all fun i => !decide (cls (AW s i).toNat = 0)
theorem Xq {s : ByteArray} {k : Nat} (hk : k < s.size) (h : cls (AW s k).toNat = 0) : Vg s = false := by
 unfold Vg; rw [List.all_eq_false]; exact ⟨k, List.mem_range.2 hk, by simp [h]⟩
theorem TF {s : ByteArray} (h : ∀ i, i < s.size → ¬ cls (AW s i).toNat = 0) : Vg s = true := by
 unfold Vg; rw [List.all_eq_true]; intro x hx; simp [h x (List.mem_range.1 hx)]
theorem On (s : ByteArray) (hs : s.size ≤ 1099511627776) : AJ Tryz.prog 117 [.str s] (.bool (Vg s && (decide (1 ≤ (s.size : Int)) && decide ((s.size : Int) ≤ 12)))) := by
 refine IC.F rfl (by simp; exact Ap.str _) (Ap.bool _) ?_
 simp +contextual -dsimp only [↓SD, SU, Nat.reduceAdd, Nat.reduceBEq, Nat.reduceEqDiff, Nat.reduceLeDiff, Nat.reduceLT, Nat.reduceSub, ↓reduceIte, reduceCtorEq, Int.reduceToNat, IC]
 refine AG (X := Nat) (fun k => ⟨[(0, .str s), (5, .int .i64 s.size), (6, .int .i64 k)], []⟩) (fun k => k ≤ s.size ∧ ∀ i, i < k → ¬ cls (AW s i).toNat = 0) (fun k => s.size - k) 0 ⟨Nat.zero_le _, fun i h => absurd h (by omega)⟩ (by simp +contextual -dsimp only [↓SD, SU, Nat.reduceAdd, Nat.reduceBEq, Nat.reduceEqDiff, Nat.reduceLeDiff, Nat.reduceLT, Nat.reduceSub, ↓reduceIte, reduceCtorEq, Int.reduceToNat]) trivial ?_
 intro k ⟨hk, hp⟩
 by_cases hlt : k < s.size
 ·simp +contextual -dsimp only [↓SD, SU, Nat.reduceAdd, Nat.reduceBEq, Nat.reduceEqDiff, Nat.reduceLeDiff, Nat.reduceLT, Nat.reduceSub, ↓reduceIte, reduceCtorEq, Int.reduceToNat, hlt]
  refine Ag _ (Yb _) ?_
  simp +contextual -dsimp only [↓SD, SU, Nat.reduceAdd, Nat.reduceBEq, Nat.reduceEqDiff, Nat.reduceLeDiff, Nat.reduceLT, Nat.reduceSub, ↓reduceIte, reduceCtorEq, Int.reduceToNat]
  refine ⟨fun h => by rw [Xq hlt h]; rfl, fun h => ⟨by omega, Ai.le ⟨k + 1, ⟨⟨hlt, fun i hi => ?_⟩, (by first | omega | (simp only; omega))⟩, rfl⟩ (by simp +contextual -dsimp only [↓SD, SU, Nat.reduceAdd, Nat.reduceBEq, Nat.reduceEqDiff, Nat.reduceLeDiff, Nat.reduceLT, Nat.reduceSub, ↓reduceIte, reduceCtorEq, Int.reduceToNat, Int.natCast_add]) trivial⟩⟩
  rcases Nat.lt_succ_iff_lt_or_eq.1 hi with hi | rfl
  ·exact hp i hi
  ·exact h
 ·obtain rfl : k = s.size := by omega
  simp +contextual -dsimp only [↓SD, SU, Nat.reduceAdd, Nat.reduceBEq, Nat.reduceEqDiff, Nat.reduceLeDiff, Nat.reduceLT, Nat.reduceSub, ↓reduceIte, reduceCtorEq, Int.reduceToNat, Nat.lt_irrefl]
  refine Ag _ (Ec _ _ _) ?_
  simp +contextual -dsimp only [↓SD, SU, Nat.reduceAdd, Nat.reduceBEq, Nat.reduceEqDiff, Nat.reduceLeDiff, Nat.reduceLT, Nat.reduceSub, ↓reduceIte, reduceCtorEq, Int.reduceToNat, TF hp]

def Ga (c : Int) (s : ByteArray) : Bool := (Vg s && (decide (1 ≤ (s.size : Int)) && decide ((s.size : Int) ≤ 12))) && decide (cls (AW s 0).toNat = c)
abbrev U4 (s : ByteArray) : Bool := Ga 2 s
theorem Qz (s : ByteArray) (hs : s.size ≤ 1099511627776) : AJ Tryz.prog 99 [.str s] (.bool (U4 s)) := by
 refine Jt.F rfl (by simp; exact Ap.str _) (Ap.bool _) ?_
 simp +contextual -dsimp only [↓SD, SU, Nat.reduceAdd, Nat.reduceBEq, Nat.reduceEqDiff, Nat.reduceLeDiff, Nat.reduceLT, Nat.reduceSub, ↓reduceIte, reduceCtorEq, Int.reduceToNat, Jt]
 refine Ag _ (On s hs) ?_
 simp +contextual -dsimp only [↓SD, SU, Nat.reduceAdd, Nat.reduceBEq, Nat.reduceEqDiff, Nat.reduceLeDiff, Nat.reduceLT, Nat.reduceSub, ↓reduceIte, reduceCtorEq, Int.reduceToNat]
 (repeat' (first | intro _ | refine And.intro ?_ ?_))
 ·omega
 ·rename_i h; simp only [Bool.and_eq_true, decide_eq_true_eq] at h; omega
 ·rename_i h
  refine Ag _ (M4 _) ?_
  simp +contextual -dsimp only [↓SD, SU, Nat.reduceAdd, Nat.reduceBEq, Nat.reduceEqDiff, Nat.reduceLeDiff, Nat.reduceLT, Nat.reduceSub, ↓reduceIte, reduceCtorEq, Int.reduceToNat, h]
  unfold U4 Ga; rw [h, Bool.true_and]
 ·rename_i h
  unfold U4 Ga; rw [h]; rfl

theorem Mf {c : Int} {s : ByteArray} (h : s.size < 1 ∨ 12 < s.size ∨ ¬ cls (AW s 0).toNat = c) : Ga c s = false := by
 unfold Ga
 rcases h with h | h | h
 ·rw [decide_eq_false (p := 1 ≤ (s.size : Int)) (by omega)]; simp
 ·rw [decide_eq_false (p := (s.size : Int) ≤ 12) (by omega)]; simp
 ·rw [decide_eq_false h]; simp
theorem YK {c : Int} {s : ByteArray} (h1 : ¬ s.size < 1) (h2 : ¬ 12 < s.size) (h : cls (AW s 0).toNat = c) : Ga c s = Vg s := by
 unfold Ga
 rw [decide_eq_true h, decide_eq_true (p := 1 ≤ (s.size : Int)) (by omega), decide_eq_true (p := (s.size : Int) ≤ 12) (by omega)]; simp
theorem Li (c : Int) (s : ByteArray) (hs : s.size ≤ 1099511627776) : AJ Tryz.prog 92 [.str s, .int .i64 c] (.bool (Ga c s)) := by
 refine HE.F rfl (by simp; exact ⟨Ap.str _, E0 _⟩) (Ap.bool _) ?_
 simp +contextual -dsimp only [↓SD, SU, Nat.reduceAdd, Nat.reduceBEq, Nat.reduceEqDiff, Nat.reduceLeDiff, Nat.reduceLT, Nat.reduceSub, ↓reduceIte, reduceCtorEq, Int.reduceToNat, HE]
 refine ⟨fun h1 => ⟨fun h2 => ⟨by omega, ?_⟩, fun h2 => by rw [Mf (by omega)]⟩, fun h1 => by rw [Mf (by omega)]⟩
 have hb := b8 s (Int.toNat 0)
 refine Ag _ (NA _ hb.1 hb.2) ?_
 simp +contextual -dsimp only [↓SD, SU, Nat.reduceAdd, Nat.reduceBEq, Nat.reduceEqDiff, Nat.reduceLeDiff, Nat.reduceLT, Nat.reduceSub, ↓reduceIte, reduceCtorEq, Int.reduceToNat, h1, h2]
 refine ⟨fun h => by rw [Mf (.inr (.inr h))], fun h => ?_⟩
 rw [YK (by omega) (by omega) h]
 refine AG (X := Nat) (fun k => ⟨[(0, .str s), (1, .int .i64 c), (5, .int .i64 k)], []⟩) (fun k => k ≤ s.size ∧ ∀ i, i < k → ¬ cls (AW s i).toNat = 0) (fun k => s.size - k) 0 ⟨Nat.zero_le _, fun i h => absurd h (by omega)⟩ (by simp +contextual -dsimp only [↓SD, SU, Nat.reduceAdd, Nat.reduceBEq, Nat.reduceEqDiff, Nat.reduceLeDiff, Nat.reduceLT, Nat.reduceSub, ↓reduceIte, reduceCtorEq, Int.reduceToNat]) trivial ?_
 intro k ⟨hk, hp⟩
 by_cases hlt : k < s.size
 ·simp +contextual -dsimp only [↓SD, SU, Nat.reduceAdd, Nat.reduceBEq, Nat.reduceEqDiff, Nat.reduceLeDiff, Nat.reduceLT, Nat.reduceSub, ↓reduceIte, reduceCtorEq, Int.reduceToNat, hlt]
  have hb := b8 s k
  refine Ag _ (NA _ hb.1 hb.2) ?_
  simp +contextual -dsimp only [↓SD, SU, Nat.reduceAdd, Nat.reduceBEq, Nat.reduceEqDiff, Nat.reduceLeDiff, Nat.reduceLT, Nat.reduceSub, ↓reduceIte, reduceCtorEq, Int.reduceToNat]
  refine ⟨fun h => by rw [Xq hlt h], fun h => ⟨by omega, Ai.le ⟨k + 1, ⟨⟨hlt, fun i hi => ?_⟩, (by first | omega | (simp only; omega))⟩, rfl⟩ (by simp +contextual -dsimp only [↓SD, SU, Nat.reduceAdd, Nat.reduceBEq, Nat.reduceEqDiff, Nat.reduceLeDiff, Nat.reduceLT, Nat.reduceSub, ↓reduceIte, reduceCtorEq, Int.reduceToNat, Int.natCast_add]) trivial⟩⟩
  rcases Nat.lt_succ_iff_lt_or_eq.1 hi with hi | rfl
  ·exact hp i hi
  ·exact h
 ·obtain rfl : k = s.size := by omega
  simp +contextual -dsimp only [↓SD, SU, Nat.reduceAdd, Nat.reduceBEq, Nat.reduceEqDiff, Nat.reduceLeDiff, Nat.reduceLT, Nat.reduceSub, ↓reduceIte, reduceCtorEq, Int.reduceToNat, Nat.lt_irrefl]
  rw [TF hp]
theorem J1 (s : ByteArray) (hs : s.size ≤ 1099511627776) : AJ Tryz.prog 91 [.str s] (.bool (U4 s)) := by
 refine Jq.F rfl (by simp; exact Ap.str _) (Ap.bool _) ?_
 simp +contextual -dsimp only [↓SD, SU, Nat.reduceAdd, Nat.reduceBEq, Nat.reduceEqDiff, Nat.reduceLeDiff, Nat.reduceLT, Nat.reduceSub, ↓reduceIte, reduceCtorEq, Int.reduceToNat, Jq]
 refine Ag _ (Li 2 s hs) ?_
 simp +contextual -dsimp only [↓SD, SU, Nat.reduceAdd, Nat.reduceBEq, Nat.reduceEqDiff, Nat.reduceLeDiff, Nat.reduceLT, Nat.reduceSub, ↓reduceIte, reduceCtorEq, Int.reduceToNat]

def El (s : ByteArray) (k : Int) (p : Bool) : Bool :=
 if s = bs [116, 114, 117, 101] ∨ s = bs [102, 97, 108, 115, 101] ∨ s = bs [91, 93] then decide (k = 0)
 else if s = bs [58, 58] then decide (k = 1) && p
 else U4 s && decide (k ≤ 1)
theorem Oy (k : Int) (p : Bool) : El (bs [58, 58]) k p = (decide (k = 1) && p) := by
 unfold El
 rw [if_neg (by decide), if_pos rfl]
theorem E3 (s : ByteArray) (k : Int) (p : Bool) (hs : s.size ≤ 1099511627776) : AJ Tryz.prog 80 [.str s, .int .i64 k, .bool p] (.bool (El s k p)) := by
 refine GU.F rfl (by simp; exact ⟨Ap.str _, E0 _, Ap.bool _⟩) (Ap.bool _) ?_
 simp +contextual -dsimp only [↓SD, SU, Nat.reduceAdd, Nat.reduceBEq, Nat.reduceEqDiff, Nat.reduceLeDiff, Nat.reduceLT, Nat.reduceSub, ↓reduceIte, reduceCtorEq, Int.reduceToNat, GU]
 (repeat' (first | intro _ | refine And.intro ?_ ?_))
 all_goals first | (refine Ag _ (Qz s hs) ?_; simp +contextual -dsimp only [↓SD, SU, Nat.reduceAdd, Nat.reduceBEq, Nat.reduceEqDiff, Nat.reduceLeDiff, Nat.reduceLT, Nat.reduceSub, ↓reduceIte, reduceCtorEq, Int.reduceToNat, *]; (repeat' (first | intro _ | refine And.intro ?_ ?_))) | skip
 all_goals first | (simp [Oy, *]; done) | (simp [El, *]; done)
theorem Ge (s : ByteArray) (k : Int) (p : Bool) (hs : s.size ≤ 1099511627776) : AJ Tryz.prog 67 [.str s, .int .i64 k, .bool p] (.bool (El s k p)) := by
 refine GL.F rfl (by simp; exact ⟨Ap.str _, E0 _, Ap.bool _⟩) (Ap.bool _) ?_
 simp +contextual -dsimp only [↓SD, SU, Nat.reduceAdd, Nat.reduceBEq, Nat.reduceEqDiff, Nat.reduceLeDiff, Nat.reduceLT, Nat.reduceSub, ↓reduceIte, reduceCtorEq, Int.reduceToNat, GL]
 (repeat' (first | intro _ | refine And.intro ?_ ?_))
 all_goals first | (refine Ag _ (J1 s hs) ?_; simp +contextual -dsimp only [↓SD, SU, Nat.reduceAdd, Nat.reduceBEq, Nat.reduceEqDiff, Nat.reduceLeDiff, Nat.reduceLT, Nat.reduceSub, ↓reduceIte, reduceCtorEq, Int.reduceToNat, *]; (repeat' (first | intro _ | refine And.intro ?_ ?_))) | skip
 all_goals first | (simp [Oy, *]; done) | (simp [El, *]; done)

theorem Uc (l : List ByteArray) (s : ByteArray) (hl : l.length ≤ 1099511627776) : AJ Tryz.prog 89 [.sl (l.map av), .str s] (.int .i64 (indexOf l (fun x => decide (s = x)))) := by
 refine Dg.F rfl (by simp; exact ⟨AD l, Ap.str _⟩) (Ap.int _ _) ?_
 simp +contextual -dsimp only [↓SD, SU, Nat.reduceAdd, Nat.reduceBEq, Nat.reduceEqDiff, Nat.reduceLeDiff, Nat.reduceLT, Nat.reduceSub, ↓reduceIte, reduceCtorEq, Int.reduceToNat, Dg, Aa]
 refine AG (X := Nat) (fun k => ⟨[(0, .sl (l.map av)), (1, .str s), (7, .int .i64 l.length), (8, .int .i64 k)], []⟩) (fun k => k ≤ l.length ∧ (l.take k).all (fun x => !decide (s = x)) = true) (fun k => l.length - k) 0 ⟨Nat.zero_le _, rfl⟩ (by simp +contextual -dsimp only [↓SD, SU, Nat.reduceAdd, Nat.reduceBEq, Nat.reduceEqDiff, Nat.reduceLeDiff, Nat.reduceLT, Nat.reduceSub, ↓reduceIte, reduceCtorEq, Int.reduceToNat]) trivial ?_
 intro k ⟨hk, hpk⟩
 by_cases hlt : k < l.length
 ·have e := getD_map (av (α := ByteArray)) l k .top hlt
  simp +contextual -dsimp only [↓SD, SU, Nat.reduceAdd, Nat.reduceBEq, Nat.reduceEqDiff, Nat.reduceLeDiff, Nat.reduceLT, Nat.reduceSub, ↓reduceIte, reduceCtorEq, Int.reduceToNat, Aa, e, EU, hlt]
  refine ⟨fun h1 => ?_, fun h1 => ⟨by omega, ?_⟩⟩
  ·rw [← h1, JI (p := fun x => decide (s = x)) hlt hpk (by simp [h1])]
  ·exact Ai.le ⟨k + 1, ⟨⟨hlt, by rw [Jb _ hlt hpk]; simp [h1]⟩, (by first | omega | (simp only; omega))⟩, rfl⟩ (by simp +contextual -dsimp only [↓SD, SU, Nat.reduceAdd, Nat.reduceBEq, Nat.reduceEqDiff, Nat.reduceLeDiff, Nat.reduceLT, Nat.reduceSub, ↓reduceIte, reduceCtorEq, Int.reduceToNat, Int.natCast_add]) trivial
 ·obtain rfl : k = l.length := by omega
  rw [List.take_length] at hpk
  simp +contextual -dsimp only [↓SD, SU, Nat.reduceAdd, Nat.reduceBEq, Nat.reduceEqDiff, Nat.reduceLeDiff, Nat.reduceLT, Nat.reduceSub, ↓reduceIte, reduceCtorEq, Int.reduceToNat, Aa, Nat.lt_irrefl, Hf hpk]
theorem IW (l : List ByteArray) (s : ByteArray) (hl : l.length ≤ 1099511627776) : AJ Tryz.prog 60 [.sl (l.map av), .str s] (.bool (l.any (fun x => decide (s = x)))) := by
 refine CF.F rfl (by simp; exact ⟨AD l, Ap.str _⟩) (Ap.bool _) ?_
 simp +contextual -dsimp only [↓SD, SU, Nat.reduceAdd, Nat.reduceBEq, Nat.reduceEqDiff, Nat.reduceLeDiff, Nat.reduceLT, Nat.reduceSub, ↓reduceIte, reduceCtorEq, Int.reduceToNat, CF]
 refine Ag _ (Uc l s hl) ?_
 simp +contextual -dsimp only [↓SD, SU, Nat.reduceAdd, Nat.reduceBEq, Nat.reduceEqDiff, Nat.reduceLeDiff, Nat.reduceLT, Nat.reduceSub, ↓reduceIte, reduceCtorEq, Int.reduceToNat, II]

def kwL : List ByteArray := [bs [108, 101, 116], bs [114, 101, 99], bs [105, 110], bs [102, 117, 110], bs [105, 102], bs [116, 104, 101, 110], bs [101, 108, 115, 101], bs [109, 97, 116, 99, 104], bs [119, 105, 116, 104], bs [101, 110, 100], bs [116, 121, 112, 101], bs [111, 102], bs [114, 97, 105, 115, 101], bs [116, 114, 121], bs [114, 101, 102], bs [116, 114, 117, 101], bs [102, 97, 108, 115, 101]]
theorem ZN : kwL.map av = [.str (bs [108, 101, 116]), .str (bs [114, 101, 99]), .str (bs [105, 110]), .str (bs [102, 117, 110]), .str (bs [105, 102]), .str (bs [116, 104, 101, 110]), .str (bs [101, 108, 115, 101]), .str (bs [109, 97, 116, 99, 104]), .str (bs [119, 105, 116, 104]), .str (bs [101, 110, 100]), .str (bs [116, 121, 112, 101]), .str (bs [111, 102]), .str (bs [114, 97, 105, 115, 101]), .str (bs [116, 114, 121]), .str (bs [114, 101, 102]), .str (bs [116, 114, 117, 101]), .str (bs [102, 97, 108, 115, 101])] := rfl
def Ih (s : ByteArray) : Bool := Ga 1 s && !kwL.any (fun x => decide (s = x))
theorem Sy : AJ Tryz.prog 119 [] (.sl (kwL.map av)) := by
 refine GS.F rfl (by simp) (AD kwL) ?_
 simp +contextual -dsimp only [↓SD, SU, Nat.reduceAdd, Nat.reduceBEq, Nat.reduceEqDiff, Nat.reduceLeDiff, Nat.reduceLT, Nat.reduceSub, ↓reduceIte, reduceCtorEq, Int.reduceToNat, GS, ZN]
theorem Ju (s : ByteArray) (hs : s.size ≤ 1099511627776) : AJ Tryz.prog 88 [.str s] (.bool (Ih s)) := by
 refine IF.F rfl (by simp; exact Ap.str _) (Ap.bool _) ?_
 simp +contextual -dsimp only [↓SD, SU, Nat.reduceAdd, Nat.reduceBEq, Nat.reduceEqDiff, Nat.reduceLeDiff, Nat.reduceLT, Nat.reduceSub, ↓reduceIte, reduceCtorEq, Int.reduceToNat, IF]
 refine Ag _ (On s hs) ?_
 simp +contextual -dsimp only [↓SD, SU, Nat.reduceAdd, Nat.reduceBEq, Nat.reduceEqDiff, Nat.reduceLeDiff, Nat.reduceLT, Nat.reduceSub, ↓reduceIte, reduceCtorEq, Int.reduceToNat]
 (repeat' (first | intro _ | refine And.intro ?_ ?_))
 ·omega
 ·rename_i h; simp only [Bool.and_eq_true, decide_eq_true_eq] at h; omega
 ·rename_i h
  refine Ag _ (M5 _) ?_
  have e : decide (cls (AW s 0).toNat = 1) = decide (97 ≤ ((AW s 0).toNat : Int) ∧ ((AW s 0).toNat : Int) ≤ 122) := by
   apply Bool.eq_iff_iff.2; simp only [decide_eq_true_eq]; unfold cls; (repeat' split) <;> omega
  simp +contextual -dsimp only [↓SD, SU, Nat.reduceAdd, Nat.reduceBEq, Nat.reduceEqDiff, Nat.reduceLeDiff, Nat.reduceLT, Nat.reduceSub, ↓reduceIte, reduceCtorEq, Int.reduceToNat, h]
  refine ⟨fun h2 => ?_, fun h2 => ?_⟩
  ·refine Ag _ Sy ?_
   simp +contextual -dsimp only [↓SD, SU, Nat.reduceAdd, Nat.reduceBEq, Nat.reduceEqDiff, Nat.reduceLeDiff, Nat.reduceLT, Nat.reduceSub, ↓reduceIte, reduceCtorEq, Int.reduceToNat, h2]
   refine Ag _ (IW kwL s (by decide)) ?_
   simp +contextual -dsimp only [↓SD, SU, Nat.reduceAdd, Nat.reduceBEq, Nat.reduceEqDiff, Nat.reduceLeDiff, Nat.reduceLT, Nat.reduceSub, ↓reduceIte, reduceCtorEq, Int.reduceToNat, h2]
   unfold Ih Ga
   rw [h, e, decide_eq_true h2]; rfl
  ·unfold Ih Ga
   rw [h, e, decide_eq_false h2]; rfl
 ·rename_i h
  unfold Ih Ga; rw [h]; rfl
theorem M0 (s : ByteArray) : AJ Tryz.prog 93 [.str s] (.bool (kwL.any (fun x => decide (s = x)))) := by
 refine HG.F rfl (by simp; exact Ap.str _) (Ap.bool _) ?_
 simp +contextual -dsimp only [↓SD, SU, Nat.reduceAdd, Nat.reduceBEq, Nat.reduceEqDiff, Nat.reduceLeDiff, Nat.reduceLT, Nat.reduceSub, ↓reduceIte, reduceCtorEq, Int.reduceToNat, HG]
 refine AG (X := Nat) (fun k => ⟨[(0, .str s), (5, .sl (kwL.map av)), (6, .int .i64 kwL.length), (7, .int .i64 k)], []⟩) (fun k => k ≤ kwL.length ∧ (kwL.take k).all (fun x => !decide (s = x)) = true) (fun k => kwL.length - k) 0 ⟨Nat.zero_le _, rfl⟩ (by simp +contextual -dsimp only [↓SD, SU, Nat.reduceAdd, Nat.reduceBEq, Nat.reduceEqDiff, Nat.reduceLeDiff, Nat.reduceLT, Nat.reduceSub, ↓reduceIte, reduceCtorEq, Int.reduceToNat, ZN]; rfl) trivial ?_
 intro k ⟨hk, hpk⟩
 have hk17 : kwL.length = 17 := rfl
 by_cases hlt : k < kwL.length
 ·have e := getD_map (av (α := ByteArray)) kwL k .top hlt
  simp +contextual -dsimp only [↓SD, SU, Nat.reduceAdd, Nat.reduceBEq, Nat.reduceEqDiff, Nat.reduceLeDiff, Nat.reduceLT, Nat.reduceSub, ↓reduceIte, reduceCtorEq, Int.reduceToNat, Aa, e, EU, hlt]
  refine ⟨fun h1 => ?_, fun h1 => ⟨by omega, ?_⟩⟩
  ·rw [List.any_eq_true.2 ⟨kwL[k], List.getElem_mem hlt, by simp [h1]⟩]
  ·exact Ai.le ⟨k + 1, ⟨⟨hlt, by rw [Jb _ hlt hpk]; simp [h1]⟩, (by first | omega | (simp only; omega))⟩, rfl⟩ (by simp +contextual -dsimp only [↓SD, SU, Nat.reduceAdd, Nat.reduceBEq, Nat.reduceEqDiff, Nat.reduceLeDiff, Nat.reduceLT, Nat.reduceSub, ↓reduceIte, reduceCtorEq, Int.reduceToNat, Int.natCast_add]) trivial
 ·obtain rfl : k = kwL.length := by omega
  rw [List.take_length] at hpk
  have : kwL.any (fun x => decide (s = x)) = false := by
   rw [List.any_eq_false]; intro x hx; simpa using List.all_eq_true.1 hpk x hx
  simp +contextual -dsimp only [↓SD, SU, Nat.reduceAdd, Nat.reduceBEq, Nat.reduceEqDiff, Nat.reduceLeDiff, Nat.reduceLT, Nat.reduceSub, ↓reduceIte, reduceCtorEq, Int.reduceToNat, Aa, Nat.lt_irrefl, this]
theorem DX (s : ByteArray) (hs : s.size ≤ 1099511627776) : AJ Tryz.prog 70 [.str s] (.bool (Ih s)) := by
 refine Ix.F rfl (by simp; exact Ap.str _) (Ap.bool _) ?_
 simp +contextual -dsimp only [↓SD, SU, Nat.reduceAdd, Nat.reduceBEq, Nat.reduceEqDiff, Nat.reduceLeDiff, Nat.reduceLT, Nat.reduceSub, ↓reduceIte, reduceCtorEq, Int.reduceToNat, Ix]
 refine Ag _ (Li 1 s hs) ?_
 simp +contextual -dsimp only [↓SD, SU, Nat.reduceAdd, Nat.reduceBEq, Nat.reduceEqDiff, Nat.reduceLeDiff, Nat.reduceLT, Nat.reduceSub, ↓reduceIte, reduceCtorEq, Int.reduceToNat]
 refine ⟨fun h => ?_, fun h => ?_⟩
 ·refine Ag _ (M0 s) ?_
  simp +contextual -dsimp only [↓SD, SU, Nat.reduceAdd, Nat.reduceBEq, Nat.reduceEqDiff, Nat.reduceLeDiff, Nat.reduceLT, Nat.reduceSub, ↓reduceIte, reduceCtorEq, Int.reduceToNat, Ih, h]
 ·simp [Ih, h]

end Go.Proofs.YteeiaaogmjbcjaaGreat
