/-
 WORDS: names and constructors, by abstract texts. Conditions: none.
-/
import Derived.Test.YteeiaaogmjbcjaaGreatKJ07
set_option linter.unusedVariables false
set_option linter.unusedSimpArgs false
set_option maxRecDepth 100000
namespace Go.Proofs.YteeiaaogmjbcjaaGreat
open Go.RowKit Go.Proofs.YteeiaaogmjbcjaaGreat.Av Go.Proofs.YteeiaaogmjbcjaaGreat.Ml
open Go.Proofs.YteeiaaogmjbcjaaGreat.Av.AVal (av)

def cls (b : Int) : Int := if 97 ≤ b ∧ b ≤ 122 then 1 else if 65 ≤ b ∧ b ≤ 90 then 2 else if (48 ≤ b ∧ b ≤ 57) ∨ b = 95 then 3 else 0
theorem ON (b : Int) (h0 : 0 ≤ b) (h1 : b ≤ 255) : AG Tryz.prog 120 [.int .u8 b] (.int .i64 (cls b)) := by
 refine HG.F rfl (by simp; exact pu8 _) (Ea _) ?_
 simp +contextual -dsimp only [↓SD, SU, Nat.reduceAdd, Nat.reduceBEq, Nat.reduceEqDiff, Nat.reduceLeDiff, Nat.reduceLT, Nat.reduceSub, ↓reduceIte, reduceCtorEq, Int.reduceToNat, HG]
 (repeat' (first | intro _ | refine And.intro ?_ ?_))
 all_goals first | omega | (congr 1; done) | (congr 1; unfold cls; (repeat' split) <;> omega)
theorem Oc (b : Int) : AG Tryz.prog 121 [.int .u8 b] (.bool (decide (cls b = 2))) := by
 refine IV.F rfl (by simp; exact pu8 _) (Aj.bool _) ?_
 simp +contextual -dsimp only [↓SD, SU, Nat.reduceAdd, Nat.reduceBEq, Nat.reduceEqDiff, Nat.reduceLeDiff, Nat.reduceLT, Nat.reduceSub, ↓reduceIte, reduceCtorEq, Int.reduceToNat, IV]
 (repeat' (first | intro _ | refine And.intro ?_ ?_))
 all_goals first | omega | (congr 1; done) | (congr 1; apply Bool.eq_iff_iff.2; simp only [decide_eq_true_eq, Bool.false_eq_true, false_iff, true_iff]; unfold cls; (repeat' split) <;> omega)
theorem Od (b : Int) : AG Tryz.prog 118 [.int .u8 b] (.bool (decide (97 ≤ b ∧ b ≤ 122))) := by
 refine IW.F rfl (by simp; exact pu8 _) (Aj.bool _) ?_
 simp +contextual -dsimp only [↓SD, SU, Nat.reduceAdd, Nat.reduceBEq, Nat.reduceEqDiff, Nat.reduceLeDiff, Nat.reduceLT, Nat.reduceSub, ↓reduceIte, reduceCtorEq, Int.reduceToNat, IW]
 (repeat' (first | intro _ | refine And.intro ?_ ?_))
 all_goals first | omega | (congr 1; done) | (congr 1; apply Bool.eq_iff_iff.2; simp only [decide_eq_true_eq, Bool.false_eq_true, false_iff, true_iff]; omega)
theorem V5 (b : Int) : AG Tryz.prog 157 [.int .u8 b] (.bool (decide (48 ≤ b ∧ b ≤ 57))) := by
 refine IX.F rfl (by simp; exact pu8 _) (Aj.bool _) ?_
 simp +contextual -dsimp only [↓SD, SU, Nat.reduceAdd, Nat.reduceBEq, Nat.reduceEqDiff, Nat.reduceLeDiff, Nat.reduceLT, Nat.reduceSub, ↓reduceIte, reduceCtorEq, Int.reduceToNat, IX]
 (repeat' (first | intro _ | refine And.intro ?_ ?_))
 all_goals first | omega | (congr 1; done) | (congr 1; apply Bool.eq_iff_iff.2; simp only [decide_eq_true_eq, Bool.false_eq_true, false_iff, true_iff]; omega)
theorem Zv (b : Int) : AG Tryz.prog 146 [.int .u8 b] (.bool (!decide (cls b = 0))) := by
 refine JF.F rfl (by simp; exact pu8 _) (Aj.bool _) ?_
 simp +contextual -dsimp only [↓SD, SU, Nat.reduceAdd, Nat.reduceBEq, Nat.reduceEqDiff, Nat.reduceLeDiff, Nat.reduceLT, Nat.reduceSub, ↓reduceIte, reduceCtorEq, Int.reduceToNat, JF]
 refine Ae _ (Od b) ?_
 simp +contextual -dsimp only [↓SD, SU, Nat.reduceAdd, Nat.reduceBEq, Nat.reduceEqDiff, Nat.reduceLeDiff, Nat.reduceLT, Nat.reduceSub, ↓reduceIte, reduceCtorEq, Int.reduceToNat]
 refine ⟨fun h0 => ?_, fun h0 => ?_⟩
 ·refine Ae _ (Oc b) ?_
  simp +contextual -dsimp only [↓SD, SU, Nat.reduceAdd, Nat.reduceBEq, Nat.reduceEqDiff, Nat.reduceLeDiff, Nat.reduceLT, Nat.reduceSub, ↓reduceIte, reduceCtorEq, Int.reduceToNat, h0]
  refine ⟨fun h1 => ?_, fun h1 => ?_⟩
  ·refine Ae _ (V5 b) ?_
   simp +contextual -dsimp only [↓SD, SU, Nat.reduceAdd, Nat.reduceBEq, Nat.reduceEqDiff, Nat.reduceLeDiff, Nat.reduceLT, Nat.reduceSub, ↓reduceIte, reduceCtorEq, Int.reduceToNat, h0, h1]
   (repeat' (first | intro _ | refine And.intro ?_ ?_))
   all_goals first
    | omega
    | (congr 1; apply Bool.eq_iff_iff.2; simp only [decide_eq_true_eq, Bool.not_eq_true', decide_eq_false_iff_not, true_iff, Bool.false_eq_true, false_iff, Decidable.not_not]; unfold cls at *; (repeat' split at *) <;> omega)
    | (congr 1; apply Bool.eq_iff_iff.2; simp only [decide_eq_true_eq, Bool.not_eq_true', decide_eq_false_iff_not, true_iff, Bool.false_eq_true, false_iff, Decidable.not_not]; unfold cls at *; (repeat' split) <;> omega)
  ·simp [h1]
 ·congr 1; apply Bool.eq_iff_iff.2; simp only [Bool.not_eq_true', decide_eq_false_iff_not, true_iff]; unfold cls; (repeat' split) <;> omega

def Wv (s : ByteArray) : Bool := (List.range s.size).all fun i => !decide (cls (A1 s i).toNat = 0)
theorem YN {s : ByteArray} {k : Nat} (hk : k < s.size) (h : cls (A1 s k).toNat = 0) : Wv s = false := by
 unfold Wv; rw [List.all_eq_false]; exact ⟨k, List.mem_range.2 hk, by simp [h]⟩
theorem U3 {s : ByteArray} (h : ∀ i, i < s.size → ¬ cls (A1 s i).toNat = 0) : Wv s = true := by
 unfold Wv; rw [List.all_eq_true]; intro x hx; simp [h x (List.mem_range.1 hx)]
theorem PF (s : ByteArray) (hs : s.size ≤ 1099511627776) : AG Tryz.prog 117 [.str s] (.bool (Wv s && (decide (1 ≤ (s.size : Int)) && decide ((s.size : Int) ≤ 12)))) := by
 refine JC.F rfl (by simp; exact Aj.str _) (Aj.bool _) ?_
 simp +contextual -dsimp only [↓SD, SU, Nat.reduceAdd, Nat.reduceBEq, Nat.reduceEqDiff, Nat.reduceLeDiff, Nat.reduceLT, Nat.reduceSub, ↓reduceIte, reduceCtorEq, Int.reduceToNat, JC]
 refine AF (X := Nat) (fun k => ⟨[(0, .str s), (5, .int .i64 s.size), (6, .int .i64 k)], []⟩) (fun k => k ≤ s.size ∧ ∀ i, i < k → ¬ cls (A1 s i).toNat = 0) (fun k => s.size - k) 0 ⟨Nat.zero_le _, fun i h => absurd h (by omega)⟩ (by simp +contextual -dsimp only [↓SD, SU, Nat.reduceAdd, Nat.reduceBEq, Nat.reduceEqDiff, Nat.reduceLeDiff, Nat.reduceLT, Nat.reduceSub, ↓reduceIte, reduceCtorEq, Int.reduceToNat]) trivial ?_
 intro k ⟨hk, hp⟩
 by_cases hlt : k < s.size
 ·simp +contextual -dsimp only [↓SD, SU, Nat.reduceAdd, Nat.reduceBEq, Nat.reduceEqDiff, Nat.reduceLeDiff, Nat.reduceLT, Nat.reduceSub, ↓reduceIte, reduceCtorEq, Int.reduceToNat, hlt]
  refine Ae _ (Zv _) ?_
  simp +contextual -dsimp only [↓SD, SU, Nat.reduceAdd, Nat.reduceBEq, Nat.reduceEqDiff, Nat.reduceLeDiff, Nat.reduceLT, Nat.reduceSub, ↓reduceIte, reduceCtorEq, Int.reduceToNat]
  refine ⟨fun h => by rw [YN hlt h]; rfl, fun h => ⟨by omega, Ah.le ⟨k + 1, ⟨⟨hlt, fun i hi => ?_⟩, (by first | omega | (simp only; omega))⟩, rfl⟩ (by simp +contextual -dsimp only [↓SD, SU, Nat.reduceAdd, Nat.reduceBEq, Nat.reduceEqDiff, Nat.reduceLeDiff, Nat.reduceLT, Nat.reduceSub, ↓reduceIte, reduceCtorEq, Int.reduceToNat, Int.natCast_add]) trivial⟩⟩
  rcases Nat.lt_succ_iff_lt_or_eq.1 hi with hi | rfl
  ·exact hp i hi
  ·exact h
 ·obtain rfl : k = s.size := by omega
  simp +contextual -dsimp only [↓SD, SU, Nat.reduceAdd, Nat.reduceBEq, Nat.reduceEqDiff, Nat.reduceLeDiff, Nat.reduceLT, Nat.reduceSub, ↓reduceIte, reduceCtorEq, Int.reduceToNat, Nat.lt_irrefl]
  refine Ae _ (Di _ _ _) ?_
  simp +contextual -dsimp only [↓SD, SU, Nat.reduceAdd, Nat.reduceBEq, Nat.reduceEqDiff, Nat.reduceLeDiff, Nat.reduceLT, Nat.reduceSub, ↓reduceIte, reduceCtorEq, Int.reduceToNat, U3 hp]

def GY (c : Int) (s : ByteArray) : Bool := (Wv s && (decide (1 ≤ (s.size : Int)) && decide ((s.size : Int) ≤ 12))) && decide (cls (A1 s 0).toNat = c)
abbrev PB (s : ByteArray) : Bool := GY 2 s
theorem RM (s : ByteArray) (hs : s.size ≤ 1099511627776) : AG Tryz.prog 99 [.str s] (.bool (PB s)) := by
 refine Kq.F rfl (by simp; exact Aj.str _) (Aj.bool _) ?_
 simp +contextual -dsimp only [↓SD, SU, Nat.reduceAdd, Nat.reduceBEq, Nat.reduceEqDiff, Nat.reduceLeDiff, Nat.reduceLT, Nat.reduceSub, ↓reduceIte, reduceCtorEq, Int.reduceToNat, Kq]
 refine Ae _ (PF s hs) ?_
 simp +contextual -dsimp only [↓SD, SU, Nat.reduceAdd, Nat.reduceBEq, Nat.reduceEqDiff, Nat.reduceLeDiff, Nat.reduceLT, Nat.reduceSub, ↓reduceIte, reduceCtorEq, Int.reduceToNat]
 (repeat' (first | intro _ | refine And.intro ?_ ?_))
 ·omega
 ·rename_i h; simp only [Bool.and_eq_true, decide_eq_true_eq] at h; omega
 ·rename_i h
  refine Ae _ (Oc _) ?_
  simp +contextual -dsimp only [↓SD, SU, Nat.reduceAdd, Nat.reduceBEq, Nat.reduceEqDiff, Nat.reduceLeDiff, Nat.reduceLT, Nat.reduceSub, ↓reduceIte, reduceCtorEq, Int.reduceToNat, h]
  unfold PB GY; rw [h, Bool.true_and]
 ·rename_i h
  unfold PB GY; rw [h]; rfl

theorem Nq {c : Int} {s : ByteArray} (h : s.size < 1 ∨ 12 < s.size ∨ ¬ cls (A1 s 0).toNat = c) : GY c s = false := by
 unfold GY
 rcases h with h | h | h
 ·rw [decide_eq_false (p := 1 ≤ (s.size : Int)) (by omega)]; simp
 ·rw [decide_eq_false (p := (s.size : Int) ≤ 12) (by omega)]; simp
 ·rw [decide_eq_false h]; simp
theorem Z6 {c : Int} {s : ByteArray} (h1 : ¬ s.size < 1) (h2 : ¬ 12 < s.size) (h : cls (A1 s 0).toNat = c) : GY c s = Wv s := by
 unfold GY
 rw [decide_eq_true h, decide_eq_true (p := 1 ≤ (s.size : Int)) (by omega), decide_eq_true (p := (s.size : Int) ≤ 12) (by omega)]; simp
theorem Mp (c : Int) (s : ByteArray) (hs : s.size ≤ 1099511627776) : AG Tryz.prog 92 [.str s, .int .i64 c] (.bool (GY c s)) := by
 refine IK.F rfl (by simp; exact ⟨Aj.str _, Ea _⟩) (Aj.bool _) ?_
 simp +contextual -dsimp only [↓SD, SU, Nat.reduceAdd, Nat.reduceBEq, Nat.reduceEqDiff, Nat.reduceLeDiff, Nat.reduceLT, Nat.reduceSub, ↓reduceIte, reduceCtorEq, Int.reduceToNat, IK]
 refine ⟨fun h1 => ⟨fun h2 => ⟨by omega, ?_⟩, fun h2 => by rw [Nq (by omega)]⟩, fun h1 => by rw [Nq (by omega)]⟩
 have hb := b8 s (Int.toNat 0)
 refine Ae _ (ON _ hb.1 hb.2) ?_
 simp +contextual -dsimp only [↓SD, SU, Nat.reduceAdd, Nat.reduceBEq, Nat.reduceEqDiff, Nat.reduceLeDiff, Nat.reduceLT, Nat.reduceSub, ↓reduceIte, reduceCtorEq, Int.reduceToNat, h1, h2]
 refine ⟨fun h => by rw [Nq (.inr (.inr h))], fun h => ?_⟩
 rw [Z6 (by omega) (by omega) h]
 refine AF (X := Nat) (fun k => ⟨[(0, .str s), (1, .int .i64 c), (5, .int .i64 k)], []⟩) (fun k => k ≤ s.size ∧ ∀ i, i < k → ¬ cls (A1 s i).toNat = 0) (fun k => s.size - k) 0 ⟨Nat.zero_le _, fun i h => absurd h (by omega)⟩ (by simp +contextual -dsimp only [↓SD, SU, Nat.reduceAdd, Nat.reduceBEq, Nat.reduceEqDiff, Nat.reduceLeDiff, Nat.reduceLT, Nat.reduceSub, ↓reduceIte, reduceCtorEq, Int.reduceToNat]) trivial ?_
 intro k ⟨hk, hp⟩
 by_cases hlt : k < s.size
 ·simp +contextual -dsimp only [↓SD, SU, Nat.reduceAdd, Nat.reduceBEq, Nat.reduceEqDiff, Nat.reduceLeDiff, Nat.reduceLT, Nat.reduceSub, ↓reduceIte, reduceCtorEq, Int.reduceToNat, hlt]
  have hb := b8 s k
  refine Ae _ (ON _ hb.1 hb.2) ?_
  simp +contextual -dsimp only [↓SD, SU, Nat.reduceAdd, Nat.reduceBEq, Nat.reduceEqDiff, Nat.reduceLeDiff, Nat.reduceLT, Nat.reduceSub, ↓reduceIte, reduceCtorEq, Int.reduceToNat]
  refine ⟨fun h => by rw [YN hlt h], fun h => ⟨by omega, Ah.le ⟨k + 1, ⟨⟨hlt, fun i hi => ?_⟩, (by first | omega | (simp only; omega))⟩, rfl⟩ (by simp +contextual -dsimp only [↓SD, SU, Nat.reduceAdd, Nat.reduceBEq, Nat.reduceEqDiff, Nat.reduceLeDiff, Nat.reduceLT, Nat.reduceSub, ↓reduceIte, reduceCtorEq, Int.reduceToNat, Int.natCast_add]) trivial⟩⟩
  rcases Nat.lt_succ_iff_lt_or_eq.1 hi with hi | rfl
  ·exact hp i hi
  ·exact h
 ·obtain rfl : k = s.size := by omega
  simp +contextual -dsimp only [↓SD, SU, Nat.reduceAdd, Nat.reduceBEq, Nat.reduceEqDiff, Nat.reduceLeDiff, Nat.reduceLT, Nat.reduceSub, ↓reduceIte, reduceCtorEq, Int.reduceToNat, Nat.lt_irrefl]
  rw [U3 hp]
theorem K1 (s : ByteArray) (hs : s.size ≤ 1099511627776) : AG Tryz.prog 91 [.str s] (.bool (PB s)) := by
 refine Kn.F rfl (by simp; exact Aj.str _) (Aj.bool _) ?_
 simp +contextual -dsimp only [↓SD, SU, Nat.reduceAdd, Nat.reduceBEq, Nat.reduceEqDiff, Nat.reduceLeDiff, Nat.reduceLT, Nat.reduceSub, ↓reduceIte, reduceCtorEq, Int.reduceToNat, Kn]
 refine Ae _ (Mp 2 s hs) ?_
 simp +contextual -dsimp only [↓SD, SU, Nat.reduceAdd, Nat.reduceBEq, Nat.reduceEqDiff, Nat.reduceLeDiff, Nat.reduceLT, Nat.reduceSub, ↓reduceIte, reduceCtorEq, Int.reduceToNat]

def DO (s : ByteArray) (k : Int) (p : Bool) : Bool :=
 if s = bs [116, 114, 117, 101] ∨ s = bs [102, 97, 108, 115, 101] ∨ s = bs [91, 93] then decide (k = 0)
 else if s = bs [58, 58] then decide (k = 1) && p
 else PB s && decide (k ≤ 1)
theorem LV (k : Int) (p : Bool) : DO (bs [58, 58]) k p = (decide (k = 1) && p) := by
 unfold DO
 rw [if_neg (by decide), if_pos rfl]
theorem DL (s : ByteArray) (k : Int) (p : Bool) (hs : s.size ≤ 1099511627776) : AG Tryz.prog 80 [.str s, .int .i64 k, .bool p] (.bool (DO s k p)) := by
 refine HK.F rfl (by simp; exact ⟨Aj.str _, Ea _, Aj.bool _⟩) (Aj.bool _) ?_
 simp +contextual -dsimp only [↓SD, SU, Nat.reduceAdd, Nat.reduceBEq, Nat.reduceEqDiff, Nat.reduceLeDiff, Nat.reduceLT, Nat.reduceSub, ↓reduceIte, reduceCtorEq, Int.reduceToNat, HK]
 (repeat' (first | intro _ | refine And.intro ?_ ?_))
 all_goals first | (refine Ae _ (RM s hs) ?_; simp +contextual -dsimp only [↓SD, SU, Nat.reduceAdd, Nat.reduceBEq, Nat.reduceEqDiff, Nat.reduceLeDiff, Nat.reduceLT, Nat.reduceSub, ↓reduceIte, reduceCtorEq, Int.reduceToNat, *]; (repeat' (first | intro _ | refine And.intro ?_ ?_))) | skip
 all_goals first | (simp [LV, *]; done) | (simp [DO, *]; done)
theorem DI (s : ByteArray) (k : Int) (p : Bool) (hs : s.size ≤ 1099511627776) : AG Tryz.prog 67 [.str s, .int .i64 k, .bool p] (.bool (DO s k p)) := by
 refine HC.F rfl (by simp; exact ⟨Aj.str _, Ea _, Aj.bool _⟩) (Aj.bool _) ?_
 simp +contextual -dsimp only [↓SD, SU, Nat.reduceAdd, Nat.reduceBEq, Nat.reduceEqDiff, Nat.reduceLeDiff, Nat.reduceLT, Nat.reduceSub, ↓reduceIte, reduceCtorEq, Int.reduceToNat, HC]
 (repeat' (first | intro _ | refine And.intro ?_ ?_))
 all_goals first | (refine Ae _ (K1 s hs) ?_; simp +contextual -dsimp only [↓SD, SU, Nat.reduceAdd, Nat.reduceBEq, Nat.reduceEqDiff, Nat.reduceLeDiff, Nat.reduceLT, Nat.reduceSub, ↓reduceIte, reduceCtorEq, Int.reduceToNat, *]; (repeat' (first | intro _ | refine And.intro ?_ ?_))) | skip
 all_goals first | (simp [LV, *]; done) | (simp [DO, *]; done)

theorem Vm (l : List ByteArray) (s : ByteArray) (hl : l.length ≤ 1099511627776) : AG Tryz.prog 89 [.sl (l.map av), .str s] (.int .i64 (indexOf l (fun x => decide (s = x)))) := by
 refine DJ.F rfl (by simp; exact ⟨Aw l, Aj.str _⟩) (Aj.int _ _) ?_
 simp +contextual -dsimp only [↓SD, SU, Nat.reduceAdd, Nat.reduceBEq, Nat.reduceEqDiff, Nat.reduceLeDiff, Nat.reduceLT, Nat.reduceSub, ↓reduceIte, reduceCtorEq, Int.reduceToNat, DJ, Aa]
 refine AF (X := Nat) (fun k => ⟨[(0, .sl (l.map av)), (1, .str s), (7, .int .i64 l.length), (8, .int .i64 k)], []⟩) (fun k => k ≤ l.length ∧ (l.take k).all (fun x => !decide (s = x)) = true) (fun k => l.length - k) 0 ⟨Nat.zero_le _, rfl⟩ (by simp +contextual -dsimp only [↓SD, SU, Nat.reduceAdd, Nat.reduceBEq, Nat.reduceEqDiff, Nat.reduceLeDiff, Nat.reduceLT, Nat.reduceSub, ↓reduceIte, reduceCtorEq, Int.reduceToNat]) trivial ?_
 intro k ⟨hk, hpk⟩
 by_cases hlt : k < l.length
 ·have e := getD_map (av (α := ByteArray)) l k .top hlt
  simp +contextual -dsimp only [↓SD, SU, Nat.reduceAdd, Nat.reduceBEq, Nat.reduceEqDiff, Nat.reduceLeDiff, Nat.reduceLT, Nat.reduceSub, ↓reduceIte, reduceCtorEq, Int.reduceToNat, Aa, e, FA, hlt]
  refine ⟨fun h1 => ?_, fun h1 => ⟨by omega, ?_⟩⟩
  ·rw [← h1, GK (p := fun x => decide (s = x)) hlt hpk (by simp [h1])]
  ·exact Ah.le ⟨k + 1, ⟨⟨hlt, by rw [Gk _ hlt hpk]; simp [h1]⟩, (by first | omega | (simp only; omega))⟩, rfl⟩ (by simp +contextual -dsimp only [↓SD, SU, Nat.reduceAdd, Nat.reduceBEq, Nat.reduceEqDiff, Nat.reduceLeDiff, Nat.reduceLT, Nat.reduceSub, ↓reduceIte, reduceCtorEq, Int.reduceToNat, Int.natCast_add]) trivial
 ·obtain rfl : k = l.length := by omega
  rw [List.take_length] at hpk
  simp +contextual -dsimp only [↓SD, SU, Nat.reduceAdd, Nat.reduceBEq, Nat.reduceEqDiff, Nat.reduceLeDiff, Nat.reduceLT, Nat.reduceSub, ↓reduceIte, reduceCtorEq, Int.reduceToNat, Aa, Nat.lt_irrefl, E8 hpk]
theorem JT (l : List ByteArray) (s : ByteArray) (hl : l.length ≤ 1099511627776) : AG Tryz.prog 60 [.sl (l.map av), .str s] (.bool (l.any (fun x => decide (s = x)))) := by
 refine Dm.F rfl (by simp; exact ⟨Aw l, Aj.str _⟩) (Aj.bool _) ?_
 simp +contextual -dsimp only [↓SD, SU, Nat.reduceAdd, Nat.reduceBEq, Nat.reduceEqDiff, Nat.reduceLeDiff, Nat.reduceLT, Nat.reduceSub, ↓reduceIte, reduceCtorEq, Int.reduceToNat, Dm]
 refine Ae _ (Vm l s hl) ?_
 simp +contextual -dsimp only [↓SD, SU, Nat.reduceAdd, Nat.reduceBEq, Nat.reduceEqDiff, Nat.reduceLeDiff, Nat.reduceLT, Nat.reduceSub, ↓reduceIte, reduceCtorEq, Int.reduceToNat, He]

def kwL : List ByteArray := [bs [108, 101, 116], bs [114, 101, 99], bs [105, 110], bs [102, 117, 110], bs [105, 102], bs [116, 104, 101, 110], bs [101, 108, 115, 101], bs [109, 97, 116, 99, 104], bs [119, 105, 116, 104], bs [101, 110, 100], bs [116, 121, 112, 101], bs [111, 102], bs [114, 97, 105, 115, 101], bs [116, 114, 121], bs [114, 101, 102], bs [116, 114, 117, 101], bs [102, 97, 108, 115, 101]]
theorem Aa2 : kwL.map av = [.str (bs [108, 101, 116]), .str (bs [114, 101, 99]), .str (bs [105, 110]), .str (bs [102, 117, 110]), .str (bs [105, 102]), .str (bs [116, 104, 101, 110]), .str (bs [101, 108, 115, 101]), .str (bs [109, 97, 116, 99, 104]), .str (bs [119, 105, 116, 104]), .str (bs [101, 110, 100]), .str (bs [116, 121, 112, 101]), .str (bs [111, 102]), .str (bs [114, 97, 105, 115, 101]), .str (bs [116, 114, 121]), .str (bs [114, 101, 102]), .str (bs [116, 114, 117, 101]), .str (bs [102, 97, 108, 115, 101])] := rfl
def Jk (s : ByteArray) : Bool := GY 1 s && !kwL.any (fun x => decide (s = x))
theorem TI : AG Tryz.prog 119 [] (.sl (kwL.map av)) := by
 refine HJ.F rfl (by simp) (Aw kwL) ?_
 simp +contextual -dsimp only [↓SD, SU, Nat.reduceAdd, Nat.reduceBEq, Nat.reduceEqDiff, Nat.reduceLeDiff, Nat.reduceLT, Nat.reduceSub, ↓reduceIte, reduceCtorEq, Int.reduceToNat, HJ, Aa2]
theorem Kr (s : ByteArray) (hs : s.size ≤ 1099511627776) : AG Tryz.prog 88 [.str s] (.bool (Jk s)) := by
 refine JH.F rfl (by simp; exact Aj.str _) (Aj.bool _) ?_
 simp +contextual -dsimp only [↓SD, SU, Nat.reduceAdd, Nat.reduceBEq, Nat.reduceEqDiff, Nat.reduceLeDiff, Nat.reduceLT, Nat.reduceSub, ↓reduceIte, reduceCtorEq, Int.reduceToNat, JH]
 refine Ae _ (PF s hs) ?_
 simp +contextual -dsimp only [↓SD, SU, Nat.reduceAdd, Nat.reduceBEq, Nat.reduceEqDiff, Nat.reduceLeDiff, Nat.reduceLT, Nat.reduceSub, ↓reduceIte, reduceCtorEq, Int.reduceToNat]
 (repeat' (first | intro _ | refine And.intro ?_ ?_))
 ·omega
 ·rename_i h; simp only [Bool.and_eq_true, decide_eq_true_eq] at h; omega
 ·rename_i h
  refine Ae _ (Od _) ?_
  have e : decide (cls (A1 s 0).toNat = 1) = decide (97 ≤ ((A1 s 0).toNat : Int) ∧ ((A1 s 0).toNat : Int) ≤ 122) := by
   apply Bool.eq_iff_iff.2; simp only [decide_eq_true_eq]; unfold cls; (repeat' split) <;> omega
  simp +contextual -dsimp only [↓SD, SU, Nat.reduceAdd, Nat.reduceBEq, Nat.reduceEqDiff, Nat.reduceLeDiff, Nat.reduceLT, Nat.reduceSub, ↓reduceIte, reduceCtorEq, Int.reduceToNat, h]
  refine ⟨fun h2 => ?_, fun h2 => ?_⟩
  ·refine Ae _ TI ?_
   simp +contextual -dsimp only [↓SD, SU, Nat.reduceAdd, Nat.reduceBEq, Nat.reduceEqDiff, Nat.reduceLeDiff, Nat.reduceLT, Nat.reduceSub, ↓reduceIte, reduceCtorEq, Int.reduceToNat, h2]
   refine Ae _ (JT kwL s (by decide)) ?_
   simp +contextual -dsimp only [↓SD, SU, Nat.reduceAdd, Nat.reduceBEq, Nat.reduceEqDiff, Nat.reduceLeDiff, Nat.reduceLT, Nat.reduceSub, ↓reduceIte, reduceCtorEq, Int.reduceToNat, h2]
   unfold Jk GY
   rw [h, e, decide_eq_true h2]; rfl
  ·unfold Jk GY
   rw [h, e, decide_eq_false h2]; rfl
 ·rename_i h
  unfold Jk GY; rw [h]; rfl
theorem N9 (s : ByteArray) : AG Tryz.prog 93 [.str s] (.bool (kwL.any (fun x => decide (s = x)))) := by
 refine IM.F rfl (by simp; exact Aj.str _) (Aj.bool _) ?_
 simp +contextual -dsimp only [↓SD, SU, Nat.reduceAdd, Nat.reduceBEq, Nat.reduceEqDiff, Nat.reduceLeDiff, Nat.reduceLT, Nat.reduceSub, ↓reduceIte, reduceCtorEq, Int.reduceToNat, IM]
 refine AF (X := Nat) (fun k => ⟨[(0, .str s), (5, .sl (kwL.map av)), (6, .int .i64 kwL.length), (7, .int .i64 k)], []⟩) (fun k => k ≤ kwL.length ∧ (kwL.take k).all (fun x => !decide (s = x)) = true) (fun k => kwL.length - k) 0 ⟨Nat.zero_le _, rfl⟩ (by simp +contextual -dsimp only [↓SD, SU, Nat.reduceAdd, Nat.reduceBEq, Nat.reduceEqDiff, Nat.reduceLeDiff, Nat.reduceLT, Nat.reduceSub, ↓reduceIte, reduceCtorEq, Int.reduceToNat, Aa2]; rfl) trivial ?_
 intro k ⟨hk, hpk⟩
 have hk17 : kwL.length = 17 := rfl
 by_cases hlt : k < kwL.length
 ·have e := getD_map (av (α := ByteArray)) kwL k .top hlt
  simp +contextual -dsimp only [↓SD, SU, Nat.reduceAdd, Nat.reduceBEq, Nat.reduceEqDiff, Nat.reduceLeDiff, Nat.reduceLT, Nat.reduceSub, ↓reduceIte, reduceCtorEq, Int.reduceToNat, Aa, e, FA, hlt]
  refine ⟨fun h1 => ?_, fun h1 => ⟨by omega, ?_⟩⟩
  ·rw [List.any_eq_true.2 ⟨kwL[k], List.getElem_mem hlt, by simp [h1]⟩]
  ·exact Ah.le ⟨k + 1, ⟨⟨hlt, by rw [Gk _ hlt hpk]; simp [h1]⟩, (by first | omega | (simp only; omega))⟩, rfl⟩ (by simp +contextual -dsimp only [↓SD, SU, Nat.reduceAdd, Nat.reduceBEq, Nat.reduceEqDiff, Nat.reduceLeDiff, Nat.reduceLT, Nat.reduceSub, ↓reduceIte, reduceCtorEq, Int.reduceToNat, Int.natCast_add]) trivial
 ·obtain rfl : k = kwL.length := by omega
  rw [List.take_length] at hpk
  have : kwL.any (fun x => decide (s = x)) = false := by
   rw [List.any_eq_false]; intro x hx; simpa using List.all_eq_true.1 hpk x hx
  simp +contextual -dsimp only [↓SD, SU, Nat.reduceAdd, Nat.reduceBEq, Nat.reduceEqDiff, Nat.reduceLeDiff, Nat.reduceLT, Nat.reduceSub, ↓reduceIte, reduceCtorEq, Int.reduceToNat, Aa, Nat.lt_irrefl, this]
theorem EG (s : ByteArray) (hs : s.size ≤ 1099511627776) : AG Tryz.prog 70 [.str s] (.bool (Jk s)) := by
 refine Jx.F rfl (by simp; exact Aj.str _) (Aj.bool _) ?_
 simp +contextual -dsimp only [↓SD, SU, Nat.reduceAdd, Nat.reduceBEq, Nat.reduceEqDiff, Nat.reduceLeDiff, Nat.reduceLT, Nat.reduceSub, ↓reduceIte, reduceCtorEq, Int.reduceToNat, Jx]
 refine Ae _ (Mp 1 s hs) ?_
 simp +contextual -dsimp only [↓SD, SU, Nat.reduceAdd, Nat.reduceBEq, Nat.reduceEqDiff, Nat.reduceLeDiff, Nat.reduceLT, Nat.reduceSub, ↓reduceIte, reduceCtorEq, Int.reduceToNat]
 refine ⟨fun h => ?_, fun h => ?_⟩
 ·refine Ae _ (N9 s) ?_
  simp +contextual -dsimp only [↓SD, SU, Nat.reduceAdd, Nat.reduceBEq, Nat.reduceEqDiff, Nat.reduceLeDiff, Nat.reduceLT, Nat.reduceSub, ↓reduceIte, reduceCtorEq, Int.reduceToNat, Jk, h]
 ·simp [Jk, h]

end Go.Proofs.YteeiaaogmjbcjaaGreat
