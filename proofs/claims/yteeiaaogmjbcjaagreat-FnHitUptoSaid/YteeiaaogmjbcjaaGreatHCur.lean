/-
 THE CURSOR OF A DRAW: whatever it yields lies within bounds, and it stays a cursor. Conditions: none.
-/
import Derived.Test.YteeiaaogmjbcjaaGreatHJ06
import Derived.Test.YteeiaaogmjbcjaaGreatHJ19
set_option linter.unusedVariables false
set_option linter.unusedSimpArgs false
set_option maxRecDepth 100000
namespace Go.Proofs.YteeiaaogmjbcjaaGreat
open Go.RowKit Go.Proofs.YteeiaaogmjbcjaaGreat.Av Go.Proofs.YteeiaaogmjbcjaaGreat.Ml
open Go.Proofs.YteeiaaogmjbcjaaGreat.Av.AVal (av)

theorem binw_and (q : IntKind) (a b : Int) {k : AV → Prop} : aBinw .and (.int q a) (.int q b) k = k (.int q (q.wrap (BitVec.ofInt q.bits a &&& BitVec.ofInt q.bits b).toNat)) := by simp [aBinw]
theorem binw_xor (q : IntKind) (a b : Int) {k : AV → Prop} : aBinw .xor (.int q a) (.int q b) k = k (.int q (q.wrap (BitVec.ofInt q.bits a ^^^ BitVec.ofInt q.bits b).toNat)) := by simp [aBinw]
theorem and_in (a : Int) (m : Nat) (hm : m < 9223372036854775808) : 0 ≤ IntKind.i64.wrap ((BitVec.ofInt IntKind.i64.bits a &&& BitVec.ofInt IntKind.i64.bits (m : Int)).toNat : Int) ∧ IntKind.i64.wrap ((BitVec.ofInt IntKind.i64.bits a &&& BitVec.ofInt IntKind.i64.bits (m : Int)).toNat : Int) ≤ m := by
 have h1 : (BitVec.ofInt IntKind.i64.bits a &&& BitVec.ofInt IntKind.i64.bits (m : Int)).toNat ≤ m := by
  rw [BitVec.toNat_and]
  refine Nat.le_trans Nat.and_le_right ?_
  show (BitVec.ofInt 64 (m : Int)).toNat ≤ m
  rw [BitVec.toNat_ofInt]
  omega
 rw [IntWalk.i64_in _ (by omega)]
 omega
theorem wrap_rng (x : Int) : -9223372036854775808 ≤ IntKind.i64.wrap x ∧ IntKind.i64.wrap x ≤ 9223372036854775807 := wrap_in .i64 x

def curB (c : List UInt8) (v i : Nat) (h : Int) : Box := ⟨v, false, 105, 3, [.agg [.sl (c.map av), .int .i64 i, .int .i64 h]]⟩
def CurOk (c : List UInt8) (i : Nat) (h : Int) : Prop := c.length ≤ 1048576 ∧ i ≤ c.length ∧ -9223372036854775808 ≤ h ∧ h ≤ 9223372036854775807
def CurPost (c : List UInt8) (r : AV) (hp' : Hp) : Prop := ∃ v i h, r = .ptr 2000 v 0 0 ∧ CurOk c i h ∧ hp' = [(2000, curB c v i h)]
def NumPost (c : List UInt8) (v : Nat) (p : Int → Prop) (r : AV) (hp' : Hp) : Prop := ∃ x i h, r = .int .i64 x ∧ p x ∧ CurOk c i h ∧ hp' = [(2000, curB c v i h)]
theorem l01New_ok (c : List UInt8) (hc : c.length ≤ 1048576) : CallsH Tryz.prog 21 [.sl (c.map av)] [] (CurPost c) := by
 refine ir_spec_l01New.H rfl ?_
 simp +contextual -dsimp (maxSteps := 2000000) only [↓SD, SU, SB, simprocAttr, ir_spec_l01New, map_len]
 refine ⟨by omega, ?_⟩
 refine aLoop_of (X := Nat × Int) (fun x => ⟨[(4, .int .i64 x.1), (3, .int .i64 x.2), (0, .sl (c.map av))], []⟩) (fun x => x.1 ≤ c.length ∧ -1073741823 ≤ x.2 ∧ x.2 ≤ 1073741823) (fun x => c.length - x.1) (0, 792393 + (c.length : Int)) (by simp only; omega) (by simp +contextual -dsimp only [↓SD, SU, SB, simprocAttr]) (by trivial) ?_
 rintro ⟨k, h⟩ ⟨hk, h1, h2⟩
 simp only at hk h1 h2
 by_cases hlt : k < c.length
 ·have e := getD_map av c k .top hlt
  generalize c[k] = a at *
  have ha : (a.toNat : Int) ≤ 255 := by have := a.toNat_lt; omega
  by_cases h4 : (k : Int) < 4000
  ·simp +contextual -dsimp (maxSteps := 2000000) only [↓SD, SU, SB, simprocAttr, hlt, map_len, e, av_u8, h4, binw_and]
   have A := and_in (h * 139 + (a.toNat : Int) + 3) 1073741823 (by omega)
   generalize IntKind.i64.wrap _ = z at *
   refine ⟨by omega, by omega, by omega, by omega, by omega, ?_⟩
   exact Goes.le ⟨(k + 1, z), ⟨⟨hlt, by simp only; omega⟩, (by first | omega | (simp only; omega))⟩, rfl⟩ (by simp +contextual -dsimp only [↓SD, SU, SB, simprocAttr, Int.natCast_add]) (by trivial)
  ·simp +contextual -dsimp (maxSteps := 2000000) only [↓SD, SU, SB, simprocAttr, hlt, map_len, h4]
   intro v
   refine Goes.post [(2000, curB c v 0 h)] ?_
   unfold curB
   simp +contextual -dsimp (maxSteps := 2000000) only [↓SD, SU, SB, simprocAttr]
   exact ⟨v, 0, h, rfl, ⟨hc, by omega, by omega, by omega⟩, rfl⟩
 ·simp +contextual -dsimp (maxSteps := 2000000) only [↓SD, SU, SB, simprocAttr, hlt, map_len]
  intro v
  refine Goes.post [(2000, curB c v 0 h)] ?_
  unfold curB
  simp +contextual -dsimp (maxSteps := 2000000) only [↓SD, SU, SB, simprocAttr]
  exact ⟨v, 0, h, rfl, ⟨hc, by omega, by omega, by omega⟩, rfl⟩
theorem fdiv_rng (y : Int) (p : Int) (hp : 0 < p) (h1 : -9223372036854775808 ≤ y) (h2 : y ≤ 9223372036854775807) : -9223372036854775808 ≤ y.fdiv p ∧ y.fdiv p ≤ 9223372036854775807 := by
 have e : y.fdiv p = y / p := by rw [Int.fdiv_eq_ediv_of_nonneg _ (by omega)]
 rw [e]
 constructor
 ·refine Int.le_ediv_of_mul_le hp ?_
  have : (9223372036854775808 : Int) * 1 ≤ 9223372036854775808 * p := Int.mul_le_mul_of_nonneg_left (by omega) (by omega)
  omega
 ·rcases Int.lt_or_le y 0 with h | h
  ·have := Int.ediv_neg_of_neg_of_pos h hp; omega
  ·have := Int.ediv_le_self p h; omega
theorem l01Byte_ok (c : List UInt8) (v i : Nat) (h : Int) (hk : CurOk c i h) : CallsH Tryz.prog 53 [.ptr 2000 v 0 0] [(2000, curB c v i h)] (NumPost c v fun x => 0 ≤ x ∧ x ≤ 255) := by
 obtain ⟨hc, hi, r1, r2⟩ := hk
 refine ir_spec_l01Byte.H rfl ?_
 unfold curB
 have W := wrap_rng (IntKind.i64.wrap (h * 6364136223846793005) + 1442695040888963407)
 have F := fun (y p : Int) (hp : 0 < p) => fdiv_rng y p hp
 by_cases hlt : i < c.length
 ·have e := getD_map av c i .top hlt
  generalize c[i] = a at *
  have ha : (a.toNat : Int) ≤ 255 := by have := a.toNat_lt; omega
  simp +contextual -dsimp (maxSteps := 2000000) only [↓SD, SU, SB, simprocAttr, ir_spec_l01Byte, map_len, binw_and, binw_xor, hlt, e, av_u8]
  generalize IntKind.i64.wrap (IntKind.i64.wrap (h * 6364136223846793005) + 1442695040888963407) = g at *
  have X := fun z => and_in z 255 (by omega)
  refine ⟨F _ _ (by decide) W.1 W.2, F _ _ (by decide) W.1 W.2, ?_⟩
  generalize (BitVec.ofInt IntKind.i64.bits _ ^^^ BitVec.ofInt IntKind.i64.bits _).toNat = q at *
  have X1 := X (IntKind.i64.wrap (q : Int))
  generalize IntKind.i64.wrap ((BitVec.ofInt IntKind.i64.bits (IntKind.i64.wrap (q : Int)) &&& BitVec.ofInt IntKind.i64.bits 255).toNat : Int) = z at *
  have X2 := X (z + (a.toNat : Int))
  generalize IntKind.i64.wrap ((BitVec.ofInt IntKind.i64.bits (z + (a.toNat : Int)) &&& BitVec.ofInt IntKind.i64.bits 255).toNat : Int) = x at *
  refine ⟨by omega, by omega, by omega, Goes.post [(2000, curB c v (i + 1) g)] ?_⟩
  unfold curB
  simp +contextual -dsimp (maxSteps := 2000000) only [↓SD, SU, SB, simprocAttr, Int.natCast_add]
  exact ⟨x, i + 1, g, rfl, by omega, ⟨hc, by omega, by omega, by omega⟩, rfl⟩
 ·simp +contextual -dsimp (maxSteps := 2000000) only [↓SD, SU, SB, simprocAttr, ir_spec_l01Byte, map_len, binw_and, binw_xor, hlt]
  generalize IntKind.i64.wrap (IntKind.i64.wrap (h * 6364136223846793005) + 1442695040888963407) = g at *
  have X := fun z => and_in z 255 (by omega)
  refine ⟨F _ _ (by decide) W.1 W.2, F _ _ (by decide) W.1 W.2, ?_⟩
  generalize (BitVec.ofInt IntKind.i64.bits _ ^^^ BitVec.ofInt IntKind.i64.bits _).toNat = q at *
  have X1 := X (IntKind.i64.wrap (q : Int))
  generalize IntKind.i64.wrap ((BitVec.ofInt IntKind.i64.bits (IntKind.i64.wrap (q : Int)) &&& BitVec.ofInt IntKind.i64.bits 255).toNat : Int) = z at *
  refine Goes.post [(2000, curB c v i g)] ?_
  unfold curB
  simp +contextual -dsimp (maxSteps := 2000000) only [↓SD, SU, SB, simprocAttr]
  exact ⟨z, i, g, rfl, by omega, ⟨hc, by omega, by omega, by omega⟩, rfl⟩
def BelP (n x : Int) : Prop := 0 ≤ x ∧ (0 < n → x < n) ∧ (n ≤ 0 → x = 0)
theorem tmod_in {x n : Int} (hx : 0 ≤ x) (hn : 0 < n) : 0 ≤ x.tmod n ∧ x.tmod n < n := ⟨Int.tmod_nonneg _ hx, Int.tmod_lt_of_pos _ hn⟩
theorem curB_frz (c : List UInt8) (u i : Nat) (h : Int) : (curB c u i h).frz = false := eqq rfl
theorem l01Below_ok (c : List UInt8) (v i : Nat) (h : Int) (hk : CurOk c i h) (n : Int) (hn : n ≤ 4294967296) : CallsH Tryz.prog 25 [.ptr 2000 v 0 0, .int .i64 n] [(2000, curB c v i h)] (NumPost c v (BelP n)) := by
 refine ir_spec_l01Below.H rfl ?_
 by_cases h0 : n ≤ 0
 ·simp +contextual -dsimp (maxSteps := 2000000) only [↓SD, SU, SB, simprocAttr, curB_frz, false_and, and_false, ir_spec_l01Below, h0]
  refine Goes.post [(2000, curB c v i h)] ?_
  simp +contextual -dsimp (maxSteps := 2000000) only [↓SD, SU, SB, simprocAttr]
  exact ⟨0, i, h, rfl, ⟨by omega, fun _ => by omega, fun _ => rfl⟩, hk, rfl⟩
 by_cases h1 : n ≤ 256
 ·simp +contextual -dsimp (maxSteps := 2000000) only [↓SD, SU, SB, simprocAttr, curB_frz, false_and, and_false, ir_spec_l01Below, h0, h1]
  refine aCallH_of [2000] (l01Byte_ok c v i h hk) (by simp +contextual -dsimp only [↓SD, SU, SB, simprocAttr]) ?_
  rintro r hp' ⟨x, i', h', rfl, hx, hk', rfl⟩
  have hm := tmod_in (x := x) (n := n) (by omega) (by omega)
  simp +contextual -dsimp (maxSteps := 2000000) only [↓SD, SU, SB, simprocAttr, curB_frz, false_and, and_false]
  refine ⟨by omega, ?_⟩
  refine Goes.post [(2000, curB c v i' h')] ?_
  simp +contextual -dsimp (maxSteps := 2000000) only [↓SD, SU, SB, simprocAttr]
  exact ⟨_, i', h', rfl, ⟨hm.1, fun _ => hm.2, fun _ => by omega⟩, hk', rfl⟩
 ·simp +contextual -dsimp (maxSteps := 2000000) only [↓SD, SU, SB, simprocAttr, curB_frz, false_and, and_false, ir_spec_l01Below, h0, h1]
  refine aCallH_of [2000] (l01Byte_ok c v i h hk) (by simp +contextual -dsimp only [↓SD, SU, SB, simprocAttr]) ?_
  rintro r hp' ⟨x, i', h', rfl, hx, hk', rfl⟩
  simp +contextual -dsimp (maxSteps := 2000000) only [↓SD, SU, SB, simprocAttr, curB_frz, false_and, and_false]
  refine aCallH_of [2000] (l01Byte_ok c v _ _ hk') (by simp +contextual -dsimp only [↓SD, SU, SB, simprocAttr]) ?_
  clear hk'
  rintro r hp' ⟨y, i', h', rfl, hy, hk', rfl⟩
  simp +contextual -dsimp (maxSteps := 2000000) only [↓SD, SU, SB, simprocAttr, curB_frz, false_and, and_false]
  refine aCallH_of [2000] (l01Byte_ok c v _ _ hk') (by simp +contextual -dsimp only [↓SD, SU, SB, simprocAttr]) ?_
  clear hk'
  rintro r hp' ⟨z, i', h', rfl, hz, hk', rfl⟩
  simp +contextual -dsimp (maxSteps := 2000000) only [↓SD, SU, SB, simprocAttr, curB_frz, false_and, and_false]
  refine aCallH_of [2000] (l01Byte_ok c v _ _ hk') (by simp +contextual -dsimp only [↓SD, SU, SB, simprocAttr]) ?_
  clear hk'
  rintro r hp' ⟨u, i', h', rfl, hu, hk', rfl⟩
  have hm := tmod_in (x := x * 16777216 + y * 65536 + z * 256 + u) (n := n) (by omega) (by omega)
  simp +contextual -dsimp (maxSteps := 2000000) only [↓SD, SU, SB, simprocAttr, curB_frz, false_and, and_false]
  (repeat' (first | intro _ | refine And.intro ?_ ?_))
  all_goals first | omega | skip
  refine Goes.post [(2000, curB c v i' h')] ?_
  simp +contextual -dsimp (maxSteps := 2000000) only [↓SD, SU, SB, simprocAttr]
  exact ⟨_, i', h', rfl, ⟨hm.1, fun _ => hm.2, fun _ => by omega⟩, hk', rfl⟩
theorem BelP.in {n x : Int} (h : BelP n x) (hn : 0 < n) : 0 ≤ x ∧ x < n := ⟨h.1, h.2.1 hn⟩
theorem l01Raw_ok (c : List UInt8) (v i : Nat) (h : Int) (hk : CurOk c i h) : CallsH Tryz.prog 55 [.ptr 2000 v 0 0] [(2000, curB c v i h)] (NumPost c v fun x => -9223372036854775808 ≤ x ∧ x ≤ 9223372036854775807) := by
 refine ir_spec_l01Raw.H rfl ?_
 simp +contextual -dsimp (maxSteps := 2000000) only [↓SD, SU, SB, simprocAttr, curB_frz, false_and, and_false, ir_spec_l01Raw]
 (refine aCallH_of [2000] (l01Below_ok c v _ _ hk (11) (by omega)) (by simp +contextual -dsimp only [↓SD, SU, SB, simprocAttr]) ?_; clear hk; rintro r hp' ⟨q, i, h, rfl, hq, hk, rfl⟩)
 obtain ⟨k0, k1⟩ := hq.in (by omega)
 generalize q = k at *
 by_cases a : k < 4
 ·simp +contextual -dsimp (maxSteps := 2000000) only [↓SD, SU, SB, simprocAttr, curB_frz, false_and, and_false, a]
  (refine aCallH_of [2000] (l01Below_ok c v _ _ hk (20) (by omega)) (by simp +contextual -dsimp only [↓SD, SU, SB, simprocAttr]) ?_; clear hk; rintro r hp' ⟨x, i, h, rfl, hx, hk, rfl⟩)
  obtain ⟨x0, x1⟩ := hx.in (by omega)
  simp +contextual -dsimp (maxSteps := 2000000) only [↓SD, SU, SB, simprocAttr, curB_frz, false_and, and_false]
  refine ⟨by omega, ?_⟩
  (refine Goes.post [(2000, curB c v i h)] ?_; simp +contextual -dsimp (maxSteps := 2000000) only [↓SD, SU, SB, simprocAttr]; exact ⟨_, i, h, rfl, ⟨by omega, by omega⟩, hk, rfl⟩)
 by_cases a4 : k = 4
 ·simp +contextual -dsimp (maxSteps := 2000000) only [↓SD, SU, SB, simprocAttr, curB_frz, false_and, and_false, a, a4]
  (refine aCallH_of [2000] (l01Below_ok c v _ _ hk (3) (by omega)) (by simp +contextual -dsimp only [↓SD, SU, SB, simprocAttr]) ?_; clear hk; rintro r hp' ⟨x, i, h, rfl, hx, hk, rfl⟩)
  obtain ⟨x0, x1⟩ := hx.in (by omega)
  simp +contextual -dsimp (maxSteps := 2000000) only [↓SD, SU, SB, simprocAttr, curB_frz, false_and, and_false]
  refine ⟨by omega, ?_⟩
  (refine Goes.post [(2000, curB c v i h)] ?_; simp +contextual -dsimp (maxSteps := 2000000) only [↓SD, SU, SB, simprocAttr]; exact ⟨_, i, h, rfl, ⟨by omega, by omega⟩, hk, rfl⟩)
 by_cases a5 : k = 5
 ·simp +contextual -dsimp (maxSteps := 2000000) only [↓SD, SU, SB, simprocAttr, curB_frz, false_and, and_false, a, a4, a5]
  (refine aCallH_of [2000] (l01Below_ok c v _ _ hk (3) (by omega)) (by simp +contextual -dsimp only [↓SD, SU, SB, simprocAttr]) ?_; clear hk; rintro r hp' ⟨x, i, h, rfl, hx, hk, rfl⟩)
  obtain ⟨x0, x1⟩ := hx.in (by omega)
  simp +contextual -dsimp (maxSteps := 2000000) only [↓SD, SU, SB, simprocAttr, curB_frz, false_and, and_false]
  refine ⟨by omega, ?_⟩
  (refine Goes.post [(2000, curB c v i h)] ?_; simp +contextual -dsimp (maxSteps := 2000000) only [↓SD, SU, SB, simprocAttr]; exact ⟨_, i, h, rfl, ⟨by omega, by omega⟩, hk, rfl⟩)
 by_cases a6 : k = 6
 ·simp +contextual -dsimp (maxSteps := 2000000) only [↓SD, SU, SB, simprocAttr, curB_frz, false_and, and_false, a, a4, a5, a6]
  (refine aCallH_of [2000] (l01Below_ok c v _ _ hk (2) (by omega)) (by simp +contextual -dsimp only [↓SD, SU, SB, simprocAttr]) ?_; clear hk; rintro r hp' ⟨x, i, h, rfl, hx, hk, rfl⟩)
  obtain ⟨x0, x1⟩ := hx.in (by omega)
  simp +contextual -dsimp (maxSteps := 2000000) only [↓SD, SU, SB, simprocAttr, curB_frz, false_and, and_false]
  refine ⟨by omega, ?_⟩
  (refine Goes.post [(2000, curB c v i h)] ?_; simp +contextual -dsimp (maxSteps := 2000000) only [↓SD, SU, SB, simprocAttr]; exact ⟨_, i, h, rfl, ⟨by omega, by omega⟩, hk, rfl⟩)
 by_cases a7 : k = 7
 ·simp +contextual -dsimp (maxSteps := 2000000) only [↓SD, SU, SB, simprocAttr, curB_frz, false_and, and_false, a, a4, a5, a6, a7]
  (refine aCallH_of [2000] (l01Below_ok c v _ _ hk (2) (by omega)) (by simp +contextual -dsimp only [↓SD, SU, SB, simprocAttr]) ?_; clear hk; rintro r hp' ⟨x, i, h, rfl, hx, hk, rfl⟩)
  obtain ⟨x0, x1⟩ := hx.in (by omega)
  simp +contextual -dsimp (maxSteps := 2000000) only [↓SD, SU, SB, simprocAttr, curB_frz, false_and, and_false]
  refine ⟨by omega, ?_⟩
  (refine Goes.post [(2000, curB c v i h)] ?_; simp +contextual -dsimp (maxSteps := 2000000) only [↓SD, SU, SB, simprocAttr]; exact ⟨_, i, h, rfl, ⟨by omega, by omega⟩, hk, rfl⟩)
 by_cases a8 : k = 8
 ·simp +contextual -dsimp (maxSteps := 2000000) only [↓SD, SU, SB, simprocAttr, curB_frz, false_and, and_false, a, a4, a5, a6, a7, a8]
  (refine aCallH_of [2000] (l01Below_ok c v _ _ hk (63) (by omega)) (by simp +contextual -dsimp only [↓SD, SU, SB, simprocAttr]) ?_; clear hk; rintro r hp' ⟨x, i, h, rfl, hx, hk, rfl⟩)
  obtain ⟨x0, x1⟩ := hx.in (by omega)
  simp +contextual -dsimp (maxSteps := 2000000) only [↓SD, SU, SB, simprocAttr, curB_frz, false_and, and_false]
  have W := wrap_rng (1 * 2 ^ min x.toNat IntKind.i64.bits)
  refine ⟨by omega, ?_⟩
  (refine Goes.post [(2000, curB c v i h)] ?_; simp +contextual -dsimp (maxSteps := 2000000) only [↓SD, SU, SB, simprocAttr]; exact ⟨_, i, h, rfl, W, hk, rfl⟩)
 simp +contextual -dsimp (maxSteps := 2000000) only [↓SD, SU, SB, simprocAttr, curB_frz, false_and, and_false, a, a4, a5, a6, a7, a8]
 (refine aCallH_of [2000] (l01Below_ok c v _ _ hk (65536) (by omega)) (by simp +contextual -dsimp only [↓SD, SU, SB, simprocAttr]) ?_; clear hk; rintro r hp' ⟨x, i, h, rfl, hx, hk, rfl⟩)
 obtain ⟨x0, x1⟩ := hx.in (by omega)
 simp +contextual -dsimp (maxSteps := 2000000) only [↓SD, SU, SB, simprocAttr, curB_frz, false_and, and_false]
 refine ⟨by omega, ?_⟩
 (refine aCallH_of [2000] (l01Below_ok c v _ _ hk (65536) (by omega)) (by simp +contextual -dsimp only [↓SD, SU, SB, simprocAttr]) ?_; clear hk; rintro r hp' ⟨y, i, h, rfl, hy, hk, rfl⟩)
 obtain ⟨y0, y1⟩ := hy.in (by omega)
 simp +contextual -dsimp (maxSteps := 2000000) only [↓SD, SU, SB, simprocAttr, curB_frz, false_and, and_false]
 have hm : 0 ≤ x * 65537 * y ∧ x * 65537 * y ≤ 4294967296 * 65536 := ⟨Int.mul_nonneg (by omega) y0, by
  have := Int.mul_le_mul (a := x * 65537) (b := y) (c := 4294967296) (d := 65536) (by omega) (by omega) y0 (by omega)
  exact this⟩
 refine ⟨by omega, ?_⟩
 generalize x * 65537 * y = q at *
 (refine aCallH_of [2000] (l01Below_ok c v _ _ hk (1000) (by omega)) (by simp +contextual -dsimp only [↓SD, SU, SB, simprocAttr]) ?_; clear hk; rintro r hp' ⟨z, i, h, rfl, hz, hk, rfl⟩)
 obtain ⟨z0, z1⟩ := hz.in (by omega)
 simp +contextual -dsimp (maxSteps := 2000000) only [↓SD, SU, SB, simprocAttr, curB_frz, false_and, and_false]
 (repeat' (first | intro _ | refine And.intro ?_ ?_))
 all_goals first | omega | skip
 (refine Goes.post [(2000, curB c v i h)] ?_; simp +contextual -dsimp (maxSteps := 2000000) only [↓SD, SU, SB, simprocAttr]; exact ⟨_, i, h, rfl, ⟨by omega, by omega⟩, hk, rfl⟩)
end Go.Proofs.YteeiaaogmjbcjaaGreat
