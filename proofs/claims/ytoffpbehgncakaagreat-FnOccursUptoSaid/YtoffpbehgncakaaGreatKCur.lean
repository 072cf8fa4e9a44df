/-
 THE CURSOR OF A DRAW: whatever it yields lies within bounds, and it stays a cursor. Conditions: none.
-/
import Derived.Test.YtoffpbehgncakaaGreatKJ06
set_option linter.unusedVariables false
set_option linter.unusedSimpArgs false
set_option maxRecDepth 100000
namespace Go.Proofs.YtoffpbehgncakaaGreat
open Go.RowKit Go.Proofs.YtoffpbehgncakaaGreat.Av Go.Proofs.YtoffpbehgncakaaGreat.Ml
open Go.Proofs.YtoffpbehgncakaaGreat.Av.AVal (av)

theorem NJ (q : IntKind) (a b : Int) {k : AV → Prop} : EO .and (.int q a) (.int q b) k = k (.int q (q.wrap (BitVec.ofInt q.bits a &&& BitVec.ofInt q.bits b).toNat)) := by simp [EO]
theorem Tv (q : IntKind) (a b : Int) {k : AV → Prop} : EO .xor (.int q a) (.int q b) k = k (.int q (q.wrap (BitVec.ofInt q.bits a ^^^ BitVec.ofInt q.bits b).toNat)) := by simp [EO]
theorem Vj (a : Int) (m : Nat) (hm : m < 9223372036854775808) : 0 ≤ IntKind.i64.wrap ((BitVec.ofInt IntKind.i64.bits a &&& BitVec.ofInt IntKind.i64.bits (m : Int)).toNat : Int) ∧ IntKind.i64.wrap ((BitVec.ofInt IntKind.i64.bits a &&& BitVec.ofInt IntKind.i64.bits (m : Int)).toNat : Int) ≤ m := by
 have h1 : (BitVec.ofInt IntKind.i64.bits a &&& BitVec.ofInt IntKind.i64.bits (m : Int)).toNat ≤ m := by
  rw [BitVec.toNat_and]
  refine Nat.le_trans Nat.and_le_right ?_
  show (BitVec.ofInt 64 (m : Int)).toNat ≤ m
  rw [BitVec.toNat_ofInt]
  omega
 rw [IntWalk.i64_in _ (by omega)]
 omega
theorem Q7 (x : Int) : -9223372036854775808 ≤ IntKind.i64.wrap x ∧ IntKind.i64.wrap x ≤ 9223372036854775807 := Dh .i64 x

def BR (c : List UInt8) (v i : Nat) (h : Int) : Box := ⟨v, false, 72, 3, [.agg [.sl (c.map av), .int .i64 i, .int .i64 h]]⟩
def C6 (c : List UInt8) (i : Nat) (h : Int) : Prop := c.length ≤ 1048576 ∧ i ≤ c.length ∧ -9223372036854775808 ≤ h ∧ h ≤ 9223372036854775807 -- 
def Aa6 (c : List UInt8) (r : AV) (hp' : Hp) : Prop := ∃ v i h, r = .ptr 2000 v 0 0 ∧ C6 c i h ∧ hp' = [(2000, BR c v i h)]
def Q6 (c : List UInt8) (v : Nat) (p : Int → Prop) (r : AV) (hp' : Hp) : Prop := ∃ x i h, r = .int .i64 x ∧ p x ∧ C6 c i h ∧ hp' = [(2000, BR c v i h)]
theorem Ye (c : List UInt8) (hc : c.length ≤ 1048576) : AW Tryz.prog 14 [.sl (c.map av)] [] (Aa6 c) := by -- 
 refine IE.H rfl ?_
 simp +contextual -dsimp only [↓SD, SU, simprocAttr, IE, Aa]
 refine ⟨by omega, ?_⟩
 refine AB (X := Nat × Int) (fun x => ⟨[(4, .int .i64 x.1), (3, .int .i64 x.2), (0, .sl (c.map av))], []⟩) (fun x => x.1 ≤ c.length ∧ -1073741823 ≤ x.2 ∧ x.2 ≤ 1073741823) (fun x => c.length - x.1) (0, 792393 + (c.length : Int)) (by simp only; omega) (by simp +contextual -dsimp only [↓SD, SU, simprocAttr]) (by trivial) ?_
 rintro ⟨k, h⟩ ⟨hk, h1, h2⟩
 simp only at hk h1 h2
 by_cases hlt : k < c.length
 ·have e := getD_map av c k .top hlt
  generalize c[k] = a at *
  have ha : (a.toNat : Int) ≤ 255 := by have := a.toNat_lt; omega
  by_cases h4 : (k : Int) < 4000
  ·simp +contextual -dsimp only [↓SD, SU, simprocAttr, hlt, Aa, e, Xn, h4, NJ]
   have A := Vj (h * 139 + (a.toNat : Int) + 3) 1073741823 (by omega)
   generalize IntKind.i64.wrap _ = z at *
   refine ⟨by omega, by omega, by omega, by omega, by omega, ?_⟩
   exact Ai.le ⟨(k + 1, z), ⟨⟨hlt, by simp only; omega⟩, (by first | omega | (simp only; omega))⟩, rfl⟩ (by simp +contextual -dsimp only [↓SD, SU, simprocAttr, Int.natCast_add]) (by trivial)
  ·simp +contextual -dsimp only [↓SD, SU, simprocAttr, hlt, Aa, h4]
   intro v
   refine Ai.post [(2000, BR c v 0 h)] ?_
   unfold BR
   simp +contextual -dsimp only [↓SD, SU, simprocAttr]
   exact ⟨v, 0, h, rfl, ⟨hc, by omega, by omega, by omega⟩, rfl⟩
 ·simp +contextual -dsimp only [↓SD, SU, simprocAttr, hlt, Aa]
  intro v
  refine Ai.post [(2000, BR c v 0 h)] ?_
  unfold BR
  simp +contextual -dsimp only [↓SD, SU, simprocAttr]
  exact ⟨v, 0, h, rfl, ⟨hc, by omega, by omega, by omega⟩, rfl⟩
theorem ZG (y : Int) (p : Int) (hp : 0 < p) (h1 : -9223372036854775808 ≤ y) (h2 : y ≤ 9223372036854775807) : -9223372036854775808 ≤ y.fdiv p ∧ y.fdiv p ≤ 9223372036854775807 := by
 have e : y.fdiv p = y / p := by rw [Int.fdiv_eq_ediv_of_nonneg _ (by omega)]
 rw [e]
 constructor
 ·refine Int.le_ediv_of_mul_le hp ?_
  have : (9223372036854775808 : Int) * 1 ≤ 9223372036854775808 * p := Int.mul_le_mul_of_nonneg_left (by omega) (by omega)
  omega
 ·rcases Int.lt_or_le y 0 with h | h
  ·have := Int.ediv_neg_of_neg_of_pos h hp; omega
  ·have := Int.ediv_le_self p h; omega
theorem FP (c : List UInt8) (v i : Nat) (h : Int) (hk : C6 c i h) : AW Tryz.prog 45 [.ptr 2000 v 0 0] [(2000, BR c v i h)] (Q6 c v fun x => 0 ≤ x ∧ x ≤ 255) := by
 obtain ⟨hc, hi, r1, r2⟩ := hk
 refine Fj.H rfl ?_
 unfold BR
 have W := Q7 (IntKind.i64.wrap (h * 6364136223846793005) + 1442695040888963407)
 have F := fun (y p : Int) (hp : 0 < p) => ZG y p hp
 by_cases hlt : i < c.length
 ·have e := getD_map av c i .top hlt
  generalize c[i] = a at *
  have ha : (a.toNat : Int) ≤ 255 := by have := a.toNat_lt; omega
  simp +contextual -dsimp only [↓SD, SU, simprocAttr, Fj, Aa, NJ, Tv, hlt, e, Xn]
  generalize IntKind.i64.wrap (IntKind.i64.wrap (h * 6364136223846793005) + 1442695040888963407) = g at *
  have X := fun z => Vj z 255 (by omega)
  refine ⟨F _ _ (by decide) W.1 W.2, F _ _ (by decide) W.1 W.2, ?_⟩
  generalize (BitVec.ofInt IntKind.i64.bits _ ^^^ BitVec.ofInt IntKind.i64.bits _).toNat = q at *
  have X1 := X (IntKind.i64.wrap (q : Int))
  generalize IntKind.i64.wrap ((BitVec.ofInt IntKind.i64.bits (IntKind.i64.wrap (q : Int)) &&& BitVec.ofInt IntKind.i64.bits 255).toNat : Int) = z at *
  have X2 := X (z + (a.toNat : Int))
  generalize IntKind.i64.wrap ((BitVec.ofInt IntKind.i64.bits (z + (a.toNat : Int)) &&& BitVec.ofInt IntKind.i64.bits 255).toNat : Int) = x at *
  refine ⟨by omega, by omega, by omega, Ai.post [(2000, BR c v (i + 1) g)] ?_⟩
  unfold BR
  simp +contextual -dsimp only [↓SD, SU, simprocAttr, Int.natCast_add]
  exact ⟨x, i + 1, g, rfl, by omega, ⟨hc, by omega, by omega, by omega⟩, rfl⟩
 ·simp +contextual -dsimp only [↓SD, SU, simprocAttr, Fj, Aa, NJ, Tv, hlt]
  generalize IntKind.i64.wrap (IntKind.i64.wrap (h * 6364136223846793005) + 1442695040888963407) = g at *
  have X := fun z => Vj z 255 (by omega)
  refine ⟨F _ _ (by decide) W.1 W.2, F _ _ (by decide) W.1 W.2, ?_⟩
  generalize (BitVec.ofInt IntKind.i64.bits _ ^^^ BitVec.ofInt IntKind.i64.bits _).toNat = q at *
  have X1 := X (IntKind.i64.wrap (q : Int))
  generalize IntKind.i64.wrap ((BitVec.ofInt IntKind.i64.bits (IntKind.i64.wrap (q : Int)) &&& BitVec.ofInt IntKind.i64.bits 255).toNat : Int) = z at *
  refine Ai.post [(2000, BR c v i g)] ?_
  unfold BR
  simp +contextual -dsimp only [↓SD, SU, simprocAttr]
  exact ⟨z, i, g, rfl, by omega, ⟨hc, by omega, by omega, by omega⟩, rfl⟩
def AbU (n x : Int) : Prop := 0 ≤ x ∧ (0 < n → x < n) ∧ (n ≤ 0 → x = 0)
theorem Vz {x n : Int} (hx : 0 ≤ x) (hn : 0 < n) : 0 ≤ x.tmod n ∧ x.tmod n < n := ⟨Int.tmod_nonneg _ hx, Int.tmod_lt_of_pos _ hn⟩
theorem An (c : List UInt8) (u i : Nat) (h : Int) : (BR c u i h).frz = false := eqq rfl
theorem AJ (c : List UInt8) (v i : Nat) (h : Int) (hk : C6 c i h) (n : Int) (hn : n ≤ 4294967296) : AW Tryz.prog 16 [.ptr 2000 v 0 0, .int .i64 n] [(2000, BR c v i h)] (Q6 c v (AbU n)) := by
 refine DM.H rfl ?_
 by_cases h0 : n ≤ 0
 ·simp +contextual -dsimp only [↓SD, SU, simprocAttr, An, false_and, and_false, DM, h0]
  refine Ai.post [(2000, BR c v i h)] ?_
  simp +contextual -dsimp only [↓SD, SU, simprocAttr]
  exact ⟨0, i, h, rfl, ⟨by omega, fun _ => by omega, fun _ => rfl⟩, hk, rfl⟩
 by_cases h1 : n ≤ 256
 ·simp +contextual -dsimp only [↓SD, SU, simprocAttr, An, false_and, and_false, DM, h0, h1]
  refine Ad [2000] (FP c v i h hk) (by simp +contextual -dsimp only [↓SD, SU, simprocAttr]) ?_
  rintro r hp' ⟨x, i', h', rfl, hx, hk', rfl⟩
  have hm := Vz (x := x) (n := n) (by omega) (by omega)
  simp +contextual -dsimp only [↓SD, SU, simprocAttr, An, false_and, and_false]
  refine ⟨by omega, ?_⟩
  refine Ai.post [(2000, BR c v i' h')] ?_
  simp +contextual -dsimp only [↓SD, SU, simprocAttr]
  exact ⟨_, i', h', rfl, ⟨hm.1, fun _ => hm.2, fun _ => by omega⟩, hk', rfl⟩
 ·simp +contextual -dsimp only [↓SD, SU, simprocAttr, An, false_and, and_false, DM, h0, h1]
  refine Ad [2000] (FP c v i h hk) (by simp +contextual -dsimp only [↓SD, SU, simprocAttr]) ?_
  rintro r hp' ⟨x, i', h', rfl, hx, hk', rfl⟩
  simp +contextual -dsimp only [↓SD, SU, simprocAttr, An, false_and, and_false]
  refine Ad [2000] (FP c v _ _ hk') (by simp +contextual -dsimp only [↓SD, SU, simprocAttr]) ?_
  clear hk'
  rintro r hp' ⟨y, i', h', rfl, hy, hk', rfl⟩
  simp +contextual -dsimp only [↓SD, SU, simprocAttr, An, false_and, and_false]
  refine Ad [2000] (FP c v _ _ hk') (by simp +contextual -dsimp only [↓SD, SU, simprocAttr]) ?_
  clear hk'
  rintro r hp' ⟨z, i', h', rfl, hz, hk', rfl⟩
  simp +contextual -dsimp only [↓SD, SU, simprocAttr, An, false_and, and_false]
  refine Ad [2000] (FP c v _ _ hk') (by simp +contextual -dsimp only [↓SD, SU, simprocAttr]) ?_
  clear hk'
  rintro r hp' ⟨u, i', h', rfl, hu, hk', rfl⟩
  have hm := Vz (x := x * 16777216 + y * 65536 + z * 256 + u) (n := n) (by omega) (by omega)
  simp +contextual -dsimp only [↓SD, SU, simprocAttr, An, false_and, and_false]
  (repeat' (first | intro _ | refine And.intro ?_ ?_))
  all_goals first | omega | skip
  refine Ai.post [(2000, BR c v i' h')] ?_
  simp +contextual -dsimp only [↓SD, SU, simprocAttr]
  exact ⟨_, i', h', rfl, ⟨hm.1, fun _ => hm.2, fun _ => by omega⟩, hk', rfl⟩
theorem AbU.in {n x : Int} (h : AbU n x) (hn : 0 < n) : 0 ≤ x ∧ x < n := ⟨h.1, h.2.1 hn⟩
theorem K9 (c : List UInt8) (v i : Nat) (h : Int) (hk : C6 c i h) : AW Tryz.prog 17 [.ptr 2000 v 0 0] [(2000, BR c v i h)] (Q6 c v fun x => -9223372036854775808 ≤ x ∧ x ≤ 9223372036854775807) := by
 refine ID.H rfl ?_
 simp +contextual -dsimp only [↓SD, SU, simprocAttr, An, false_and, and_false, ID]
 (refine Ad [2000] (AJ c v _ _ hk (11) (by omega)) (by simp +contextual -dsimp only [↓SD, SU, simprocAttr]) ?_; clear hk; rintro r hp' ⟨q, i, h, rfl, hq, hk, rfl⟩)
 obtain ⟨k0, k1⟩ := hq.in (by omega)
 generalize q = k at *
 by_cases a : k < 4
 ·simp +contextual -dsimp only [↓SD, SU, simprocAttr, An, false_and, and_false, a]
  (refine Ad [2000] (AJ c v _ _ hk (20) (by omega)) (by simp +contextual -dsimp only [↓SD, SU, simprocAttr]) ?_; clear hk; rintro r hp' ⟨x, i, h, rfl, hx, hk, rfl⟩)
  obtain ⟨x0, x1⟩ := hx.in (by omega)
  simp +contextual -dsimp only [↓SD, SU, simprocAttr, An, false_and, and_false]
  refine ⟨by omega, ?_⟩
  (refine Ai.post [(2000, BR c v i h)] ?_; simp +contextual -dsimp only [↓SD, SU, simprocAttr]; exact ⟨_, i, h, rfl, ⟨by omega, by omega⟩, hk, rfl⟩)
 by_cases a4 : k = 4
 ·simp +contextual -dsimp only [↓SD, SU, simprocAttr, An, false_and, and_false, a, a4]
  (refine Ad [2000] (AJ c v _ _ hk (3) (by omega)) (by simp +contextual -dsimp only [↓SD, SU, simprocAttr]) ?_; clear hk; rintro r hp' ⟨x, i, h, rfl, hx, hk, rfl⟩)
  obtain ⟨x0, x1⟩ := hx.in (by omega)
  simp +contextual -dsimp only [↓SD, SU, simprocAttr, An, false_and, and_false]
  refine ⟨by omega, ?_⟩
  (refine Ai.post [(2000, BR c v i h)] ?_; simp +contextual -dsimp only [↓SD, SU, simprocAttr]; exact ⟨_, i, h, rfl, ⟨by omega, by omega⟩, hk, rfl⟩)
 by_cases a5 : k = 5
 ·simp +contextual -dsimp only [↓SD, SU, simprocAttr, An, false_and, and_false, a, a4, a5]
  (refine Ad [2000] (AJ c v _ _ hk (3) (by omega)) (by simp +contextual -dsimp only [↓SD, SU, simprocAttr]) ?_; clear hk; rintro r hp' ⟨x, i, h, rfl, hx, hk, rfl⟩)
  obtain ⟨x0, x1⟩ := hx.in (by omega)
  simp +contextual -dsimp only [↓SD, SU, simprocAttr, An, false_and, and_false]
  refine ⟨by omega, ?_⟩
  (refine Ai.post [(2000, BR c v i h)] ?_; simp +contextual -dsimp only [↓SD, SU, simprocAttr]; exact ⟨_, i, h, rfl, ⟨by omega, by omega⟩, hk, rfl⟩)
 by_cases a6 : k = 6
 ·simp +contextual -dsimp only [↓SD, SU, simprocAttr, An, false_and, and_false, a, a4, a5, a6]
  (refine Ad [2000] (AJ c v _ _ hk (2) (by omega)) (by simp +contextual -dsimp only [↓SD, SU, simprocAttr]) ?_; clear hk; rintro r hp' ⟨x, i, h, rfl, hx, hk, rfl⟩)
  obtain ⟨x0, x1⟩ := hx.in (by omega)
  simp +contextual -dsimp only [↓SD, SU, simprocAttr, An, false_and, and_false]
  refine ⟨by omega, ?_⟩
  (refine Ai.post [(2000, BR c v i h)] ?_; simp +contextual -dsimp only [↓SD, SU, simprocAttr]; exact ⟨_, i, h, rfl, ⟨by omega, by omega⟩, hk, rfl⟩)
 by_cases a7 : k = 7
 ·simp +contextual -dsimp only [↓SD, SU, simprocAttr, An, false_and, and_false, a, a4, a5, a6, a7]
  (refine Ad [2000] (AJ c v _ _ hk (2) (by omega)) (by simp +contextual -dsimp only [↓SD, SU, simprocAttr]) ?_; clear hk; rintro r hp' ⟨x, i, h, rfl, hx, hk, rfl⟩)
  obtain ⟨x0, x1⟩ := hx.in (by omega)
  simp +contextual -dsimp only [↓SD, SU, simprocAttr, An, false_and, and_false]
  refine ⟨by omega, ?_⟩
  (refine Ai.post [(2000, BR c v i h)] ?_; simp +contextual -dsimp only [↓SD, SU, simprocAttr]; exact ⟨_, i, h, rfl, ⟨by omega, by omega⟩, hk, rfl⟩)
 by_cases a8 : k = 8
 ·simp +contextual -dsimp only [↓SD, SU, simprocAttr, An, false_and, and_false, a, a4, a5, a6, a7, a8]
  (refine Ad [2000] (AJ c v _ _ hk (63) (by omega)) (by simp +contextual -dsimp only [↓SD, SU, simprocAttr]) ?_; clear hk; rintro r hp' ⟨x, i, h, rfl, hx, hk, rfl⟩)
  obtain ⟨x0, x1⟩ := hx.in (by omega)
  simp +contextual -dsimp only [↓SD, SU, simprocAttr, An, false_and, and_false]
  have W := Q7 (1 * 2 ^ min x.toNat IntKind.i64.bits)
  refine ⟨by omega, ?_⟩
  (refine Ai.post [(2000, BR c v i h)] ?_; simp +contextual -dsimp only [↓SD, SU, simprocAttr]; exact ⟨_, i, h, rfl, W, hk, rfl⟩)
 simp +contextual -dsimp only [↓SD, SU, simprocAttr, An, false_and, and_false, a, a4, a5, a6, a7, a8]
 (refine Ad [2000] (AJ c v _ _ hk (65536) (by omega)) (by simp +contextual -dsimp only [↓SD, SU, simprocAttr]) ?_; clear hk; rintro r hp' ⟨x, i, h, rfl, hx, hk, rfl⟩)
 obtain ⟨x0, x1⟩ := hx.in (by omega)
 simp +contextual -dsimp only [↓SD, SU, simprocAttr, An, false_and, and_false]
 refine ⟨by omega, ?_⟩
 (refine Ad [2000] (AJ c v _ _ hk (65536) (by omega)) (by simp +contextual -dsimp only [↓SD, SU, simprocAttr]) ?_; clear hk; rintro r hp' ⟨y, i, h, rfl, hy, hk, rfl⟩)
 obtain ⟨y0, y1⟩ := hy.in (by omega)
 simp +contextual -dsimp only [↓SD, SU, simprocAttr, An, false_and, and_false]
 have hm : 0 ≤ x * 65537 * y ∧ x * 65537 * y ≤ 4294967296 * 65536 := ⟨Int.mul_nonneg (by omega) y0, by
  have := Int.mul_le_mul (a := x * 65537) (b := y) (c := 4294967296) (d := 65536) (by omega) (by omega) y0 (by omega)
  exact this⟩
 refine ⟨by omega, ?_⟩
 generalize x * 65537 * y = q at *
 (refine Ad [2000] (AJ c v _ _ hk (1000) (by omega)) (by simp +contextual -dsimp only [↓SD, SU, simprocAttr]) ?_; clear hk; rintro r hp' ⟨z, i, h, rfl, hz, hk, rfl⟩)
 obtain ⟨z0, z1⟩ := hz.in (by omega)
 simp +contextual -dsimp only [↓SD, SU, simprocAttr, An, false_and, and_false]
 (repeat' (first | intro _ | refine And.intro ?_ ?_))
 all_goals first | omega | skip
 (refine Ai.post [(2000, BR c v i h)] ?_; simp +contextual -dsimp only [↓SD, SU, simprocAttr]; exact ⟨_, i, h, rfl, ⟨by omega, by omega⟩, hk, rfl⟩)
theorem CFB : type_of% (And.intro @An (And.intro @false_and @and_false)) := (And.intro @An (And.intro @false_and @and_false))
end Go.Proofs.YtoffpbehgncakaaGreat
