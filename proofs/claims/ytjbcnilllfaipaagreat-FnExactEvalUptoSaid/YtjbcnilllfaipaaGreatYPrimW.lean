/-
 NUMBERS OF 63 BITS AND OPERATORS, of both sides, by their abstract texts. Conditions: none.
-/
import Derived.Test.YtjbcnilllfaipaaGreatYJ06
import Derived.Test.YtjbcnilllfaipaaGreatYJ14
import Derived.Test.YtjbcnilllfaipaaGreatYJ08
set_option linter.unusedVariables false
set_option linter.unusedSimpArgs false
set_option maxRecDepth 100000
namespace Go.Proofs.YtjbcnilllfaipaaGreat
open Go.RowKit Go.Proofs.YtjbcnilllfaipaaGreat.Av Go.Proofs.YtjbcnilllfaipaaGreat.Ml
open Go.Proofs.YtjbcnilllfaipaaGreat.Av.AVal (av)

def I64 (n : Int) : Prop := -9223372036854775808 ≤ n ∧ n ≤ 9223372036854775807
theorem Z7 (n : Int) : I64 (wr n) := by have := Gc n; unfold I64; omega
theorem Qe (n : Int) : IntKind.i64.wrap (n * 2) / 2 = wr n := by
 rw [IntKind.wrap_i64]
 unfold wr
 omega
theorem Y6 (n : Int) : ∃ k, IntKind.i64.wrap n = n + 9223372036854775808 * k := ⟨-2 * ((n + 9223372036854775808) / 18446744073709551616), by rw [IntKind.wrap_i64]; omega⟩
theorem RQ (n : Int) : wr (IntKind.i64.wrap n) = wr n := NN (Y6 n)
theorem Ac9 (x : Int) : x.fdiv 2 = x / 2 := Int.fdiv_eq_ediv_of_nonneg _ (by decide)
theorem DL (n : Int) (h : I64 n) : Ap Tryz.prog 147 [.int .i64 n] (.int .i64 (wr n)) := by
 refine L4.F rfl (by simp; exact BL _) (BL _) ?_
 have e1 : min 1 IntKind.i64.bits = 1 := rfl
 have r := Z7 n
 unfold I64 at r
 simp +contextual -dsimp (maxSteps := 2000000) only [↓SD, SU, simprocAttr, L4, e1, Int.pow_one, Ac9, Qe]
 exact r
theorem Cd (n : Int) (h : I64 n) : Ap Tryz.prog 119 [.int .i64 n] (.int .i64 (wr n)) := by
 refine GM.F rfl (by simp; exact BL _) (BL _) ?_
 have e1 : min 1 IntKind.i64.bits = 1 := rfl
 have r := Z7 n
 unfold I64 at r
 simp +contextual -dsimp (maxSteps := 2000000) only [↓SD, SU, simprocAttr, GM, e1, Int.pow_one, Ac9, Qe]
 exact r
theorem RP (x : Int) : I64 (IntKind.i64.wrap x) := Eb .i64 x
theorem Uw (a b : Int) : Ap Tryz.prog 149 [.int .i64 a, .int .i64 b] (.int .i64 (wr (a + b))) := by
 refine L9.F rfl (by simp; exact ⟨BL _, BL _⟩) (BL _) ?_
 have C := DL _ (RP (a + b))
 rw [RQ] at C
 simp +contextual -dsimp (maxSteps := 2000000) only [↓SD, SU, simprocAttr, L9]
 refine Ab _ C ?_
 simp +contextual -dsimp (maxSteps := 2000000) only [↓SD, SU, simprocAttr]
theorem Ur (a b : Int) : Ap Tryz.prog 150 [.int .i64 a, .int .i64 b] (.int .i64 (wr (a - b))) := by
 refine L5.F rfl (by simp; exact ⟨BL _, BL _⟩) (BL _) ?_
 have C := DL _ (RP (a - b))
 rw [RQ] at C
 simp +contextual -dsimp (maxSteps := 2000000) only [↓SD, SU, simprocAttr, L5]
 refine Ab _ C ?_
 simp +contextual -dsimp (maxSteps := 2000000) only [↓SD, SU, simprocAttr]
theorem Ut (a b : Int) : Ap Tryz.prog 151 [.int .i64 a, .int .i64 b] (.int .i64 (wr (a * b))) := by
 refine L7.F rfl (by simp; exact ⟨BL _, BL _⟩) (BL _) ?_
 have C := DL _ (RP (a * b))
 rw [RQ] at C
 simp +contextual -dsimp (maxSteps := 2000000) only [↓SD, SU, simprocAttr, L7]
 refine Ab _ C ?_
 simp +contextual -dsimp (maxSteps := 2000000) only [↓SD, SU, simprocAttr]
theorem Lr (x y : Int) (hx : -4611686018427387904 ≤ x ∧ x ≤ 4611686018427387903) : I64 (x.tdiv y) := by
 have h1 := Int.natAbs_tdiv_le_natAbs x y
 unfold I64
 omega
def U2 (a b : Int) : Int × Bool := if wr b = 0 then (0, false) else (wr ((wr a).tdiv (wr b)), true)
def TH (a b : Int) : Int × Bool := if wr b = 0 then (0, false) else ((wr a).tmod (wr b), true)
theorem Uv (a b : Int) (ha : I64 a) (hb : I64 b) : Ap Tryz.prog 152 [.int .i64 a, .int .i64 b] (.tup [.int .i64 (U2 a b).1, .bool (U2 a b).2]) := by
 refine L8.F rfl (by simp; exact ⟨BL _, BL _⟩) (Ac.tup (by simp; exact ⟨BL _, Ac.bool _⟩)) ?_
 have CA := DL a ha
 have CB := DL b hb
 have CQ := DL ((wr a).tdiv (wr b)) (Lr _ _ (Gc a))
 have ht := Lr (wr a) (wr b) (Gc a)
 unfold I64 at ht
 simp +contextual -dsimp (maxSteps := 2000000) only [↓SD, SU, simprocAttr, L8]
 refine Ab _ CA ?_
 simp +contextual -dsimp (maxSteps := 2000000) only [↓SD, SU, simprocAttr]
 refine Ab _ CB ?_
 unfold U2
 by_cases h : wr b = 0
 ·simp +contextual -dsimp (maxSteps := 2000000) only [↓SD, SU, simprocAttr, h]
 ·simp +contextual -dsimp (maxSteps := 2000000) only [↓SD, SU, simprocAttr, h]
  refine ⟨ht, ?_⟩
  refine Ab _ CQ ?_
  simp +contextual -dsimp (maxSteps := 2000000) only [↓SD, SU, simprocAttr, h]
theorem Us (a b : Int) (ha : I64 a) (hb : I64 b) : Ap Tryz.prog 153 [.int .i64 a, .int .i64 b] (.tup [.int .i64 (TH a b).1, .bool (TH a b).2]) := by
 refine L6.F rfl (by simp; exact ⟨BL _, BL _⟩) (Ac.tup (by simp; exact ⟨BL _, Ac.bool _⟩)) ?_
 have CA := DL a ha
 have CB := DL b hb
 have ht := RX (wr a) (wr b) (Gc a)
 simp +contextual -dsimp (maxSteps := 2000000) only [↓SD, SU, simprocAttr, L6]
 refine Ab _ CA ?_
 simp +contextual -dsimp (maxSteps := 2000000) only [↓SD, SU, simprocAttr]
 refine Ab _ CB ?_
 unfold TH
 by_cases h : wr b = 0
 ·simp +contextual -dsimp (maxSteps := 2000000) only [↓SD, SU, simprocAttr, h]
 ·simp +contextual -dsimp (maxSteps := 2000000) only [↓SD, SU, simprocAttr, h]
  omega
theorem JJ (a b : Int) (ha : I64 a) (hb : I64 b) : Ap Tryz.prog 77 [.int .i64 a, .int .i64 b] (.int .i64 (wr (a + b))) := by
 refine LZ.F rfl (by simp; exact ⟨BL _, BL _⟩) (BL _) ?_
 have CA := Cd a ha
 have CB := Cd b hb
 have h1 := Gc a
 have h2 := Gc b
 have C := Cd (wr a + wr b) (by unfold I64; omega)
 rw [VW] at C
 simp +contextual -dsimp (maxSteps := 2000000) only [↓SD, SU, simprocAttr, LZ]
 refine Ab _ CA ?_
 simp +contextual -dsimp (maxSteps := 2000000) only [↓SD, SU, simprocAttr]
 refine Ab _ CB ?_
 simp +contextual -dsimp (maxSteps := 2000000) only [↓SD, SU, simprocAttr]
 refine ⟨by omega, ?_⟩
 refine Ab _ C ?_
 simp +contextual -dsimp (maxSteps := 2000000) only [↓SD, SU, simprocAttr]
theorem Te (a b : Int) (ha : I64 a) (hb : I64 b) : Ap Tryz.prog 78 [.int .i64 a, .int .i64 b] (.int .i64 (wr (a - b))) := by
 refine LV.F rfl (by simp; exact ⟨BL _, BL _⟩) (BL _) ?_
 have CA := Cd a ha
 have CB := Cd b hb
 have h1 := Gc a
 have h2 := Gc b
 have C := Cd (wr a - wr b) (by unfold I64; omega)
 rw [Adg] at C
 simp +contextual -dsimp (maxSteps := 2000000) only [↓SD, SU, simprocAttr, LV]
 refine Ab _ CA ?_
 simp +contextual -dsimp (maxSteps := 2000000) only [↓SD, SU, simprocAttr]
 refine Ab _ CB ?_
 simp +contextual -dsimp (maxSteps := 2000000) only [↓SD, SU, simprocAttr]
 refine ⟨by omega, ?_⟩
 refine Ab _ C ?_
 simp +contextual -dsimp (maxSteps := 2000000) only [↓SD, SU, simprocAttr]
theorem Rw (q : IntKind) (a b : Int) {k : AV → Prop} : GI .and (.int q a) (.int q b) k = k (.int q (q.wrap (BitVec.ofInt q.bits a &&& BitVec.ofInt q.bits b).toNat)) := by simp [GI]
theorem YV (z : Int) : IntKind.i64.wrap ((BitVec.ofInt IntKind.i64.bits z &&& BitVec.ofInt IntKind.i64.bits 1).toNat : Int) = z % 2 := by
 have e : (BitVec.ofInt IntKind.i64.bits z &&& BitVec.ofInt IntKind.i64.bits 1).toNat = (z % 2).toNat := by
  rw [BitVec.toNat_and]
  show (BitVec.ofInt 64 z).toNat &&& (BitVec.ofInt 64 1).toNat = _
  rw [BitVec.toNat_ofInt, BitVec.toNat_ofInt]
  show (z % 18446744073709551616).toNat &&& 1 = _
  rw [Nat.and_one_is_mod]
  omega
 rw [e, IntKind.wrap_i64]
 omega
structure MwS where
 i : Nat
 out : Int
 x : Int
theorem Tg (a b : Int) (ha : I64 a) (hb : I64 b) : Ap Tryz.prog 79 [.int .i64 a, .int .i64 b] (.int .i64 (wr (a * b))) := by
 refine LX.F rfl (by simp; exact ⟨BL _, BL _⟩) (BL _) ?_
 have CA := Cd a ha
 simp +contextual -dsimp (maxSteps := 2000000) only [↓SD, SU, simprocAttr, LX]
 refine Ab _ CA ?_
 simp +contextual -dsimp (maxSteps := 2000000) only [↓SD, SU, simprocAttr]
 refine Al (X := MwS) (fun s => ⟨[(1, .int .i64 b), (5, .int .i64 s.out), (6, .int .i64 s.x), (7, .int .i64 s.i)], []⟩) (fun s => s.i ≤ 63 ∧ s.out = wr (a * OQ b s.i) ∧ s.x = wr (a * 2 ^ s.i)) (fun s => 63 - s.i) ⟨0, 0, wr a⟩ ⟨Nat.zero_le _, by rw [ZB, Int.mul_zero]; rfl, by rw [Int.pow_zero, Int.mul_one]⟩ (by simp +contextual -dsimp only [↓SD, SU, simprocAttr]) trivial ?_
 rintro ⟨i, out, x⟩ ⟨hi, ho, hx⟩
 dsimp only at hi ho hx ⊢
 have r1 : I64 out := by rw [ho]; exact Z7 _
 have r2 : I64 x := by rw [hx]; exact Z7 _
 obtain ⟨s1, s2⟩ := Gf a b i out x ho hx
 have C2 := JJ x x r2 r2
 rw [s2] at C2
 by_cases hlt : i < 63
 ·have hlt2 : (i : Int) < 63 := by omega
  have em : min i IntKind.i64.bits = i := Nat.min_eq_left (by show i ≤ 64; omega)
  have ef : b.fdiv (2 ^ i) = b / 2 ^ i := Int.fdiv_eq_ediv_of_nonneg _ (Int.le_of_lt (Int.pow_pos (by decide)))
  have hp : (0 : Int) < 2 ^ i := Int.pow_pos (by decide)
  have er : -9223372036854775808 ≤ b / 2 ^ i ∧ b / 2 ^ i ≤ 9223372036854775807 := by
   obtain ⟨q1, q2⟩ := hb
   constructor
   ·refine Int.le_ediv_of_mul_le hp ?_
    have : (9223372036854775808 : Int) * 1 ≤ 9223372036854775808 * 2 ^ i := Int.mul_le_mul_of_nonneg_left (by omega) (by omega)
    omega
   ·rcases Int.lt_or_le b 0 with h | h
    ·have := Int.ediv_neg_of_neg_of_pos h hp; omega
    ·have := Int.ediv_le_self (2 ^ i) h; omega
  have C1 := JJ out x r1 r2
  by_cases h1 : b / 2 ^ i % 2 = 1
  ·rw [if_pos h1] at s1
   rw [s1] at C1
   simp +contextual -dsimp (maxSteps := 2000000) only [↓SD, SU, simprocAttr, hlt2, em, ef, Rw, YV, h1]
   refine ⟨er, ?_⟩
   refine Ab _ C1 ?_
   simp +contextual -dsimp (maxSteps := 2000000) only [↓SD, SU, simprocAttr]
   refine Ab _ C2 ?_
   simp +contextual -dsimp (maxSteps := 2000000) only [↓SD, SU, simprocAttr]
   exact ⟨by omega, Af.le ⟨⟨i + 1, wr (a * OQ b (i + 1)), wr (a * 2 ^ (i + 1))⟩, ⟨⟨hlt, rfl, rfl⟩, (by first | omega | (simp only; omega))⟩, rfl⟩ (by simp +contextual -dsimp only [↓SD, SU, simprocAttr, Int.natCast_add]) trivial⟩
  ·rw [if_neg h1] at s1
   simp +contextual -dsimp (maxSteps := 2000000) only [↓SD, SU, simprocAttr, hlt2, em, ef, Rw, YV, h1]
   refine ⟨er, ?_⟩
   refine Ab _ C2 ?_
   simp +contextual -dsimp (maxSteps := 2000000) only [↓SD, SU, simprocAttr]
   exact ⟨by omega, Af.le ⟨⟨i + 1, out, wr (a * 2 ^ (i + 1))⟩, ⟨⟨hlt, s1, rfl⟩, (by first | omega | (simp only; omega))⟩, rfl⟩ (by simp +contextual -dsimp only [↓SD, SU, simprocAttr, Int.natCast_add]) trivial⟩
 ·obtain rfl : i = 63 := by omega
  rw [Acw] at ho
  simp +contextual -dsimp (maxSteps := 2000000) only [↓SD, SU, simprocAttr, ho]
theorem Ti (a b : Int) (ha : I64 a) (hb : I64 b) : Ap Tryz.prog 80 [.int .i64 a, .int .i64 b] (.tup [.int .i64 (U2 a b).1, .bool (U2 a b).2]) := by
 refine LY.F rfl (by simp; exact ⟨BL _, BL _⟩) (Ac.tup (by simp; exact ⟨BL _, Ac.bool _⟩)) ?_
 have CA := Cd a ha
 have CB := Cd b hb
 have CQ := Cd ((wr a).tdiv (wr b)) (Lr _ _ (Gc a))
 have ht := Lr (wr a) (wr b) (Gc a)
 unfold I64 at ht
 simp +contextual -dsimp (maxSteps := 2000000) only [↓SD, SU, simprocAttr, LY]
 refine Ab _ CA ?_
 simp +contextual -dsimp (maxSteps := 2000000) only [↓SD, SU, simprocAttr]
 refine Ab _ CB ?_
 unfold U2
 by_cases h : wr b = 0
 ·simp +contextual -dsimp (maxSteps := 2000000) only [↓SD, SU, simprocAttr, h]
 ·simp +contextual -dsimp (maxSteps := 2000000) only [↓SD, SU, simprocAttr, h]
  refine ⟨ht, ?_⟩
  refine Ab _ CQ ?_
  simp +contextual -dsimp (maxSteps := 2000000) only [↓SD, SU, simprocAttr, h]
theorem Tf (a b : Int) (ha : I64 a) (hb : I64 b) : Ap Tryz.prog 81 [.int .i64 a, .int .i64 b] (.tup [.int .i64 (TH a b).1, .bool (TH a b).2]) := by
 refine LW.F rfl (by simp; exact ⟨BL _, BL _⟩) (Ac.tup (by simp; exact ⟨BL _, Ac.bool _⟩)) ?_
 have CA := Cd a ha
 have CB := Cd b hb
 have ht := RX (wr a) (wr b) (Gc a)
 have hd := Lr (wr a) (wr b) (Gc a)
 have he := Int.mul_tdiv_add_tmod (wr a) (wr b)
 rw [Int.mul_comm] at he
 have h1 := Gc a
 unfold I64 at hd
 simp +contextual -dsimp (maxSteps := 2000000) only [↓SD, SU, simprocAttr, LW]
 refine Ab _ CA ?_
 simp +contextual -dsimp (maxSteps := 2000000) only [↓SD, SU, simprocAttr]
 refine Ab _ CB ?_
 unfold TH
 by_cases h : wr b = 0
 ·simp +contextual -dsimp (maxSteps := 2000000) only [↓SD, SU, simprocAttr, h]
 ·simp +contextual -dsimp (maxSteps := 2000000) only [↓SD, SU, simprocAttr, h]
  generalize (wr a).tdiv (wr b) * wr b = q at *
  refine ⟨hd, by omega, by omega, ?_⟩
  congr 3
  omega
theorem Aae (b : Bool) : Ap Tryz.prog 148 [.bool b] (.tup [.int .i64 (if b = true then 1 else 0), .bool true, .bool true]) := by
 refine Kg.F rfl (by simp; exact Ac.bool _) (Ac.tup (by simp; exact ⟨BL _, Ac.bool _⟩)) ?_
 cases b <;> simp +contextual -dsimp (maxSteps := 2000000) only [↓SD, SU, simprocAttr, Kg]
theorem RT (v : Int) : Ap Tryz.prog 133 [.int .i64 v] (.str (PV v)) := by
 refine FO.F rfl (by simp; exact BL _) (Ac.str _) ?_
 unfold PV
 by_cases h : v = 1
 ·simp +contextual -dsimp (maxSteps := 2000000) only [↓SD, SU, simprocAttr, FO, h]
 ·simp +contextual -dsimp (maxSteps := 2000000) only [↓SD, SU, simprocAttr, FO, h]
set_option maxHeartbeats 4000000 in
theorem Acj (s : ByteArray) (a b : Int) (ha : I64 a) (hb : I64 b) : Ap Tryz.prog 132 [.str s, .int .i64 a, .int .i64 b] (.tup [.int .i64 (ET s a b).1, .bool (ET s a b).2.1, .bool (ET s a b).2.2]) := by
 refine CZ.F rfl (by simp; exact ⟨Ac.str _, BL _, BL _⟩) (Ac.tup (by simp; exact ⟨BL _, Ac.bool _, Ac.bool _⟩)) ?_
 have C1 := Uw a b
 have C2 := Ur a b
 have C3 := Ut a b
 have C4 := Uv a b ha hb
 have C5 := Us a b ha hb
 have T := fun x : Bool => Aae x
 unfold ET
 by_cases h0 : s = bs [43]
 ·have E0 := eq_true h0
  simp +contextual -dsimp (maxSteps := 2000000) only [↓SD, SU, simprocAttr, CZ, E0]
  refine Ab _ C1 ?_
  simp +contextual -dsimp (maxSteps := 2000000) only [↓SD, SU, simprocAttr, E0]
 have E0 := eq_false h0
 by_cases h1 : s = bs [45]
 ·have E1 := eq_true h1
  simp +contextual -dsimp (maxSteps := 2000000) only [↓SD, SU, simprocAttr, CZ, E0, E1]
  refine Ab _ C2 ?_
  simp +contextual -dsimp (maxSteps := 2000000) only [↓SD, SU, simprocAttr, E0, E1]
 have E1 := eq_false h1
 by_cases h2 : s = bs [42]
 ·have E2 := eq_true h2
  simp +contextual -dsimp (maxSteps := 2000000) only [↓SD, SU, simprocAttr, CZ, E0, E1, E2]
  refine Ab _ C3 ?_
  simp +contextual -dsimp (maxSteps := 2000000) only [↓SD, SU, simprocAttr, E0, E1, E2]
 have E2 := eq_false h2
 by_cases h3 : s = bs [47]
 ·have E3 := eq_true h3
  simp +contextual -dsimp (maxSteps := 2000000) only [↓SD, SU, simprocAttr, CZ, E0, E1, E2, E3]
  refine Ab _ C4 ?_
  simp +contextual -dsimp (maxSteps := 2000000) only [↓SD, SU, simprocAttr, E0, E1, E2, E3]
  unfold U2
  by_cases hz : wr b = 0
  ·simp +contextual -dsimp (maxSteps := 2000000) only [↓SD, SU, simprocAttr, hz]
  ·simp +contextual -dsimp (maxSteps := 2000000) only [↓SD, SU, simprocAttr, hz]
 have E3 := eq_false h3
 by_cases h4 : s = bs [37]
 ·have E4 := eq_true h4
  simp +contextual -dsimp (maxSteps := 2000000) only [↓SD, SU, simprocAttr, CZ, E0, E1, E2, E3, E4]
  refine Ab _ C5 ?_
  simp +contextual -dsimp (maxSteps := 2000000) only [↓SD, SU, simprocAttr, E0, E1, E2, E3, E4]
  unfold TH
  by_cases hz : wr b = 0
  ·simp +contextual -dsimp (maxSteps := 2000000) only [↓SD, SU, simprocAttr, hz]
  ·simp +contextual -dsimp (maxSteps := 2000000) only [↓SD, SU, simprocAttr, hz]
 have E4 := eq_false h4
 by_cases h5 : s = bs [61]
 ·have E5 := eq_true h5
  simp +contextual -dsimp (maxSteps := 2000000) only [↓SD, SU, simprocAttr, CZ, E0, E1, E2, E3, E4, E5]
  refine Ab _ (T _) ?_
  simp +contextual -dsimp (maxSteps := 2000000) only [↓SD, SU, simprocAttr, E0, E1, E2, E3, E4, E5]
 have E5 := eq_false h5
 by_cases h6 : s = bs [60, 62]
 ·have E6 := eq_true h6
  simp +contextual -dsimp (maxSteps := 2000000) only [↓SD, SU, simprocAttr, CZ, E0, E1, E2, E3, E4, E5, E6]
  refine Ab _ (T _) ?_
  simp +contextual -dsimp (maxSteps := 2000000) only [↓SD, SU, simprocAttr, E0, E1, E2, E3, E4, E5, E6]
  rw [show (if ¬a = b then (1 : Int) else 0) = if a = b then 0 else 1 by split <;> simp_all]
 have E6 := eq_false h6
 by_cases h7 : s = bs [60]
 ·have E7 := eq_true h7
  simp +contextual -dsimp (maxSteps := 2000000) only [↓SD, SU, simprocAttr, CZ, E0, E1, E2, E3, E4, E5, E6, E7]
  refine Ab _ (T _) ?_
  simp +contextual -dsimp (maxSteps := 2000000) only [↓SD, SU, simprocAttr, E0, E1, E2, E3, E4, E5, E6, E7]
 have E7 := eq_false h7
 simp +contextual -dsimp (maxSteps := 2000000) only [↓SD, SU, simprocAttr, CZ, E0, E1, E2, E3, E4, E5, E6, E7]
 refine Ab _ (T _) ?_
 simp +contextual -dsimp (maxSteps := 2000000) only [↓SD, SU, simprocAttr, E0, E1, E2, E3, E4, E5, E6, E7]
end Go.Proofs.YtjbcnilllfaipaaGreat
