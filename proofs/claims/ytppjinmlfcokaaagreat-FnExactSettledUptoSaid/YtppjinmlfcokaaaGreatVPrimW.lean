/-
 NUMBERS OF 63 BITS AND OPERATORS, of both sides, by their abstract texts. Conditions: none.
-/
import Derived.Test.YtppjinmlfcokaaaGreatVJ07
import Derived.Test.YtppjinmlfcokaaaGreatVJ25
import Derived.Test.YtppjinmlfcokaaaGreatVJ38
import Derived.Test.YtppjinmlfcokaaaGreatVJ10
set_option linter.unusedVariables false
set_option linter.unusedSimpArgs false
set_option maxRecDepth 100000
namespace Go.Proofs.YtppjinmlfcokaaaGreat
open Go.RowKit Go.Proofs.YtppjinmlfcokaaaGreat.Av Go.Proofs.YtppjinmlfcokaaaGreat.Ml
open Go.Proofs.YtppjinmlfcokaaaGreat.Av.AVal (av)

def I64 (n : Int) : Prop := -9223372036854775808 ≤ n ∧ n ≤ 9223372036854775807
theorem Aei (n : Int) : I64 (wr n) := by have := GK n; unfold I64; omega
theorem Rb (n : Int) : IntKind.i64.wrap (n * 2) / 2 = wr n := by
 rw [IntKind.wrap_i64]
 unfold wr
 omega
theorem Aa5 (n : Int) : ∃ k, IntKind.i64.wrap n = n + 9223372036854775808 * k := ⟨-2 * ((n + 9223372036854775808) / 18446744073709551616), by rw [IntKind.wrap_i64]; omega⟩
theorem Tb (n : Int) : wr (IntKind.i64.wrap n) = wr n := OD (Aa5 n)
theorem Afh (x : Int) : x.fdiv 2 = x / 2 := Int.fdiv_eq_ediv_of_nonneg _ (by decide)
theorem Ec (n : Int) (h : I64 n) : Ah Tryz.prog 205 [.int .i64 n] (.int .i64 (wr n)) := by
 refine MO.F rfl (by simp; exact BB _) (BB _) ?_
 have e1 : min 1 IntKind.i64.bits = 1 := rfl
 have r := Aei n
 unfold I64 at r
 simp +contextual -dsimp (maxSteps := 2000000) only [↓SD, SU, simprocAttr, MO, e1, Int.pow_one, Afh, Rb]
 exact r
theorem Cg (n : Int) (h : I64 n) : Ah Tryz.prog 176 [.int .i64 n] (.int .i64 (wr n)) := by
 refine Hj.F rfl (by simp; exact BB _) (BB _) ?_
 have e1 : min 1 IntKind.i64.bits = 1 := rfl
 have r := Aei n
 unfold I64 at r
 simp +contextual -dsimp (maxSteps := 2000000) only [↓SD, SU, simprocAttr, Hj, e1, Int.pow_one, Afh, Rb]
 exact r
theorem Ta (x : Int) : I64 (IntKind.i64.wrap x) := Ee .i64 x
theorem V8 (a b : Int) : Ah Tryz.prog 192 [.int .i64 a, .int .i64 b] (.int .i64 (wr (a + b))) := by
 refine MT.F rfl (by simp; exact ⟨BB _, BB _⟩) (BB _) ?_
 have C := Ec _ (Ta (a + b))
 rw [Tb] at C
 simp +contextual -dsimp (maxSteps := 2000000) only [↓SD, SU, simprocAttr, MT]
 refine Aa _ C ?_
 simp +contextual -dsimp (maxSteps := 2000000) only [↓SD, SU, simprocAttr]
theorem V3 (a b : Int) : Ah Tryz.prog 193 [.int .i64 a, .int .i64 b] (.int .i64 (wr (a - b))) := by
 refine MP.F rfl (by simp; exact ⟨BB _, BB _⟩) (BB _) ?_
 have C := Ec _ (Ta (a - b))
 rw [Tb] at C
 simp +contextual -dsimp (maxSteps := 2000000) only [↓SD, SU, simprocAttr, MP]
 refine Aa _ C ?_
 simp +contextual -dsimp (maxSteps := 2000000) only [↓SD, SU, simprocAttr]
theorem V5 (a b : Int) : Ah Tryz.prog 194 [.int .i64 a, .int .i64 b] (.int .i64 (wr (a * b))) := by
 refine MR.F rfl (by simp; exact ⟨BB _, BB _⟩) (BB _) ?_
 have C := Ec _ (Ta (a * b))
 rw [Tb] at C
 simp +contextual -dsimp (maxSteps := 2000000) only [↓SD, SU, simprocAttr, MR]
 refine Aa _ C ?_
 simp +contextual -dsimp (maxSteps := 2000000) only [↓SD, SU, simprocAttr]
theorem Mb (x y : Int) (hx : -4611686018427387904 ≤ x ∧ x ≤ 4611686018427387903) : I64 (x.tdiv y) := by
 have h1 := Int.natAbs_tdiv_le_natAbs x y
 unfold I64
 omega
def Wz (a b : Int) : Int × Bool := if wr b = 0 then (0, false) else (wr ((wr a).tdiv (wr b)), true)
def UZ (a b : Int) : Int × Bool := if wr b = 0 then (0, false) else ((wr a).tmod (wr b), true)
theorem V7 (a b : Int) (ha : I64 a) (hb : I64 b) : Ah Tryz.prog 195 [.int .i64 a, .int .i64 b] (.tup [.int .i64 (Wz a b).1, .bool (Wz a b).2]) := by
 refine MS.F rfl (by simp; exact ⟨BB _, BB _⟩) (Ad.tup (by simp; exact ⟨BB _, Ad.bool _⟩)) ?_
 have CA := Ec a ha
 have CB := Ec b hb
 have CQ := Ec ((wr a).tdiv (wr b)) (Mb _ _ (GK a))
 have ht := Mb (wr a) (wr b) (GK a)
 unfold I64 at ht
 simp +contextual -dsimp (maxSteps := 2000000) only [↓SD, SU, simprocAttr, MS]
 refine Aa _ CA ?_
 simp +contextual -dsimp (maxSteps := 2000000) only [↓SD, SU, simprocAttr]
 refine Aa _ CB ?_
 unfold Wz
 by_cases h : wr b = 0
 ·simp +contextual -dsimp (maxSteps := 2000000) only [↓SD, SU, simprocAttr, h]
 ·simp +contextual -dsimp (maxSteps := 2000000) only [↓SD, SU, simprocAttr, h]
  refine ⟨ht, ?_⟩
  refine Aa _ CQ ?_
  simp +contextual -dsimp (maxSteps := 2000000) only [↓SD, SU, simprocAttr, h]
theorem V4 (a b : Int) (ha : I64 a) (hb : I64 b) : Ah Tryz.prog 196 [.int .i64 a, .int .i64 b] (.tup [.int .i64 (UZ a b).1, .bool (UZ a b).2]) := by
 refine MQ.F rfl (by simp; exact ⟨BB _, BB _⟩) (Ad.tup (by simp; exact ⟨BB _, Ad.bool _⟩)) ?_
 have CA := Ec a ha
 have CB := Ec b hb
 have ht := Tj (wr a) (wr b) (GK a)
 simp +contextual -dsimp (maxSteps := 2000000) only [↓SD, SU, simprocAttr, MQ]
 refine Aa _ CA ?_
 simp +contextual -dsimp (maxSteps := 2000000) only [↓SD, SU, simprocAttr]
 refine Aa _ CB ?_
 unfold UZ
 by_cases h : wr b = 0
 ·simp +contextual -dsimp (maxSteps := 2000000) only [↓SD, SU, simprocAttr, h]
 ·simp +contextual -dsimp (maxSteps := 2000000) only [↓SD, SU, simprocAttr, h]
  omega
theorem Kd (a b : Int) (ha : I64 a) (hb : I64 b) : Ah Tryz.prog 180 [.int .i64 a, .int .i64 b] (.int .i64 (wr (a + b))) := by
 refine MK.F rfl (by simp; exact ⟨BB _, BB _⟩) (BB _) ?_
 have CA := Cg a ha
 have CB := Cg b hb
 have h1 := GK a
 have h2 := GK b
 have C := Cg (wr a + wr b) (by unfold I64; omega)
 rw [Xy] at C
 simp +contextual -dsimp (maxSteps := 2000000) only [↓SD, SU, simprocAttr, MK]
 refine Aa _ CA ?_
 simp +contextual -dsimp (maxSteps := 2000000) only [↓SD, SU, simprocAttr]
 refine Aa _ CB ?_
 simp +contextual -dsimp (maxSteps := 2000000) only [↓SD, SU, simprocAttr]
 refine ⟨by omega, ?_⟩
 refine Aa _ C ?_
 simp +contextual -dsimp (maxSteps := 2000000) only [↓SD, SU, simprocAttr]
theorem Us (a b : Int) (ha : I64 a) (hb : I64 b) : Ah Tryz.prog 181 [.int .i64 a, .int .i64 b] (.int .i64 (wr (a - b))) := by
 refine MG.F rfl (by simp; exact ⟨BB _, BB _⟩) (BB _) ?_
 have CA := Cg a ha
 have CB := Cg b hb
 have h1 := GK a
 have h2 := GK b
 have C := Cg (wr a - wr b) (by unfold I64; omega)
 rw [Afm] at C
 simp +contextual -dsimp (maxSteps := 2000000) only [↓SD, SU, simprocAttr, MG]
 refine Aa _ CA ?_
 simp +contextual -dsimp (maxSteps := 2000000) only [↓SD, SU, simprocAttr]
 refine Aa _ CB ?_
 simp +contextual -dsimp (maxSteps := 2000000) only [↓SD, SU, simprocAttr]
 refine ⟨by omega, ?_⟩
 refine Aa _ C ?_
 simp +contextual -dsimp (maxSteps := 2000000) only [↓SD, SU, simprocAttr]
theorem SO (q : IntKind) (a b : Int) {k : AV → Prop} : He .and (.int q a) (.int q b) k = k (.int q (q.wrap (BitVec.ofInt q.bits a &&& BitVec.ofInt q.bits b).toNat)) := by simp [He]
theorem AaS (z : Int) : IntKind.i64.wrap ((BitVec.ofInt IntKind.i64.bits z &&& BitVec.ofInt IntKind.i64.bits 1).toNat : Int) = z % 2 := by
 have e : (BitVec.ofInt IntKind.i64.bits z &&& BitVec.ofInt IntKind.i64.bits 1).toNat = (z % 2).toNat := by
  rw [BitVec.toNat_and]
  show (BitVec.ofInt 64 z).toNat &&& (BitVec.ofInt 64 1).toNat = _
  rw [BitVec.toNat_ofInt, BitVec.toNat_ofInt]
  show (z % 18446744073709551616).toNat &&& 1 = _
  rw [Nat.and_one_is_mod]
  omega
 rw [e, IntKind.wrap_i64]
 omega
structure MwS where
 i : Nat
 out : Int
 x : Int
theorem Uu (a b : Int) (ha : I64 a) (hb : I64 b) : Ah Tryz.prog 182 [.int .i64 a, .int .i64 b] (.int .i64 (wr (a * b))) := by
 refine MI.F rfl (by simp; exact ⟨BB _, BB _⟩) (BB _) ?_
 have CA := Cg a ha
 simp +contextual -dsimp (maxSteps := 2000000) only [↓SD, SU, simprocAttr, MI]
 refine Aa _ CA ?_
 simp +contextual -dsimp (maxSteps := 2000000) only [↓SD, SU, simprocAttr]
 refine Am (X := MwS) (fun s => ⟨[(1, .int .i64 b), (5, .int .i64 s.out), (6, .int .i64 s.x), (7, .int .i64 s.i)], []⟩) (fun s => s.i ≤ 63 ∧ s.out = wr (a * PW b s.i) ∧ s.x = wr (a * 2 ^ s.i)) (fun s => 63 - s.i) ⟨0, 0, wr a⟩ ⟨Nat.zero_le _, by rw [AbE, Int.mul_zero]; rfl, by rw [Int.pow_zero, Int.mul_one]⟩ (by simp +contextual -dsimp only [↓SD, SU, simprocAttr]) trivial ?_
 rintro ⟨i, out, x⟩ ⟨hi, ho, hx⟩
 dsimp only at hi ho hx ⊢
 have r1 : I64 out := by rw [ho]; exact Aei _
 have r2 : I64 x := by rw [hx]; exact Aei _
 obtain ⟨s1, s2⟩ := GP a b i out x ho hx
 have C2 := Kd x x r2 r2
 rw [s2] at C2
 by_cases hlt : i < 63
 ·have hlt2 : (i : Int) < 63 := by omega
  have em : min i IntKind.i64.bits = i := Nat.min_eq_left (by show i ≤ 64; omega)
  have ef : b.fdiv (2 ^ i) = b / 2 ^ i := Int.fdiv_eq_ediv_of_nonneg _ (Int.le_of_lt (Int.pow_pos (by decide)))
  have hp : (0 : Int) < 2 ^ i := Int.pow_pos (by decide)
  have er : -9223372036854775808 ≤ b / 2 ^ i ∧ b / 2 ^ i ≤ 9223372036854775807 := by
   obtain ⟨q1, q2⟩ := hb
   constructor
   ·refine Int.le_ediv_of_mul_le hp ?_
    have : (9223372036854775808 : Int) * 1 ≤ 9223372036854775808 * 2 ^ i := Int.mul_le_mul_of_nonneg_left (by omega) (by omega)
    omega
   ·rcases Int.lt_or_le b 0 with h | h
    ·have := Int.ediv_neg_of_neg_of_pos h hp; omega
    ·have := Int.ediv_le_self (2 ^ i) h; omega
  have C1 := Kd out x r1 r2
  by_cases h1 : b / 2 ^ i % 2 = 1
  ·rw [if_pos h1] at s1
   rw [s1] at C1
   simp +contextual -dsimp (maxSteps := 2000000) only [↓SD, SU, simprocAttr, hlt2, em, ef, SO, AaS, h1]
   refine ⟨er, ?_⟩
   refine Aa _ C1 ?_
   simp +contextual -dsimp (maxSteps := 2000000) only [↓SD, SU, simprocAttr]
   refine Aa _ C2 ?_
   simp +contextual -dsimp (maxSteps := 2000000) only [↓SD, SU, simprocAttr]
   exact ⟨by omega, Af.le ⟨⟨i + 1, wr (a * PW b (i + 1)), wr (a * 2 ^ (i + 1))⟩, ⟨⟨hlt, rfl, rfl⟩, (by first | omega | (simp only; omega))⟩, rfl⟩ (by simp +contextual -dsimp only [↓SD, SU, simprocAttr, Int.natCast_add]) trivial⟩
  ·rw [if_neg h1] at s1
   simp +contextual -dsimp (maxSteps := 2000000) only [↓SD, SU, simprocAttr, hlt2, em, ef, SO, AaS, h1]
   refine ⟨er, ?_⟩
   refine Aa _ C2 ?_
   simp +contextual -dsimp (maxSteps := 2000000) only [↓SD, SU, simprocAttr]
   exact ⟨by omega, Af.le ⟨⟨i + 1, out, wr (a * 2 ^ (i + 1))⟩, ⟨⟨hlt, s1, rfl⟩, (by first | omega | (simp only; omega))⟩, rfl⟩ (by simp +contextual -dsimp only [↓SD, SU, simprocAttr, Int.natCast_add]) trivial⟩
 ·obtain rfl : i = 63 := by omega
  rw [AeQ] at ho
  simp +contextual -dsimp (maxSteps := 2000000) only [↓SD, SU, simprocAttr, ho]
theorem Uw (a b : Int) (ha : I64 a) (hb : I64 b) : Ah Tryz.prog 183 [.int .i64 a, .int .i64 b] (.tup [.int .i64 (Wz a b).1, .bool (Wz a b).2]) := by
 refine MJ.F rfl (by simp; exact ⟨BB _, BB _⟩) (Ad.tup (by simp; exact ⟨BB _, Ad.bool _⟩)) ?_
 have CA := Cg a ha
 have CB := Cg b hb
 have CQ := Cg ((wr a).tdiv (wr b)) (Mb _ _ (GK a))
 have ht := Mb (wr a) (wr b) (GK a)
 unfold I64 at ht
 simp +contextual -dsimp (maxSteps := 2000000) only [↓SD, SU, simprocAttr, MJ]
 refine Aa _ CA ?_
 simp +contextual -dsimp (maxSteps := 2000000) only [↓SD, SU, simprocAttr]
 refine Aa _ CB ?_
 unfold Wz
 by_cases h : wr b = 0
 ·simp +contextual -dsimp (maxSteps := 2000000) only [↓SD, SU, simprocAttr, h]
 ·simp +contextual -dsimp (maxSteps := 2000000) only [↓SD, SU, simprocAttr, h]
  refine ⟨ht, ?_⟩
  refine Aa _ CQ ?_
  simp +contextual -dsimp (maxSteps := 2000000) only [↓SD, SU, simprocAttr, h]
theorem Ut (a b : Int) (ha : I64 a) (hb : I64 b) : Ah Tryz.prog 184 [.int .i64 a, .int .i64 b] (.tup [.int .i64 (UZ a b).1, .bool (UZ a b).2]) := by
 refine MH.F rfl (by simp; exact ⟨BB _, BB _⟩) (Ad.tup (by simp; exact ⟨BB _, Ad.bool _⟩)) ?_
 have CA := Cg a ha
 have CB := Cg b hb
 have ht := Tj (wr a) (wr b) (GK a)
 have hd := Mb (wr a) (wr b) (GK a)
 have he := Int.mul_tdiv_add_tmod (wr a) (wr b)
 rw [Int.mul_comm] at he
 have h1 := GK a
 unfold I64 at hd
 simp +contextual -dsimp (maxSteps := 2000000) only [↓SD, SU, simprocAttr, MH]
 refine Aa _ CA ?_
 simp +contextual -dsimp (maxSteps := 2000000) only [↓SD, SU, simprocAttr]
 refine Aa _ CB ?_
 unfold UZ
 by_cases h : wr b = 0
 ·simp +contextual -dsimp (maxSteps := 2000000) only [↓SD, SU, simprocAttr, h]
 ·simp +contextual -dsimp (maxSteps := 2000000) only [↓SD, SU, simprocAttr, h]
  generalize (wr a).tdiv (wr b) * wr b = q at *
  refine ⟨hd, by omega, by omega, ?_⟩
  congr 3
  omega
theorem Acl (b : Bool) : Ah Tryz.prog 191 [.bool b] (.tup [.int .i64 (if b = true then 1 else 0), .bool true, .bool true]) := by
 refine KD.F rfl (by simp; exact Ad.bool _) (Ad.tup (by simp; exact ⟨BB _, Ad.bool _⟩)) ?_
 cases b <;> simp +contextual -dsimp (maxSteps := 2000000) only [↓SD, SU, simprocAttr, KD]
theorem Td (v : Int) : Ah Tryz.prog 164 [.int .i64 v] (.str (GL v)) := by
 refine F4.F rfl (by simp; exact BB _) (Ad.str _) ?_
 unfold GL
 by_cases h : v = 1
 ·simp +contextual -dsimp (maxSteps := 2000000) only [↓SD, SU, simprocAttr, F4, h]
 ·simp +contextual -dsimp (maxSteps := 2000000) only [↓SD, SU, simprocAttr, F4, h]
set_option maxHeartbeats 4000000 in
theorem AeF (s : ByteArray) (a b : Int) (ha : I64 a) (hb : I64 b) : Ah Tryz.prog 163 [.str s, .int .i64 a, .int .i64 b] (.tup [.int .i64 (FF s a b).1, .bool (FF s a b).2.1, .bool (FF s a b).2.2]) := by
 refine C7.F rfl (by simp; exact ⟨Ad.str _, BB _, BB _⟩) (Ad.tup (by simp; exact ⟨BB _, Ad.bool _, Ad.bool _⟩)) ?_
 have C1 := V8 a b
 have C2 := V3 a b
 have C3 := V5 a b
 have C4 := V7 a b ha hb
 have C5 := V4 a b ha hb
 have T := fun x : Bool => Acl x
 unfold FF
 by_cases h0 : s = bs [43]
 ·have E0 := eq_true h0
  simp +contextual -dsimp (maxSteps := 2000000) only [↓SD, SU, simprocAttr, C7, E0]
  refine Aa _ C1 ?_
  simp +contextual -dsimp (maxSteps := 2000000) only [↓SD, SU, simprocAttr, E0]
 have E0 := eq_false h0
 by_cases h1 : s = bs [45]
 ·have E1 := eq_true h1
  simp +contextual -dsimp (maxSteps := 2000000) only [↓SD, SU, simprocAttr, C7, E0, E1]
  refine Aa _ C2 ?_
  simp +contextual -dsimp (maxSteps := 2000000) only [↓SD, SU, simprocAttr, E0, E1]
 have E1 := eq_false h1
 by_cases h2 : s = bs [42]
 ·have E2 := eq_true h2
  simp +contextual -dsimp (maxSteps := 2000000) only [↓SD, SU, simprocAttr, C7, E0, E1, E2]
  refine Aa _ C3 ?_
  simp +contextual -dsimp (maxSteps := 2000000) only [↓SD, SU, simprocAttr, E0, E1, E2]
 have E2 := eq_false h2
 by_cases h3 : s = bs [47]
 ·have E3 := eq_true h3
  simp +contextual -dsimp (maxSteps := 2000000) only [↓SD, SU, simprocAttr, C7, E0, E1, E2, E3]
  refine Aa _ C4 ?_
  simp +contextual -dsimp (maxSteps := 2000000) only [↓SD, SU, simprocAttr, E0, E1, E2, E3]
  unfold Wz
  by_cases hz : wr b = 0
  ·simp +contextual -dsimp (maxSteps := 2000000) only [↓SD, SU, simprocAttr, hz]
  ·simp +contextual -dsimp (maxSteps := 2000000) only [↓SD, SU, simprocAttr, hz]
 have E3 := eq_false h3
 by_cases h4 : s = bs [37]
 ·have E4 := eq_true h4
  simp +contextual -dsimp (maxSteps := 2000000) only [↓SD, SU, simprocAttr, C7, E0, E1, E2, E3, E4]
  refine Aa _ C5 ?_
  simp +contextual -dsimp (maxSteps := 2000000) only [↓SD, SU, simprocAttr, E0, E1, E2, E3, E4]
  unfold UZ
  by_cases hz : wr b = 0
  ·simp +contextual -dsimp (maxSteps := 2000000) only [↓SD, SU, simprocAttr, hz]
  ·simp +contextual -dsimp (maxSteps := 2000000) only [↓SD, SU, simprocAttr, hz]
 have E4 := eq_false h4
 by_cases h5 : s = bs [61]
 ·have E5 := eq_true h5
  simp +contextual -dsimp (maxSteps := 2000000) only [↓SD, SU, simprocAttr, C7, E0, E1, E2, E3, E4, E5]
  refine Aa _ (T _) ?_
  simp +contextual -dsimp (maxSteps := 2000000) only [↓SD, SU, simprocAttr, E0, E1, E2, E3, E4, E5]
 have E5 := eq_false h5
 by_cases h6 : s = bs [60, 62]
 ·have E6 := eq_true h6
  simp +contextual -dsimp (maxSteps := 2000000) only [↓SD, SU, simprocAttr, C7, E0, E1, E2, E3, E4, E5, E6]
  refine Aa _ (T _) ?_
  simp +contextual -dsimp (maxSteps := 2000000) only [↓SD, SU, simprocAttr, E0, E1, E2, E3, E4, E5, E6]
  rw [show (if ¬a = b then (1 : Int) else 0) = if a = b then 0 else 1 by split <;> simp_all]
 have E6 := eq_false h6
 by_cases h7 : s = bs [60]
 ·have E7 := eq_true h7
  simp +contextual -dsimp (maxSteps := 2000000) only [↓SD, SU, simprocAttr, C7, E0, E1, E2, E3, E4, E5, E6, E7]
  refine Aa _ (T _) ?_
  simp +contextual -dsimp (maxSteps := 2000000) only [↓SD, SU, simprocAttr, E0, E1, E2, E3, E4, E5, E6, E7]
 have E7 := eq_false h7
 simp +contextual -dsimp (maxSteps := 2000000) only [↓SD, SU, simprocAttr, C7, E0, E1, E2, E3, E4, E5, E6, E7]
 refine Aa _ (T _) ?_
 simp +contextual -dsimp (maxSteps := 2000000) only [↓SD, SU, simprocAttr, E0, E1, E2, E3, E4, E5, E6, E7]
end Go.Proofs.YtppjinmlfcokaaaGreat
