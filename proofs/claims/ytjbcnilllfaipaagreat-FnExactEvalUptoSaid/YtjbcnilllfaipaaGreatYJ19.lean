/-
  THE ABSTRACT TEXTS OF FUNCTIONS (Num), printed by irgen.py, and that they are the functions' own. Conditions: none.
-/
import Derived.Test.YtjbcnilllfaipaaGreatProg
import Derived.Test.YtjbcnilllfaipaaGreatYAvDraw
import Derived.Test.YtjbcnilllfaipaaGreatYJ06
import Derived.Test.YtjbcnilllfaipaaGreatYJ08
import Derived.Test.YtjbcnilllfaipaaGreatYPrimW
import Derived.Test.YtjbcnilllfaipaaGreatYJ14
import Derived.Test.YtjbcnilllfaipaaGreatYEvS
import Derived.Test.YtjbcnilllfaipaaGreatYGProg
import Derived.Test.YtjbcnilllfaipaaGreatYJ07
import Derived.Test.YtjbcnilllfaipaaGreatYIrEvS
set_option linter.unusedVariables false
set_option maxRecDepth 100000
namespace Go.Proofs.YtjbcnilllfaipaaGreat
open Go.Proofs.YtjbcnilllfaipaaGreat.Av

theorem Gj : Tryz.prog.follows .mixedOrders = true := by kernel_rfl

def FL : Ir Tryz.prog 140 [] [] 1 := ⟨_, _, Tryz.func140, Gj, by kernel_rfl, Ag [] Tryz.progTables (by conv => lhs; cbv) (by kernel_rfl)⟩
def Jo : Ir Tryz.prog 118 [] [] 1 := ⟨_, _, Tryz.func118, Gj, by kernel_rfl, Ag [] Tryz.progTables (by conv => lhs; cbv) (by kernel_rfl)⟩
def Es : Ir Tryz.prog 166 [] [9999] 1 := ⟨_, _, Tryz.func166, Gj, by kernel_rfl, Ag [] Tryz.progTables (by conv => lhs; cbv) (by kernel_rfl)⟩
def Ki : Ir Tryz.prog 161 [(22, 7777)] [] 1 := ⟨_, _, Tryz.func161, Gj, by kernel_rfl, Ag [] Tryz.progTables (by conv => lhs; cbv) (by kernel_rfl)⟩
def Fl : Ir Tryz.prog 146 [] [] 1 := ⟨_, _, Tryz.func146, Gj, by kernel_rfl, Ag [] Tryz.progTables (by conv => lhs; cbv) (by kernel_rfl)⟩
end Go.Proofs.YtjbcnilllfaipaaGreat
set_option linter.unusedVariables false
set_option linter.unusedSimpArgs false
set_option maxRecDepth 100000
namespace Go.Proofs.YtjbcnilllfaipaaGreat
open Go.RowKit Go.Proofs.YtjbcnilllfaipaaGreat.Av Go.Proofs.YtjbcnilllfaipaaGreat.Ml
open Go.Proofs.YtjbcnilllfaipaaGreat.Av.AVal (av)

theorem LQ (k : Nat) : k ≤ 9223372036854775808 → Ap Tryz.prog 140 [.int .i64 (-(k : Int))] (.str (HX k)) := by
 induction k using Nat.strongRecOn with
 | _ k ih =>
  intro hk
  refine FL.F rfl (by simp; exact BL _) (Ac.str _) ?_
  by_cases h10 : k < 10
  ·have h1 : -10 < -(k : Int) := by omega
   have h2 : (48 : Int) - -(k : Int) = ((48 + k : Nat) : Int) := by omega
   rw [Ps h10]
   simp +contextual -dsimp only [↓SD, SU, Nat.reduceAdd, Nat.reduceBEq, Nat.reduceEqDiff, Nat.reduceLeDiff, Nat.reduceLT, Nat.reduceSub, ↓reduceIte, reduceCtorEq, Int.reduceToNat, Int.reduceEq, Int.reduceLT, Int.reduceLE, Int.reduceNeg, Int.reduceAdd, Int.reduceSub, FL, h1]
   refine ⟨by omega, by omega, ?_⟩
   refine SR _ _ [UInt8.ofNat (48 + k)] rfl (by rw [List.map_cons, List.map_nil, NY _ (by omega), ← h2]) ?_
   simp +contextual -dsimp only [↓SD, SU, Nat.reduceAdd, Nat.reduceBEq, Nat.reduceEqDiff, Nat.reduceLeDiff, Nat.reduceLT, Nat.reduceSub, ↓reduceIte, reduceCtorEq, Int.reduceToNat]
  ·have h1 : ¬ -10 < -(k : Int) := by omega
   have h2 : (-(k : Int)).tdiv 10 = -((k / 10 : Nat) : Int) := by rw [Int.neg_tdiv, Int.tdiv_eq_ediv_of_nonneg (by omega)]; rfl
   have h3 : (-(k : Int)).tmod 10 = -((k % 10 : Nat) : Int) := by rw [Int.neg_tmod, Int.tmod_eq_emod_of_nonneg (by omega)]; rfl
   have h4 : (48 : Int) - -((k % 10 : Nat) : Int) = ((48 + k % 10 : Nat) : Int) := by omega
   have C := ih (k / 10) (by omega) (by omega)
   have hs := KC (k / 10) (by omega)
   rw [Pt h10]
   simp +contextual -dsimp only [↓SD, SU, Nat.reduceAdd, Nat.reduceBEq, Nat.reduceEqDiff, Nat.reduceLeDiff, Nat.reduceLT, Nat.reduceSub, ↓reduceIte, reduceCtorEq, Int.reduceToNat, Int.reduceEq, Int.reduceLT, Int.reduceLE, Int.reduceNeg, Int.reduceAdd, Int.reduceSub, FL, h1, h2, h3]
   refine ⟨by omega, ?_⟩
   refine Ab _ C ?_
   simp +contextual -dsimp only [↓SD, SU, Nat.reduceAdd, Nat.reduceBEq, Nat.reduceEqDiff, Nat.reduceLeDiff, Nat.reduceLT, Nat.reduceSub, ↓reduceIte, reduceCtorEq, Int.reduceToNat, Int.reduceEq, Int.reduceLT, Int.reduceLE, Int.reduceNeg, Int.reduceAdd, Int.reduceSub, h3, h4]
   refine ⟨by omega, by omega, by omega, ?_⟩
   refine SR _ _ [UInt8.ofNat (48 + k % 10)] rfl (by rw [List.map_cons, List.map_nil, NY _ (by omega)]) ?_
   simp +contextual -dsimp only [↓SD, SU, Nat.reduceAdd, Nat.reduceBEq, Nat.reduceEqDiff, Nat.reduceLeDiff, Nat.reduceLT, Nat.reduceSub, ↓reduceIte, reduceCtorEq, Int.reduceToNat]
   have h5 : (⟨[UInt8.ofNat (48 + k % 10)].toArray⟩ : ByteArray).size = 1 := rfl
   unfold maxLen; omega
theorem Hm (n : Int) (h : -9223372036854775808 ≤ n ∧ n ≤ 9223372036854775807) : (IntKind.i64.wrap (n * 2) / 2 = n) ↔ (-4611686018427387904 ≤ n ∧ n ≤ 4611686018427387903) := by
 rw [IntKind.wrap_i64]
 omega
theorem Tc (n : Int) (h : -9223372036854775808 ≤ n ∧ n ≤ 9223372036854775807) : Ap Tryz.prog 119 [.int .i64 n] (.int .i64 (IntKind.i64.wrap (n * 2) / 2)) := by
 refine GM.F rfl (by simp; exact BL _) (BL _) ?_
 have e1 : min 1 IntKind.i64.bits = 1 := rfl
 have e2 : ∀ x : Int, x.fdiv (2 ^ 1) = x / 2 := fun x => by rw [Int.fdiv_eq_ediv_of_nonneg _ (by decide)]; rfl
 have e3 : n * 2 ^ 1 = n * 2 := rfl
 simp +contextual -dsimp only [↓SD, SU, Nat.reduceAdd, Nat.reduceBEq, Nat.reduceEqDiff, Nat.reduceLeDiff, Nat.reduceLT, Nat.reduceSub, ↓reduceIte, reduceCtorEq, Int.reduceToNat, Int.reduceEq, Int.reduceLT, Int.reduceLE, Int.reduceNeg, Int.reduceAdd, Int.reduceSub, GM, e1, e2, e3]
 rw [IntKind.wrap_i64]
 omega
theorem N7 (n : Int) (hn : -9223372036854775808 ≤ n ∧ n ≤ 9223372036854775807) : Ap Tryz.prog 118 [.int .i64 n] (.str (HR n)) := by
 refine Jo.F rfl (by simp; exact BL _) (Ac.str _) ?_
 have C := Tc n hn
 have W := Hm n hn
 simp +contextual -dsimp only [↓SD, SU, Nat.reduceAdd, Nat.reduceBEq, Nat.reduceEqDiff, Nat.reduceLeDiff, Nat.reduceLT, Nat.reduceSub, ↓reduceIte, reduceCtorEq, Int.reduceToNat, Int.reduceEq, Int.reduceLT, Int.reduceLE, Int.reduceNeg, Int.reduceAdd, Int.reduceSub, Jo]
 refine Ab _ C ?_
 by_cases hin : -4611686018427387904 ≤ n ∧ n ≤ 4611686018427387903
 ·have hw := W.2 hin
  by_cases h0 : n < 0
  ·have hS : HR n = ⟨#[45]⟩ ++ HX (-n).toNat := by unfold HR; rw [if_pos hin, if_pos h0]
   obtain ⟨k, rfl⟩ : ∃ k : Nat, n = -(k : Int) := ⟨(-n).toNat, by omega⟩
   have hs := KC k (by omega)
   have hk : (-(-(k : Int))).toNat = k := by omega
   rw [hS, hk]
   simp +contextual -dsimp only [↓SD, SU, Nat.reduceAdd, Nat.reduceBEq, Nat.reduceEqDiff, Nat.reduceLeDiff, Nat.reduceLT, Nat.reduceSub, ↓reduceIte, reduceCtorEq, Int.reduceToNat, Int.reduceEq, Int.reduceLT, Int.reduceLE, Int.reduceNeg, Int.reduceAdd, Int.reduceSub, hw, h0]
   refine Ab _ (LQ k (by omega)) ?_
   have hb : bs [45] = (⟨#[45]⟩ : ByteArray) := rfl
   simp +contextual -dsimp only [↓SD, SU, Nat.reduceAdd, Nat.reduceBEq, Nat.reduceEqDiff, Nat.reduceLeDiff, Nat.reduceLT, Nat.reduceSub, ↓reduceIte, reduceCtorEq, Int.reduceToNat, Int.reduceEq, Int.reduceLT, Int.reduceLE, Int.reduceNeg, Int.reduceAdd, Int.reduceSub, hb]
   have h1 : (⟨#[45]⟩ : ByteArray).size = 1 := rfl
   unfold maxLen; omega
  ·have hS : HR n = HX n.toNat := by unfold HR; rw [if_pos hin, if_neg h0]
   obtain ⟨k, rfl⟩ : ∃ k : Nat, n = (k : Int) := ⟨n.toNat, by omega⟩
   rw [hS, Int.toNat_natCast]
   simp +contextual -dsimp only [↓SD, SU, Nat.reduceAdd, Nat.reduceBEq, Nat.reduceEqDiff, Nat.reduceLeDiff, Nat.reduceLT, Nat.reduceSub, ↓reduceIte, reduceCtorEq, Int.reduceToNat, Int.reduceEq, Int.reduceLT, Int.reduceLE, Int.reduceNeg, Int.reduceAdd, Int.reduceSub, hw, h0]
   refine ⟨by omega, ?_⟩
   refine Ab _ (LQ k (by omega)) ?_
   simp +contextual -dsimp only [↓SD, SU, Nat.reduceAdd, Nat.reduceBEq, Nat.reduceEqDiff, Nat.reduceLeDiff, Nat.reduceLT, Nat.reduceSub, ↓reduceIte, reduceCtorEq, Int.reduceToNat, Int.reduceEq, Int.reduceLT, Int.reduceLE, Int.reduceNeg, Int.reduceAdd, Int.reduceSub]
 ·have hw : ¬ IntKind.i64.wrap (n * 2) / 2 = n := fun h => hin (W.1 h)
  have hS : HR n = ⟨#[]⟩ := by unfold HR; rw [if_neg hin]
  rw [hS]
  simp +contextual -dsimp only [↓SD, SU, Nat.reduceAdd, Nat.reduceBEq, Nat.reduceEqDiff, Nat.reduceLeDiff, Nat.reduceLT, Nat.reduceSub, ↓reduceIte, reduceCtorEq, Int.reduceToNat, Int.reduceEq, Int.reduceLT, Int.reduceLE, Int.reduceNeg, Int.reduceAdd, Int.reduceSub, hw]
  first | done | rfl

def AcW (k v : Nat) (l : List UInt8) (r : AV) (hp' : Hp) : Prop := r = .tup [] ∧ hp' = [(k, ⟨v, false, 5, 1, l.reverse.map av⟩)]
theorem VO (k v : Nat) (l : List UInt8) (hl : l.length ≤ 1099511627776) : Ay Tryz.prog 166 [.row k v l.length] [(k, ⟨v, false, 5, 1, l.map av⟩)] (AcW k v l) := by
 refine Es.H rfl ?_
 simp +contextual -dsimp only [↓SD, SU, Nat.reduceAdd, Nat.reduceBEq, Nat.reduceEqDiff, Nat.reduceLeDiff, Nat.reduceLT, Nat.reduceSub, ↓reduceIte, reduceCtorEq, Int.reduceToNat, Int.reduceEq, Int.reduceLT, Int.reduceLE, Int.reduceNeg, Int.reduceAdd, Int.reduceSub, Es, Aa]
 refine ⟨by omega, ?_⟩
 refine Al (X := Nat) (fun i => ⟨[(0, .row k v l.length), (2, .int .i64 i), (3, .int .i64 ((l.length : Int) - 1 - i))], [(k, ⟨v, false, 5, 1, (DP 0 l i).map av⟩)]⟩) (fun i => 2 * i ≤ l.length + 1) (fun i => l.length - i) 0 (by simp) (by simp +contextual -dsimp only [↓SD, SU, Nat.reduceAdd, Nat.reduceBEq, Nat.reduceEqDiff, Nat.reduceLeDiff, Nat.reduceLT, Nat.reduceSub, ↓reduceIte, reduceCtorEq, Int.reduceToNat, Int.natCast_zero, Int.sub_zero]) (by simp +contextual -dsimp only [↓SD, SU, Nat.reduceAdd, Nat.reduceBEq, Nat.reduceEqDiff, Nat.reduceLeDiff, Nat.reduceLT, Nat.reduceSub, ↓reduceIte, reduceCtorEq, Int.reduceToNat, VY]) ?_
 rintro i hi
 by_cases hlt : 2 * i + 1 < l.length
 ·have h1 : (i : Int) < (l.length : Int) - 1 - i := by omega
  obtain ⟨j, hj⟩ : ∃ j : Nat, j = l.length - 1 - i := ⟨_, rfl⟩
  have h2 : ((l.length : Int) - 1 - i) = (j : Int) := by omega
  have hjl : j < l.length := by omega
  have hil : i < l.length := by omega
  have ei := getD_map av (DP 0 l i) i .top (by rw [F3]; omega)
  have ej := getD_map av (DP 0 l i) j .top (by rw [F3]; omega)
  rw [ME 0 l hil (by omega) (by omega)] at ei
  rw [ME 0 l hjl (by omega) (by omega)] at ej
  have hst := VZ 0 l hlt
  rw [h2] at h1
  have hne : i ≠ j := by omega
  have es : ((DP 0 l i).map av).set i (.int .u8 l[j].toNat) = ((DP 0 l i).set i l[j]).map av := by rw [List.map_set]; rfl
  have ej2 := getD_map av ((DP 0 l i).set i l[j]) j .top (by rw [List.length_set, F3]; omega)
  rw [List.getElem_set, if_neg hne, ME 0 l hjl (by omega) (by omega)] at ej2
  have es2 : (((DP 0 l i).set i l[j]).map av).set j (.int .u8 l[i].toNat) = (((DP 0 l i).set i l[j]).set j l[i]).map av := by simp only [List.map_set]; rfl
  have hst2 : ((DP 0 l i).set i l[j]).set j l[i] = DP 0 l (i + 1) := by subst hj; exact hst
  rw [hst2] at es2
  have hlen : ((DP 0 l i).set i l[j]).length = l.length := by rw [List.length_set, F3]
  simp +contextual -dsimp only [↓SD, SU, Nat.reduceAdd, Nat.reduceBEq, Nat.reduceEqDiff, Nat.reduceLeDiff, Nat.reduceLT, Nat.reduceSub, ↓reduceIte, reduceCtorEq, Int.reduceToNat, Aa, F3, h1, h2, hil, hjl, ei, ej, Ada, es, ej2, es2, hlen]
  refine ⟨by omega, by omega, Af.le ⟨i + 1, ⟨by omega, (by first | omega | (simp only; omega))⟩, rfl⟩ ?_ (by simp +contextual -dsimp only [↓SD, SU, Nat.reduceAdd, Nat.reduceBEq, Nat.reduceEqDiff, Nat.reduceLeDiff, Nat.reduceLT, Nat.reduceSub, ↓reduceIte, reduceCtorEq, Int.reduceToNat])⟩
  have h3 : (l.length : Int) - 1 - ((i : Int) + 1) = (j : Int) - 1 := by omega
  simp +contextual -dsimp only [↓SD, SU, Nat.reduceAdd, Nat.reduceBEq, Nat.reduceEqDiff, Nat.reduceLeDiff, Nat.reduceLT, Nat.reduceSub, ↓reduceIte, reduceCtorEq, Int.reduceToNat, Int.natCast_add, h3]
 ·have h1 : ¬ (i : Int) < (l.length : Int) - 1 - i := by omega
  simp +contextual -dsimp only [↓SD, SU, Nat.reduceAdd, Nat.reduceBEq, Nat.reduceEqDiff, Nat.reduceLeDiff, Nat.reduceLT, Nat.reduceSub, ↓reduceIte, reduceCtorEq, Int.reduceToNat, Aa, F3, h1]
  refine Af.post [(k, ⟨v, false, 5, 1, l.reverse.map av⟩)] ?_
  rw [Zb 0 l (by omega)]
  simp +contextual -dsimp only [↓SD, SU, Nat.reduceAdd, Nat.reduceBEq, Nat.reduceEqDiff, Nat.reduceLeDiff, Nat.reduceLT, Nat.reduceSub, ↓reduceIte, reduceCtorEq, Int.reduceToNat]
  exact ⟨rfl, rfl⟩

theorem Z1 {hp : Hp} {k v n : Nat} {b : Box} (hk : Aw hp k = some b) (hv : b.ver = v) (hn : n = b.es.length) : GH hp (.row k v n) = some b.es := by
 unfold GH
 simp only [hk, hv, hn, true_and, Nat.le_refl, if_true, List.take_length]
structure DS where
 m : Nat
 l : List UInt8
 v : Nat
def VT (N : Nat) (x : DS) : Prop := x.m ≤ N ∧ ((0 < x.m ∨ x.l = []) → dig N = dig x.m ++ x.l.reverse) ∧ (x.m = 0 → x.l ≠ [] → dig N = x.l.reverse)
theorem Z5 {N : Nat} {x : DS} (hN : N ≤ 9223372036854775808) (h : VT N x) : x.l.length ≤ 20 := by
 have := SL 20 N (by decide) (by omega)
 by_cases hm : 0 < x.m ∨ x.l = []
 ·have h2 := h.2.1 hm
  rw [h2] at this; simp at this; omega
 ·have h2 := h.2.2 (by omega) (fun e => hm (.inr e))
  rw [h2] at this; simpa using this
theorem W6 {N : Nat} {x : DS} (h : VT N x) (hm : 0 < x.m ∨ x.l = []) (v : Nat) : VT N ⟨x.m / 10, x.l ++ [UInt8.ofNat (48 + x.m % 10)], v⟩ := by
 have h2 := h.2.1 hm
 refine ⟨?_, ?_, ?_⟩
 ·have := Nat.div_le_self x.m 10; have := h.1; simp only; omega
 ·intro h3
  simp only [List.append_eq_nil_iff, reduceCtorEq, and_false, or_false] at h3
  rw [h2, MY (by omega)]; simp
 ·intro h3 _
  simp only at h3
  rw [h2, MX (by omega)]
  have : x.m % 10 = x.m := by omega
  simp [this]
theorem Rm (N : Nat) (hN : N ≤ 9223372036854775807) : Ap Tryz.prog 161 [.int .i64 (N : Int)] (.str (HX N)) := by
 refine Ki.F rfl (by simp; exact BL _) (Ac.str _) ?_
 simp +contextual -dsimp only [↓SD, SU, Nat.reduceAdd, Nat.reduceBEq, Nat.reduceEqDiff, Nat.reduceLeDiff, Nat.reduceLT, Nat.reduceSub, ↓reduceIte, reduceCtorEq, Int.reduceToNat, Int.reduceEq, Int.reduceLT, Int.reduceLE, Int.reduceNeg, Int.reduceAdd, Int.reduceSub, Ki]
 intro v
 refine Al (X := DS) (fun x => ⟨[(0, .int .i64 (x.m : Int)), (3, .row 4 x.v x.l.length)], [(4, ⟨x.v, false, 5, 1, x.l.map av⟩)]⟩) (VT N) (fun x => 2 * x.m + (if x.l = [] then 1 else 0)) ⟨N, [], v⟩ ⟨Nat.le_refl _, fun _ => by simp, fun _ h => absurd rfl h⟩ (by simp +contextual -dsimp only [↓SD, SU, Nat.reduceAdd, Nat.reduceBEq, Nat.reduceEqDiff, Nat.reduceLeDiff, Nat.reduceLT, Nat.reduceSub, ↓reduceIte, reduceCtorEq, Int.reduceToNat]) (by simp +contextual -dsimp only [↓SD, SU, Nat.reduceAdd, Nat.reduceBEq, Nat.reduceEqDiff, Nat.reduceLeDiff, Nat.reduceLT, Nat.reduceSub, ↓reduceIte, reduceCtorEq, Int.reduceToNat]) ?_
 rintro ⟨m, l, u⟩ hp
 have hlen := Z5 (by omega) hp
 have hmN : m ≤ N := hp.1
 have h48 : (48 : Int) + ((m : Int).tmod 10) = ((48 + m % 10 : Nat) : Int) := by rw [Int.tmod_eq_emod_of_nonneg (by omega)]; rfl
 have h10 : (m : Int).tdiv 10 = ((m / 10 : Nat) : Int) := by rw [Int.tdiv_eq_ediv_of_nonneg (by omega)]; rfl
 have hin : (0 : Int) ≤ (m : Int).tmod 10 ∧ (m : Int).tmod 10 < 10 := by rw [Int.tmod_eq_emod_of_nonneg (by omega)]; omega
 have hstep := fun hm v => W6 hp hm v
 dsimp only at hlen hstep
 have hl2 : List.take l.length (l.map (av : UInt8 → AV)) = l.map av := List.take_of_length_le (by simp)
 have hav : AV.int .u8 (((48 + m % 10 : Nat) : Int)) = av (UInt8.ofNat (48 + m % 10)) := by rw [Ada, NY _ (by omega)]
 by_cases hm : 0 < m ∨ l = []
 ·have hc : (0 < (m : Int)) ∨ (l.length : Int) = 0 := by rcases hm with h | h; exact .inl (by omega); exact .inr (by simp [h])
  have fin : ∀ u', VT N ⟨m / 10, l ++ [UInt8.ofNat (48 + m % 10)], u'⟩ ∧ 2 * (m / 10) + (if l ++ [UInt8.ofNat (48 + m % 10)] = [] then 1 else 0) < 2 * m + (if l = [] then 1 else 0) := by
   intro u'
   refine ⟨hstep hm u', ?_⟩
   simp only [List.append_eq_nil_iff, reduceCtorEq, and_false, if_false]
   rcases hm with h | h
   ·split <;> omega
   ·subst h; simp; omega
  clear hstep hp
  by_cases hc0 : 0 < (m : Int)
  ·simp +contextual -dsimp only [↓SD, SU, Nat.reduceAdd, Nat.reduceBEq, Nat.reduceEqDiff, Nat.reduceLeDiff, Nat.reduceLT, Nat.reduceSub, ↓reduceIte, reduceCtorEq, Int.reduceToNat, Int.reduceEq, Int.reduceLT, Int.reduceLE, Int.reduceNeg, Int.reduceAdd, Int.reduceSub, hc0, h48, h10, Aa, hl2, Nat.le_refl]
   refine ⟨by omega, by omega, by omega, ⟨by omega, by unfold maxLen; omega⟩, fun u' => ⟨by omega, Af.le ⟨⟨m / 10, l ++ [UInt8.ofNat (48 + m % 10)], u'⟩, fin u', rfl⟩ (by simp +contextual -dsimp only [↓SD, SU, Nat.reduceAdd, Nat.reduceBEq, Nat.reduceEqDiff, Nat.reduceLeDiff, Nat.reduceLT, Nat.reduceSub, ↓reduceIte, reduceCtorEq, Int.reduceToNat]; simp) (by simp +contextual -dsimp only [↓SD, SU, Nat.reduceAdd, Nat.reduceBEq, Nat.reduceEqDiff, Nat.reduceLeDiff, Nat.reduceLT, Nat.reduceSub, ↓reduceIte, reduceCtorEq, Int.reduceToNat, List.map_append, hav])⟩⟩
  ·replace hc := hc.resolve_left hc0
   simp +contextual -dsimp only [↓SD, SU, Nat.reduceAdd, Nat.reduceBEq, Nat.reduceEqDiff, Nat.reduceLeDiff, Nat.reduceLT, Nat.reduceSub, ↓reduceIte, reduceCtorEq, Int.reduceToNat, Int.reduceEq, Int.reduceLT, Int.reduceLE, Int.reduceNeg, Int.reduceAdd, Int.reduceSub, hc, hc0, h48, h10, Aa, hl2, Nat.le_refl]
   refine ⟨by omega, by omega, by omega, ⟨by omega, by unfold maxLen; omega⟩, fun u' => ⟨by omega, Af.le ⟨⟨m / 10, l ++ [UInt8.ofNat (48 + m % 10)], u'⟩, fin u', rfl⟩ (by simp +contextual -dsimp only [↓SD, SU, Nat.reduceAdd, Nat.reduceBEq, Nat.reduceEqDiff, Nat.reduceLeDiff, Nat.reduceLT, Nat.reduceSub, ↓reduceIte, reduceCtorEq, Int.reduceToNat]; simp) (by simp +contextual -dsimp only [↓SD, SU, Nat.reduceAdd, Nat.reduceBEq, Nat.reduceEqDiff, Nat.reduceLeDiff, Nat.reduceLT, Nat.reduceSub, ↓reduceIte, reduceCtorEq, Int.reduceToNat, List.map_append, hav])⟩⟩
 ·have h1 : ¬ 0 < (m : Int) := by omega
  have h2 : ¬ (l.length : Int) = 0 := fun h => hm (.inr (List.length_eq_zero_iff.1 (by omega)))
  have hd : HX N = ⟨l.reverse.toArray⟩ := by unfold HX; rw [hp.2.2 (by simp only; omega) (fun e => hm (.inr e))]
  have hr : Ac (.str (HX N)) := Ac.str _
  simp +contextual -dsimp only [↓SD, SU, Nat.reduceAdd, Nat.reduceBEq, Nat.reduceEqDiff, Nat.reduceLeDiff, Nat.reduceLT, Nat.reduceSub, ↓reduceIte, reduceCtorEq, Int.reduceToNat, Int.reduceEq, Int.reduceLT, Int.reduceLE, Int.reduceNeg, Int.reduceAdd, Int.reduceSub, h1, h2, Aa]
  refine Ae [4] (VO 4 u l (by omega)) (by simp +contextual -dsimp only [↓SD, SU, Nat.reduceAdd, Nat.reduceBEq, Nat.reduceEqDiff, Nat.reduceLeDiff, Nat.reduceLT, Nat.reduceSub, ↓reduceIte, reduceCtorEq, Int.reduceToNat]) ?_
  rintro r hp' ⟨rfl, rfl⟩
  simp +contextual -dsimp only [↓SD, SU, Nat.reduceAdd, Nat.reduceBEq, Nat.reduceEqDiff, Nat.reduceLeDiff, Nat.reduceLT, Nat.reduceSub, ↓reduceIte, reduceCtorEq, Int.reduceToNat, Int.reduceEq, Int.reduceLT, Int.reduceLE, Int.reduceNeg, Int.reduceAdd, Int.reduceSub]
  refine SR _ _ l.reverse (Z1 rfl rfl (by simp)) rfl ?_
  simp +contextual -dsimp only [↓SD, SU, Nat.reduceAdd, Nat.reduceBEq, Nat.reduceEqDiff, Nat.reduceLeDiff, Nat.reduceLT, Nat.reduceSub, ↓reduceIte, reduceCtorEq, Int.reduceToNat, Int.reduceEq, Int.reduceLT, Int.reduceLE, Int.reduceNeg, Int.reduceAdd, Int.reduceSub, hd]
end Go.Proofs.YtjbcnilllfaipaaGreat
set_option linter.unusedVariables false
set_option linter.unusedSimpArgs false
set_option maxRecDepth 100000
namespace Go.Proofs.YtjbcnilllfaipaaGreat
open Go.RowKit Go.Proofs.YtjbcnilllfaipaaGreat.Av Go.Proofs.YtjbcnilllfaipaaGreat.Ml
open Go.Proofs.YtjbcnilllfaipaaGreat.Av.AVal (av)

theorem Wt (b : Bool) : Ap Tryz.prog 82 [.bool b] (.agg [.int .i64 4, .int .i64 0, .str (if b = true then PV 1 else PV 0), .Ar, .Ar]) := by
 refine Jj.F rfl (by simp; exact Ac.bool _) (Ac.agg (by simp; exact ⟨BL _, BL _, Ac.str _, Ac.Ar⟩)) ?_
 have t1 : PV 1 = bs [116, 114, 117, 101] := rfl
 have t0 : PV 0 = bs [102, 97, 108, 115, 101] := rfl
 cases b <;> (simp +contextual -dsimp (maxSteps := 2000000) only [↓SD, SU, simprocAttr, Jj, t1, t0])
end Go.Proofs.YtjbcnilllfaipaaGreat
set_option linter.unusedVariables false
set_option linter.unusedSimpArgs false
set_option maxRecDepth 100000
namespace Go.Proofs.YtjbcnilllfaipaaGreat
open Go.RowKit Go.Proofs.YtjbcnilllfaipaaGreat.Av Go.Proofs.YtjbcnilllfaipaaGreat.Ml
open Go.Proofs.YtjbcnilllfaipaaGreat.Av.AVal (av)

def mE (ty : List BP) (l : List Node) (M : Int) (b tv rv : Nat) (st : ES) : Box := ⟨b, false, 52, 9, [.agg [.sl (ty.map av), .sl (l.map av), .sl (st.inp.map av), .int .i64 M, .int .i64 st.steps, .row 61 tv st.tr.length, .row 62 rv st.refs.length, .int .i64 st.stop, .int .i64 st.n]]⟩
def mH (ty : List BP) (l : List Node) (M : Int) (b tv rv : Nat) (st : ES) : Hp := [(60, mE ty l M b tv rv st), (61, ⟨tv, false, 9, 1, st.tr.map av⟩), (62, ⟨rv, false, 55, 5, st.refs.map av⟩)]
def zV : AV := .agg [.int .i64 0, .int .i64 0, .str (bs []), .Ar, .Ar]
def Df (o : Option EV) (x : AV) : Prop := match o with
 | some u => x = .tup [av u, .bool true]
 | none => x = .tup [zV, .bool false]
def PT (ty : List BP) (l : List Node) (M : Int) (b : Nat) (r : Option EV × ES) (x : AV) (hp' : Hp) : Prop := ∃ tv rv, hp' = mH ty l M b tv rv r.2 ∧ Df r.1 x
theorem SK : ∀ e : EE, e.bs.length = e.len
 | .nil => rfl
 | .cons s v up => by rw [EE.bs, EE.len, List.length_append, SK up]; rfl
theorem Ci (ty : List BP) (l : List Node) (M : Int) (b tv rv : Nat) (st : ES) (k q : Int) : Ay Tryz.prog 40 [.ptr 60 b 0 0, .int .i64 k, .int .i64 q] (mH ty l M b tv rv st) (PT ty l M b (none, { st with stop := k, n := q })) := by
 refine Jh.H rfl ?_
 unfold mH mE
 simp +contextual -dsimp (maxSteps := 2000000) only [↓SD, SU, simprocAttr, Jh]
 intro v6
 refine Af.post (mH ty l M b tv rv { st with stop := k, n := q }) ?_
 unfold mH mE
 simp +contextual -dsimp (maxSteps := 2000000) only [↓SD, SU, simprocAttr]
 exact ⟨tv, rv, rfl, rfl⟩
theorem kA1 (v : EV) (hp : Hp) : v.kA.AR hp = v.kA := (EV.Hv v).1.2.2 hp
theorem eA1 (v : EV) (hp : Hp) : v.eA.AR hp = v.eA := (EV.Hv v).2.2.2 hp
theorem kAo (v : EV) : v.kA.one = true := (EV.Hv v).1.1
theorem eAo (v : EV) : v.eA.one = true := (EV.Hv v).2.1
theorem IU (e : EE) (s : ByteArray) (v : EV) (hl : e.len ≤ 1000000000) : Ap Tryz.prog 42 [.sl (e.bs.map av), .str s, av v] (.sl ((EE.cons s v e).bs.map av)) := by
 have h1 := SK e
 refine Jg.F rfl (by simp; exact ⟨Aq e.bs, Ac.str _, AVal.clean v⟩) (Aq _) ?_
 rw [EE.bs, List.map_append, List.map_cons, List.map_nil, AbJ]
 generalize e.bs = L at *
 have ht : List.take L.length (L.map (av : EB → AV)) = L.map av := List.take_of_length_le (by simp)
 have ht2 : ∀ x : AV, List.take (L.length + 1) (L.map (av : EB → AV) ++ [x]) = L.map av ++ [x] := fun x => List.take_of_length_le (by simp)
 have hl2 : ∀ x : AV, (L.map (av : EB → AV) ++ [x]).length = L.length + 1 := fun x => by simp
 have hc : ∀ x ∈ L.map (av : EB → AV), x.cells.length = 6 := fun x hx => by obtain ⟨y, _, rfl⟩ := List.mem_map.1 hx; exact AVal.len y
 simp +contextual -dsimp (maxSteps := 2000000) only [↓SD, SU, simprocAttr, Jg, AU, AA, Aa, kA1, eA1, kAo, eAo, ht, ht2, hl2, List.map_append, AV.pur]
 repeat' (first | exact hc | omega | (unfold maxLen; omega) | intro _ | refine And.intro ?_ ?_)
end Go.Proofs.YtjbcnilllfaipaaGreat
