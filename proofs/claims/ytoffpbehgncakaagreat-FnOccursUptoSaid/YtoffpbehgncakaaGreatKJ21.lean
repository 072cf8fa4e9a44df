/-
 NUMBERS AS TEXT, of the reference and of the program, by abstract texts. Conditions: none.
-/
import Derived.Test.YtoffpbehgncakaaGreatKJ18
import Derived.Test.YtoffpbehgncakaaGreatKJ11
import Derived.Test.YtoffpbehgncakaaGreatKJ20
set_option linter.unusedVariables false
set_option linter.unusedSimpArgs false
set_option maxRecDepth 100000
namespace Go.Proofs.YtoffpbehgncakaaGreat
open Go.RowKit Go.Proofs.YtoffpbehgncakaaGreat.Av Go.Proofs.YtoffpbehgncakaaGreat.Ml
open Go.Proofs.YtoffpbehgncakaaGreat.Av.AVal (av)

theorem Ku (k : Nat) : k ≤ 9223372036854775808 → AH Tryz.prog 107 [.int .i64 (-(k : Int))] (.str (L8 k)) := by
 induction k using Nat.strongRecOn with
 | _ k ih =>
  intro hk
  refine Ex.F rfl (by simp; exact Cr _) (Ap.str _) ?_
  by_cases h10 : k < 10
  ·have h1 : -10 < -(k : Int) := by omega
   have h2 : (48 : Int) - -(k : Int) = ((48 + k : Nat) : Int) := by omega
   rw [Va h10]
   simp +contextual -dsimp only [↓SD, SU, Nat.reduceAdd, Nat.reduceBEq, Nat.reduceEqDiff, Nat.reduceLeDiff, Nat.reduceLT, Nat.reduceSub, ↓reduceIte, reduceCtorEq, Int.reduceToNat, Int.reduceEq, Int.reduceLT, Int.reduceLE, Int.reduceNeg, Int.reduceAdd, Int.reduceSub, Ex, h1]
   refine ⟨by omega, by omega, ?_⟩
   refine NK _ _ [UInt8.ofNat (48 + k)] rfl (by rw [List.map_cons, List.map_nil, Xo _ (by omega), ← h2]) ?_
   simp +contextual -dsimp only [↓SD, SU, Nat.reduceAdd, Nat.reduceBEq, Nat.reduceEqDiff, Nat.reduceLeDiff, Nat.reduceLT, Nat.reduceSub, ↓reduceIte, reduceCtorEq, Int.reduceToNat]
  ·have h1 : ¬ -10 < -(k : Int) := by omega
   have h2 : (-(k : Int)).tdiv 10 = -((k / 10 : Nat) : Int) := by rw [Int.neg_tdiv, Int.tdiv_eq_ediv_of_nonneg (by omega)]; rfl
   have h3 : (-(k : Int)).tmod 10 = -((k % 10 : Nat) : Int) := by rw [Int.neg_tmod, Int.tmod_eq_emod_of_nonneg (by omega)]; rfl
   have h4 : (48 : Int) - -((k % 10 : Nat) : Int) = ((48 + k % 10 : Nat) : Int) := by omega
   have C := ih (k / 10) (by omega) (by omega)
   have hs := W8 (k / 10) (by omega)
   rw [Vb h10]
   simp +contextual -dsimp only [↓SD, SU, Nat.reduceAdd, Nat.reduceBEq, Nat.reduceEqDiff, Nat.reduceLeDiff, Nat.reduceLT, Nat.reduceSub, ↓reduceIte, reduceCtorEq, Int.reduceToNat, Int.reduceEq, Int.reduceLT, Int.reduceLE, Int.reduceNeg, Int.reduceAdd, Int.reduceSub, Ex, h1, h2, h3]
   refine ⟨by omega, ?_⟩
   refine Ac _ C ?_
   simp +contextual -dsimp only [↓SD, SU, Nat.reduceAdd, Nat.reduceBEq, Nat.reduceEqDiff, Nat.reduceLeDiff, Nat.reduceLT, Nat.reduceSub, ↓reduceIte, reduceCtorEq, Int.reduceToNat, Int.reduceEq, Int.reduceLT, Int.reduceLE, Int.reduceNeg, Int.reduceAdd, Int.reduceSub, h3, h4]
   refine ⟨by omega, by omega, by omega, ?_⟩
   refine NK _ _ [UInt8.ofNat (48 + k % 10)] rfl (by rw [List.map_cons, List.map_nil, Xo _ (by omega)]) ?_
   simp +contextual -dsimp only [↓SD, SU, Nat.reduceAdd, Nat.reduceBEq, Nat.reduceEqDiff, Nat.reduceLeDiff, Nat.reduceLT, Nat.reduceSub, ↓reduceIte, reduceCtorEq, Int.reduceToNat]
   have h5 : (⟨[UInt8.ofNat (48 + k % 10)].toArray⟩ : ByteArray).size = 1 := rfl
   unfold maxLen; omega
theorem F8 (n : Int) (h : -9223372036854775808 ≤ n ∧ n ≤ 9223372036854775807) : (IntKind.i64.wrap (n * 2) / 2 = n) ↔ (-4611686018427387904 ≤ n ∧ n ≤ 4611686018427387903) := by
 rw [IntKind.wrap_i64]
 omega
theorem Rb (n : Int) (h : -9223372036854775808 ≤ n ∧ n ≤ 9223372036854775807) : AH Tryz.prog 106 [.int .i64 n] (.int .i64 (IntKind.i64.wrap (n * 2) / 2)) := by
 refine Kw.F rfl (by simp; exact Cr _) (Cr _) ?_
 have e1 : min 1 IntKind.i64.bits = 1 := rfl
 have e2 : ∀ x : Int, x.fdiv (2 ^ 1) = x / 2 := fun x => by rw [Int.fdiv_eq_ediv_of_nonneg _ (by decide)]; rfl
 have e3 : n * 2 ^ 1 = n * 2 := rfl
 simp +contextual -dsimp only [↓SD, SU, Nat.reduceAdd, Nat.reduceBEq, Nat.reduceEqDiff, Nat.reduceLeDiff, Nat.reduceLT, Nat.reduceSub, ↓reduceIte, reduceCtorEq, Int.reduceToNat, Int.reduceEq, Int.reduceLT, Int.reduceLE, Int.reduceNeg, Int.reduceAdd, Int.reduceSub, Kw, e1, e2, e3]
 rw [IntKind.wrap_i64]
 omega
theorem Ij (n : Int) (hn : -9223372036854775808 ≤ n ∧ n ≤ 9223372036854775807) : AH Tryz.prog 62 [.int .i64 n] (.str (K5 n)) := by
 refine HR.F rfl (by simp; exact Cr _) (Ap.str _) ?_
 have C := Rb n hn
 have W := F8 n hn
 simp +contextual -dsimp only [↓SD, SU, Nat.reduceAdd, Nat.reduceBEq, Nat.reduceEqDiff, Nat.reduceLeDiff, Nat.reduceLT, Nat.reduceSub, ↓reduceIte, reduceCtorEq, Int.reduceToNat, Int.reduceEq, Int.reduceLT, Int.reduceLE, Int.reduceNeg, Int.reduceAdd, Int.reduceSub, HR]
 refine Ac _ C ?_
 by_cases hin : -4611686018427387904 ≤ n ∧ n ≤ 4611686018427387903
 ·have hw := W.2 hin
  by_cases h0 : n < 0
  ·have hS : K5 n = ⟨#[45]⟩ ++ L8 (-n).toNat := by unfold K5; rw [if_pos hin, if_pos h0]
   obtain ⟨k, rfl⟩ : ∃ k : Nat, n = -(k : Int) := ⟨(-n).toNat, by omega⟩
   have hs := W8 k (by omega)
   have hk : (-(-(k : Int))).toNat = k := by omega
   rw [hS, hk]
   simp +contextual -dsimp only [↓SD, SU, Nat.reduceAdd, Nat.reduceBEq, Nat.reduceEqDiff, Nat.reduceLeDiff, Nat.reduceLT, Nat.reduceSub, ↓reduceIte, reduceCtorEq, Int.reduceToNat, Int.reduceEq, Int.reduceLT, Int.reduceLE, Int.reduceNeg, Int.reduceAdd, Int.reduceSub, hw, h0]
   refine Ac _ (Ku k (by omega)) ?_
   have hb : bs [45] = (⟨#[45]⟩ : ByteArray) := rfl
   simp +contextual -dsimp only [↓SD, SU, Nat.reduceAdd, Nat.reduceBEq, Nat.reduceEqDiff, Nat.reduceLeDiff, Nat.reduceLT, Nat.reduceSub, ↓reduceIte, reduceCtorEq, Int.reduceToNat, Int.reduceEq, Int.reduceLT, Int.reduceLE, Int.reduceNeg, Int.reduceAdd, Int.reduceSub, hb]
   have h1 : (⟨#[45]⟩ : ByteArray).size = 1 := rfl
   unfold maxLen; omega
  ·have hS : K5 n = L8 n.toNat := by unfold K5; rw [if_pos hin, if_neg h0]
   obtain ⟨k, rfl⟩ : ∃ k : Nat, n = (k : Int) := ⟨n.toNat, by omega⟩
   rw [hS, Int.toNat_natCast]
   simp +contextual -dsimp only [↓SD, SU, Nat.reduceAdd, Nat.reduceBEq, Nat.reduceEqDiff, Nat.reduceLeDiff, Nat.reduceLT, Nat.reduceSub, ↓reduceIte, reduceCtorEq, Int.reduceToNat, Int.reduceEq, Int.reduceLT, Int.reduceLE, Int.reduceNeg, Int.reduceAdd, Int.reduceSub, hw, h0]
   refine ⟨by omega, ?_⟩
   refine Ac _ (Ku k (by omega)) ?_
   simp +contextual -dsimp only [↓SD, SU, Nat.reduceAdd, Nat.reduceBEq, Nat.reduceEqDiff, Nat.reduceLeDiff, Nat.reduceLT, Nat.reduceSub, ↓reduceIte, reduceCtorEq, Int.reduceToNat, Int.reduceEq, Int.reduceLT, Int.reduceLE, Int.reduceNeg, Int.reduceAdd, Int.reduceSub]
 ·have hw : ¬ IntKind.i64.wrap (n * 2) / 2 = n := fun h => hin (W.1 h)
  have hS : K5 n = ⟨#[]⟩ := by unfold K5; rw [if_neg hin]
  rw [hS]
  simp +contextual -dsimp only [↓SD, SU, Nat.reduceAdd, Nat.reduceBEq, Nat.reduceEqDiff, Nat.reduceLeDiff, Nat.reduceLT, Nat.reduceSub, ↓reduceIte, reduceCtorEq, Int.reduceToNat, Int.reduceEq, Int.reduceLT, Int.reduceLE, Int.reduceNeg, Int.reduceAdd, Int.reduceSub, hw]
  first | done | rfl

theorem Yt {hp : Hp} {k v n : Nat} {b : Box} (hk : Ay hp k = some b) (hv : b.ver = v) (hn : n = b.es.length) : EM hp (.row k v n) = some b.es := by
 unfold EM
 simp only [hk, hv, hn, true_and, Nat.le_refl, if_true, List.take_length]
structure DS where
 m : Nat
 l : List UInt8
 v : Nat
end Go.Proofs.YtoffpbehgncakaaGreat
set_option linter.unusedVariables false
set_option linter.unusedSimpArgs false
set_option maxRecDepth 100000
namespace Go.Proofs.YtoffpbehgncakaaGreat
open Go.RowKit Go.Proofs.YtoffpbehgncakaaGreat.Av Go.Proofs.YtoffpbehgncakaaGreat.Ml
open Go.Proofs.YtoffpbehgncakaaGreat.Av.AVal (av)

def Jl (n : Nat) : UInt8 := if n < 10 then UInt8.ofNat (48 + n) else UInt8.ofNat (87 + n)
def Fa (b : UInt8) : List UInt8 :=
 if b.toNat = 10 then [92, 110] else if b.toNat = 34 ∨ b.toNat = 92 then [92, b] else if 32 ≤ b.toNat ∧ b.toNat ≤ 126 then [b] else [92, 120, Jl (b.toNat / 16), Jl (b.toNat % 16)]
def ER (l : List UInt8) : List UInt8 := 34 :: l.flatMap Fa
def Uz (s : ByteArray) : ByteArray := ⟨(ER s.data.toList ++ [34]).toArray⟩
theorem UB (b : UInt8) : (Fa b).length ≤ 4 := by
 unfold Fa; repeat' split
 all_goals simp
theorem UA : ∀ (l : List UInt8), (ER l).length ≤ 4 * l.length + 1 := by
 intro l
 induction l with
 | nil => simp [ER]
 | cons b r ih =>
  have := UB b
  simp only [ER, List.flatMap_cons, List.length_cons, List.length_append] at ih ⊢
  omega
theorem La (n : Nat) (h : n < 16) : AH Tryz.prog 183 [.int .i64 (n : Int)] (.int .u8 ((Jl n).toNat : Int)) := by
 refine IF.F rfl (by simp; exact Cr _) (pu8 _) ?_
 have ht : (n : Int).tmod 16 = (n : Int) := by rw [Int.tmod_eq_emod_of_nonneg (by omega)]; omega
 have hb : ∀ m, m < 16 → (A4 (bs [48, 49, 50, 51, 52, 53, 54, 55, 56, 57, 97, 98, 99, 100, 101, 102]) m) = Jl m := by decide +kernel
 have hz : (bs [48, 49, 50, 51, 52, 53, 54, 55, 56, 57, 97, 98, 99, 100, 101, 102]).size = 16 := by decide +kernel
 simp +contextual -dsimp only [↓SD, SU, simprocAttr, IF, ht, hz, hb n h]
 omega
theorem Ve (s : ByteArray) {k : Nat} (h : k < s.size) : s.data.toList.take (k + 1) = s.data.toList.take k ++ [A4 s k] := by
 have h' : k < s.data.toList.length := by simpa using h
 rw [List.take_succ_eq_append_getElem h']
 congr 2
 have h2 : k < s.data.size := h
 simp only [A4, Array.getD_eq_getD_getElem?, Array.getElem?_eq_getElem h2, Option.getD_some, Array.getElem_toList]
theorem Ux (s : ByteArray) {k : Nat} (h : k < s.size) : ER (s.data.toList.take (k + 1)) = ER (s.data.toList.take k) ++ Fa (A4 s k) := by
 unfold ER; rw [Ve s h, List.flatMap_append]; simp
theorem Uy (s : ByteArray) (k : Nat) : (ER (s.data.toList.take k)).length ≤ 4 * s.size + 1 := by
 have := UA (s.data.toList.take k)
 rw [List.length_take] at this
 have h2 : s.data.toList.length = s.size := by simp
 omega
theorem e34 : (av (34 : UInt8)) = AV.int .u8 34 := rfl
theorem e92 : (av (92 : UInt8)) = AV.int .u8 92 := rfl
theorem AcF : (av (110 : UInt8)) = AV.int .u8 110 := rfl
theorem Ach : (av (120 : UInt8)) = AV.int .u8 120 := rfl
theorem Qm (s : ByteArray) (hs : s.size ≤ 1099511627776) : AH Tryz.prog 170 [.str s] (.str (Uz s)) := by
 refine Ju.F rfl (by simp; exact Ap.str _) (Ap.str _) ?_
 simp +contextual -dsimp only [↓SD, SU, simprocAttr, Ju]
 intro v
 refine AB (X := Nat × Nat) (fun x => ⟨[(0, .str s), (3, .row 6 x.2 (ER (s.data.toList.take x.1)).length), (4, .int .i64 x.1)], [(6, ⟨x.2, false, 5, 1, (ER (s.data.toList.take x.1)).map av⟩)]⟩) (fun x => x.1 ≤ s.size) (fun x => s.size - x.1) (0, v) (Nat.zero_le _) (by simp +contextual -dsimp only [↓SD, SU, simprocAttr, ER, List.flatMap_nil]) (by simp +contextual -dsimp only [↓SD, SU, simprocAttr, ER, List.flatMap_nil, e34]) ?_
 rintro ⟨k, u⟩ hk
 simp only at hk
 have hL := Uy s k
 obtain ⟨L, hLe⟩ : ∃ L, L = ER (s.data.toList.take k) := ⟨_, rfl⟩
 rw [← hLe] at hL
 have ht : List.take L.length (L.map (av : UInt8 → AV)) = L.map av := List.take_of_length_le (by simp)
 by_cases hlt : k < s.size
 ·have hq := Ux s hlt
  have hb := b8 s k
  rw [← hLe] at hq ⊢
  obtain ⟨b, hbe⟩ : ∃ b, b = A4 s k := ⟨_, rfl⟩
  rw [← hbe] at hq hb
  have hbv : av b = AV.int .u8 (b.toNat : Int) := rfl
  have hx1 : av (Jl (b.toNat / 16)) = AV.int .u8 ((Jl (b.toNat / 16)).toNat : Int) := rfl
  have hx2 : av (Jl (b.toNat % 16)) = AV.int .u8 ((Jl (b.toNat % 16)).toNat : Int) := rfl
  have hd : ((b.toNat : Int)).tdiv 16 = ((b.toNat / 16 : Nat) : Int) := by rw [Int.tdiv_eq_ediv_of_nonneg (by omega)]; rfl
  have hm : ((b.toNat : Int)).tmod 16 = ((b.toNat % 16 : Nat) : Int) := by rw [Int.tmod_eq_emod_of_nonneg (by omega)]; rfl
  by_cases h10 : (b.toNat : Int) = 10
  ·have hqb : Fa b = [92, 110] := by unfold Fa; rw [if_pos (by omega)]
   simp +contextual -dsimp only [↓SD, SU, simprocAttr, hlt, ← hbe, h10, ht, Aa, Nat.le_refl]
   refine ⟨⟨(by rintro x (rfl | rfl) <;> rfl), by omega, by unfold maxLen; omega⟩, fun u' => ⟨by omega, Ai.le ⟨(k + 1, u'), ⟨hlt, (by first | omega | (simp only; omega))⟩, rfl⟩ (by simp +contextual -dsimp only [↓SD, SU, simprocAttr, Int.natCast_add, hq, hqb, List.length_append]) (by simp +contextual -dsimp only [↓SD, SU, simprocAttr, hq, hqb, List.map_append, e92, AcF])⟩⟩
  ·by_cases h34 : (b.toNat : Int) = 34 ∨ (b.toNat : Int) = 92
   ·have hqb : Fa b = [92, b] := by unfold Fa; rw [if_neg (by omega), if_pos (by omega)]
    rcases h34 with h34 | h34
    ·simp +contextual -dsimp only [↓SD, SU, simprocAttr, hlt, ← hbe, h10, h34, ht, Aa, Nat.le_refl]
     refine ⟨⟨(by rintro x (rfl | rfl) <;> rfl), by omega, by unfold maxLen; omega⟩, fun u' => ⟨by omega, Ai.le ⟨(k + 1, u'), ⟨hlt, (by first | omega | (simp only; omega))⟩, rfl⟩ (by simp +contextual -dsimp only [↓SD, SU, simprocAttr, Int.natCast_add, hq, hqb, List.length_append]) (by simp +contextual -dsimp only [↓SD, SU, simprocAttr, hq, hqb, List.map_append, e92, hbv, h34])⟩⟩
    ·simp +contextual -dsimp only [↓SD, SU, simprocAttr, hlt, ← hbe, h10, h34, ht, Aa, Nat.le_refl]
     refine ⟨⟨(by rintro x (rfl | rfl) <;> rfl), by omega, by unfold maxLen; omega⟩, fun u' => ⟨by omega, Ai.le ⟨(k + 1, u'), ⟨hlt, (by first | omega | (simp only; omega))⟩, rfl⟩ (by simp +contextual -dsimp only [↓SD, SU, simprocAttr, Int.natCast_add, hq, hqb, List.length_append]) (by simp +contextual -dsimp only [↓SD, SU, simprocAttr, hq, hqb, List.map_append, e92, hbv, h34])⟩⟩
   ·by_cases h32 : (32 : Int) ≤ b.toNat ∧ (b.toNat : Int) ≤ 126
    ·have hqb : Fa b = [b] := by unfold Fa; rw [if_neg (by omega), if_neg (by omega), if_pos (by omega)]
     have g1 : ¬ (b.toNat : Int) = 34 := fun h => h34 (.inl h)
     have g2 : ¬ (b.toNat : Int) = 92 := fun h => h34 (.inr h)
     obtain ⟨g3, g4⟩ := h32
     simp +contextual -dsimp only [↓SD, SU, simprocAttr, hlt, ← hbe, h10, g1, g2, g3, g4, ht, Aa, Nat.le_refl]
     refine ⟨⟨by omega, by unfold maxLen; omega⟩, fun u' => ⟨by omega, Ai.le ⟨(k + 1, u'), ⟨hlt, (by first | omega | (simp only; omega))⟩, rfl⟩ (by simp +contextual -dsimp only [↓SD, SU, simprocAttr, Int.natCast_add, hq, hqb, List.length_append]) (by simp +contextual -dsimp only [↓SD, SU, simprocAttr, hq, hqb, List.map_append, hbv])⟩⟩
    ·have hqb : Fa b = [92, 120, Jl (b.toNat / 16), Jl (b.toNat % 16)] := by unfold Fa; rw [if_neg (by omega), if_neg (by omega), if_neg (by omega)]
     have g1 : ¬ (b.toNat : Int) = 34 := fun h => h34 (.inl h)
     have g2 : ¬ (b.toNat : Int) = 92 := fun h => h34 (.inr h)
     have C1 := La (b.toNat / 16) (by omega)
     have C2 := La (b.toNat % 16) (by omega)
     by_cases g3 : (32 : Int) ≤ b.toNat
     ·have g4 : ¬ (b.toNat : Int) ≤ 126 := fun h => h32 ⟨g3, h⟩
      simp +contextual -dsimp only [↓SD, SU, simprocAttr, hlt, ← hbe, h10, g1, g2, g3, g4, hd, hm, ht, Aa, Nat.le_refl]
      refine ⟨by omega, by omega, ?_⟩
      refine Ac _ C1 ?_
      simp +contextual -dsimp only [↓SD, SU, simprocAttr, hd, hm, ht, Aa, Nat.le_refl]
      refine ⟨by omega, by omega, ?_⟩
      refine Ac _ C2 ?_
      simp +contextual -dsimp only [↓SD, SU, simprocAttr, hd, hm, ht, Aa, Nat.le_refl]
      refine ⟨⟨(by rintro x (rfl | rfl | rfl | rfl) <;> rfl), by omega, by unfold maxLen; omega⟩, fun u' => ⟨by omega, Ai.le ⟨(k + 1, u'), ⟨hlt, (by first | omega | (simp only; omega))⟩, rfl⟩ (by simp +contextual -dsimp only [↓SD, SU, simprocAttr, Int.natCast_add, hq, hqb, List.length_append]) (by simp +contextual -dsimp only [↓SD, SU, simprocAttr, hq, hqb, List.map_append, e92, Ach, hx1, hx2])⟩⟩
     ·simp +contextual -dsimp only [↓SD, SU, simprocAttr, hlt, ← hbe, h10, g1, g2, g3, hd, hm, ht, Aa, Nat.le_refl]
      refine ⟨by omega, by omega, ?_⟩
      refine Ac _ C1 ?_
      simp +contextual -dsimp only [↓SD, SU, simprocAttr, hd, hm, ht, Aa, Nat.le_refl]
      refine ⟨by omega, by omega, ?_⟩
      refine Ac _ C2 ?_
      simp +contextual -dsimp only [↓SD, SU, simprocAttr, hd, hm, ht, Aa, Nat.le_refl]
      refine ⟨⟨(by rintro x (rfl | rfl | rfl | rfl) <;> rfl), by omega, by unfold maxLen; omega⟩, fun u' => ⟨by omega, Ai.le ⟨(k + 1, u'), ⟨hlt, (by first | omega | (simp only; omega))⟩, rfl⟩ (by simp +contextual -dsimp only [↓SD, SU, simprocAttr, Int.natCast_add, hq, hqb, List.length_append]) (by simp +contextual -dsimp only [↓SD, SU, simprocAttr, hq, hqb, List.map_append, e92, Ach, hx1, hx2])⟩⟩
 ·obtain rfl : k = s.size := by omega
  have hfull : s.data.toList.take s.size = s.data.toList := List.take_of_length_le (by simp)
  rw [← hLe]
  rw [hfull] at hLe
  simp +contextual -dsimp only [↓SD, SU, simprocAttr, Nat.lt_irrefl, ht, Aa, Nat.le_refl]
  refine ⟨⟨by omega, by unfold maxLen; omega⟩, fun u' => ?_⟩
  refine NK _ _ (L ++ [34]) (Yt rfl rfl (by simp)) (by rw [List.map_append]; rfl) ?_
  simp +contextual -dsimp only [↓SD, SU, simprocAttr, Uz, hLe]
end Go.Proofs.YtoffpbehgncakaaGreat
