/-
 Quote, of the program and of the reference, by abstract texts. Conditions: none.
-/
import Derived.Test.YteeiaaogmjbcjaaGreatUJ25
import Derived.Test.YteeiaaogmjbcjaaGreatProg
import Derived.Test.YteeiaaogmjbcjaaGreatUAvDraw
import Derived.Test.YteeiaaogmjbcjaaGreatUJ09
set_option linter.unusedVariables false
set_option linter.unusedSimpArgs false
set_option maxRecDepth 100000
namespace Go.Proofs.YteeiaaogmjbcjaaGreat
open Go.RowKit Go.Proofs.YteeiaaogmjbcjaaGreat.Av Go.Proofs.YteeiaaogmjbcjaaGreat.Ml
open Go.Proofs.YteeiaaogmjbcjaaGreat.Av.AVal (av)

def Jd (n : Nat) : UInt8 := if n < 10 then UInt8.ofNat (48 + n) else UInt8.ofNat (87 + n)
def E7 (b : UInt8) : List UInt8 :=
 if b.toNat = 10 then [92, 110] else if b.toNat = 34 ∨ b.toNat = 92 then [92, b] else if 32 ≤ b.toNat ∧ b.toNat ≤ 126 then [b] else [92, 120, Jd (b.toNat / 16), Jd (b.toNat % 16)]
def EM (l : List UInt8) : List UInt8 := 34 :: l.flatMap E7
def Uy (s : ByteArray) : ByteArray := ⟨(EM s.data.toList ++ [34]).toArray⟩
theorem UA (b : UInt8) : (E7 b).length ≤ 4 := by
 unfold E7; repeat' split
 all_goals simp
theorem Uz : ∀ (l : List UInt8), (EM l).length ≤ 4 * l.length + 1 := by
 intro l
 induction l with
 | nil => simp [EM]
 | cons b r ih =>
  have := UA b
  simp only [EM, List.flatMap_cons, List.length_cons, List.length_append] at ih ⊢
  omega
theorem KY (n : Nat) (h : n < 16) : AJ Tryz.prog 158 [.int .i64 (n : Int)] (.int .u8 ((Jd n).toNat : Int)) := by
 refine Iw.F rfl (by simp; exact E0 _) (pu8 _) ?_
 have ht : (n : Int).tmod 16 = (n : Int) := by rw [Int.tmod_eq_emod_of_nonneg (by omega)]; omega
 have hb : ∀ m, m < 16 → (AW (bs [48, 49, 50, 51, 52, 53, 54, 55, 56, 57, 97, 98, 99, 100, 101, 102]) m) = Jd m := by decide +kernel
 have hz : (bs [48, 49, 50, 51, 52, 53, 54, 55, 56, 57, 97, 98, 99, 100, 101, 102]).size = 16 := by decide +kernel
 simp +contextual -dsimp only [↓SD, SU, simprocAttr, Iw, ht, hz, hb n h]
 omega
theorem U8 (s : ByteArray) {k : Nat} (h : k < s.size) : s.data.toList.take (k + 1) = s.data.toList.take k ++ [AW s k] := by
 have h' : k < s.data.toList.length := by simpa using h
 rw [List.take_succ_eq_append_getElem h']
 congr 2
 have h2 : k < s.data.size := h
 simp only [AW, Array.getD_eq_getD_getElem?, Array.getElem?_eq_getElem h2, Option.getD_some, Array.getElem_toList]
theorem Uw (s : ByteArray) {k : Nat} (h : k < s.size) : EM (s.data.toList.take (k + 1)) = EM (s.data.toList.take k) ++ E7 (AW s k) := by
 unfold EM; rw [U8 s h, List.flatMap_append]; simp
theorem Ux (s : ByteArray) (k : Nat) : (EM (s.data.toList.take k)).length ≤ 4 * s.size + 1 := by
 have := Uz (s.data.toList.take k)
 rw [List.length_take] at this
 have h2 : s.data.toList.length = s.size := by simp
 omega
theorem e34 : (av (34 : UInt8)) = AV.int .u8 34 := rfl
theorem e92 : (av (92 : UInt8)) = AV.int .u8 92 := rfl
theorem Ac7 : (av (110 : UInt8)) = AV.int .u8 110 := rfl
theorem AcC : (av (120 : UInt8)) = AV.int .u8 120 := rfl
theorem Qb (s : ByteArray) (hs : s.size ≤ 1048576) : AJ Tryz.prog 149 [.str s] (.str (Uy s)) := by
 refine Jn.F rfl (by simp; exact Ap.str _) (Ap.str _) ?_
 simp +contextual -dsimp only [↓SD, SU, simprocAttr, Jn]
 intro v
 refine AG (X := Nat × Nat) (fun x => ⟨[(0, .str s), (3, .row 6 x.2 (EM (s.data.toList.take x.1)).length), (4, .int .i64 x.1)], [(6, ⟨x.2, false, 5, 1, (EM (s.data.toList.take x.1)).map av⟩)]⟩) (fun x => x.1 ≤ s.size) (fun x => s.size - x.1) (0, v) (Nat.zero_le _) (by simp +contextual -dsimp only [↓SD, SU, simprocAttr, EM, List.flatMap_nil]) (by simp +contextual -dsimp only [↓SD, SU, simprocAttr, EM, List.flatMap_nil, e34]) ?_
 rintro ⟨k, u⟩ hk
 simp only at hk
 have hL := Ux s k
 obtain ⟨L, hLe⟩ : ∃ L, L = EM (s.data.toList.take k) := ⟨_, rfl⟩
 rw [← hLe] at hL
 have ht : List.take L.length (L.map (av : UInt8 → AV)) = L.map av := List.take_of_length_le (by simp)
 by_cases hlt : k < s.size
 ·have hq := Uw s hlt
  have hb := b8 s k
  rw [← hLe] at hq ⊢
  obtain ⟨b, hbe⟩ : ∃ b, b = AW s k := ⟨_, rfl⟩
  rw [← hbe] at hq hb
  have hbv : av b = AV.int .u8 (b.toNat : Int) := rfl
  have hx1 : av (Jd (b.toNat / 16)) = AV.int .u8 ((Jd (b.toNat / 16)).toNat : Int) := rfl
  have hx2 : av (Jd (b.toNat % 16)) = AV.int .u8 ((Jd (b.toNat % 16)).toNat : Int) := rfl
  have hd : ((b.toNat : Int)).tdiv 16 = ((b.toNat / 16 : Nat) : Int) := by rw [Int.tdiv_eq_ediv_of_nonneg (by omega)]; rfl
  have hm : ((b.toNat : Int)).tmod 16 = ((b.toNat % 16 : Nat) : Int) := by rw [Int.tmod_eq_emod_of_nonneg (by omega)]; rfl
  by_cases h10 : (b.toNat : Int) = 10
  ·have hqb : E7 b = [92, 110] := by unfold E7; rw [if_pos (by omega)]
   simp +contextual -dsimp only [↓SD, SU, simprocAttr, hlt, ← hbe, h10, ht, Aa, Nat.le_refl]
   refine ⟨⟨(by rintro x (rfl | rfl) <;> rfl), by omega, by unfold maxLen; omega⟩, fun u' => ⟨by omega, Ai.le ⟨(k + 1, u'), ⟨hlt, (by first | omega | (simp only; omega))⟩, rfl⟩ (by simp +contextual -dsimp only [↓SD, SU, simprocAttr, Int.natCast_add, hq, hqb, List.length_append]) (by simp +contextual -dsimp only [↓SD, SU, simprocAttr, hq, hqb, List.map_append, e92, Ac7])⟩⟩
  ·by_cases h34 : (b.toNat : Int) = 34 ∨ (b.toNat : Int) = 92
   ·have hqb : E7 b = [92, b] := by unfold E7; rw [if_neg (by omega), if_pos (by omega)]
    rcases h34 with h34 | h34
    ·simp +contextual -dsimp only [↓SD, SU, simprocAttr, hlt, ← hbe, h10, h34, ht, Aa, Nat.le_refl]
     refine ⟨⟨(by rintro x (rfl | rfl) <;> rfl), by omega, by unfold maxLen; omega⟩, fun u' => ⟨by omega, Ai.le ⟨(k + 1, u'), ⟨hlt, (by first | omega | (simp only; omega))⟩, rfl⟩ (by simp +contextual -dsimp only [↓SD, SU, simprocAttr, Int.natCast_add, hq, hqb, List.length_append]) (by simp +contextual -dsimp only [↓SD, SU, simprocAttr, hq, hqb, List.map_append, e92, hbv, h34])⟩⟩
    ·simp +contextual -dsimp only [↓SD, SU, simprocAttr, hlt, ← hbe, h10, h34, ht, Aa, Nat.le_refl]
     refine ⟨⟨(by rintro x (rfl | rfl) <;> rfl), by omega, by unfold maxLen; omega⟩, fun u' => ⟨by omega, Ai.le ⟨(k + 1, u'), ⟨hlt, (by first | omega | (simp only; omega))⟩, rfl⟩ (by simp +contextual -dsimp only [↓SD, SU, simprocAttr, Int.natCast_add, hq, hqb, List.length_append]) (by simp +contextual -dsimp only [↓SD, SU, simprocAttr, hq, hqb, List.map_append, e92, hbv, h34])⟩⟩
   ·by_cases h32 : (32 : Int) ≤ b.toNat ∧ (b.toNat : Int) ≤ 126
    ·have hqb : E7 b = [b] := by unfold E7; rw [if_neg (by omega), if_neg (by omega), if_pos (by omega)]
     have g1 : ¬ (b.toNat : Int) = 34 := fun h => h34 (.inl h)
     have g2 : ¬ (b.toNat : Int) = 92 := fun h => h34 (.inr h)
     obtain ⟨g3, g4⟩ := h32
     simp +contextual -dsimp only [↓SD, SU, simprocAttr, hlt, ← hbe, h10, g1, g2, g3, g4, ht, Aa, Nat.le_refl]
     refine ⟨⟨by omega, by unfold maxLen; omega⟩, fun u' => ⟨by omega, Ai.le ⟨(k + 1, u'), ⟨hlt, (by first | omega | (simp only; omega))⟩, rfl⟩ (by simp +contextual -dsimp only [↓SD, SU, simprocAttr, Int.natCast_add, hq, hqb, List.length_append]) (by simp +contextual -dsimp only [↓SD, SU, simprocAttr, hq, hqb, List.map_append, hbv])⟩⟩
    ·have hqb : E7 b = [92, 120, Jd (b.toNat / 16), Jd (b.toNat % 16)] := by unfold E7; rw [if_neg (by omega), if_neg (by omega), if_neg (by omega)]
     have g1 : ¬ (b.toNat : Int) = 34 := fun h => h34 (.inl h)
     have g2 : ¬ (b.toNat : Int) = 92 := fun h => h34 (.inr h)
     have C1 := KY (b.toNat / 16) (by omega)
     have C2 := KY (b.toNat % 16) (by omega)
     by_cases g3 : (32 : Int) ≤ b.toNat
     ·have g4 : ¬ (b.toNat : Int) ≤ 126 := fun h => h32 ⟨g3, h⟩
      simp +contextual -dsimp only [↓SD, SU, simprocAttr, hlt, ← hbe, h10, g1, g2, g3, g4, hd, hm, ht, Aa, Nat.le_refl]
      refine ⟨by omega, by omega, ?_⟩
      refine Ag _ C1 ?_
      simp +contextual -dsimp only [↓SD, SU, simprocAttr, hd, hm, ht, Aa, Nat.le_refl]
      refine ⟨by omega, by omega, ?_⟩
      refine Ag _ C2 ?_
      simp +contextual -dsimp only [↓SD, SU, simprocAttr, hd, hm, ht, Aa, Nat.le_refl]
      refine ⟨⟨(by rintro x (rfl | rfl | rfl | rfl) <;> rfl), by omega, by unfold maxLen; omega⟩, fun u' => ⟨by omega, Ai.le ⟨(k + 1, u'), ⟨hlt, (by first | omega | (simp only; omega))⟩, rfl⟩ (by simp +contextual -dsimp only [↓SD, SU, simprocAttr, Int.natCast_add, hq, hqb, List.length_append]) (by simp +contextual -dsimp only [↓SD, SU, simprocAttr, hq, hqb, List.map_append, e92, AcC, hx1, hx2])⟩⟩
     ·simp +contextual -dsimp only [↓SD, SU, simprocAttr, hlt, ← hbe, h10, g1, g2, g3, hd, hm, ht, Aa, Nat.le_refl]
      refine ⟨by omega, by omega, ?_⟩
      refine Ag _ C1 ?_
      simp +contextual -dsimp only [↓SD, SU, simprocAttr, hd, hm, ht, Aa, Nat.le_refl]
      refine ⟨by omega, by omega, ?_⟩
      refine Ag _ C2 ?_
      simp +contextual -dsimp only [↓SD, SU, simprocAttr, hd, hm, ht, Aa, Nat.le_refl]
      refine ⟨⟨(by rintro x (rfl | rfl | rfl | rfl) <;> rfl), by omega, by unfold maxLen; omega⟩, fun u' => ⟨by omega, Ai.le ⟨(k + 1, u'), ⟨hlt, (by first | omega | (simp only; omega))⟩, rfl⟩ (by simp +contextual -dsimp only [↓SD, SU, simprocAttr, Int.natCast_add, hq, hqb, List.length_append]) (by simp +contextual -dsimp only [↓SD, SU, simprocAttr, hq, hqb, List.map_append, e92, AcC, hx1, hx2])⟩⟩
 ·obtain rfl : k = s.size := by omega
  have hfull : s.data.toList.take s.size = s.data.toList := List.take_of_length_le (by simp)
  rw [← hLe]
  rw [hfull] at hLe
  simp +contextual -dsimp only [↓SD, SU, simprocAttr, Nat.lt_irrefl, ht, Aa, Nat.le_refl]
  refine ⟨⟨by omega, by unfold maxLen; omega⟩, fun u' => ?_⟩
  refine NI _ _ (L ++ [34]) (Yx rfl rfl (by simp)) (by rw [List.map_append]; rfl) ?_
  simp +contextual -dsimp only [↓SD, SU, simprocAttr, Uy, hLe]
end Go.Proofs.YteeiaaogmjbcjaaGreat
set_option linter.unusedVariables false
set_option maxRecDepth 100000
namespace Go.Proofs.YteeiaaogmjbcjaaGreat
open Go.Proofs.YteeiaaogmjbcjaaGreat.Av

theorem QF : Tryz.prog.follows .mixedOrders = true := by kernel_rfl

def D9 : Ir Tryz.prog 130 [] [] 1 := ⟨_, _, Tryz.func130, QF, by kernel_rfl, Az [] Tryz.progTables (by conv => lhs; cbv) (by kernel_rfl)⟩
end Go.Proofs.YteeiaaogmjbcjaaGreat
set_option linter.unusedVariables false
set_option linter.unusedSimpArgs false
set_option maxRecDepth 100000
set_option linter.unusedVariables false
set_option linter.unusedSimpArgs false
set_option maxRecDepth 100000
namespace Go.Proofs.YteeiaaogmjbcjaaGreat
open Go.RowKit Go.Proofs.YteeiaaogmjbcjaaGreat.Av Go.Proofs.YteeiaaogmjbcjaaGreat.Ml
open Go.Proofs.YteeiaaogmjbcjaaGreat.Av.AVal (av)

def Gw : List UInt8 → Nat → Option Nat
 | [], n => some n
 | b :: l, n => if (48 ≤ b.toNat ∧ b.toNat ≤ 57) ∧ n ≤ 500000000000000000 then Gw l (10 * n + (b.toNat - 48)) else none
def minus (s : ByteArray) : Nat := if (AW s 0).toNat = 45 then 1 else 0
def HW (s : ByteArray) : Option Int :=
 if s.size = 0 ∨ 20 < s.size then none else
 match Gw (s.data.toList.drop (minus s)) 0 with
 | none => none
 | some k => if Jc (if minus s = 1 then -(k : Int) else k) = s then some (if minus s = 1 then -(k : Int) else k) else none
def HV (s : ByteArray) : AV := match HW s with
 | some n => .tup [.int .i64 n, .bool true]
 | none => .tup [.int .i64 0, .bool false]
theorem Uj (s : ByteArray) : Ap (HV s) := by
 unfold HV; split
 ·exact Ap.tup (by simp; exact ⟨E0 _, Ap.bool _⟩)
 ·exact Ap.tup (by simp; exact ⟨E0 _, Ap.bool _⟩)
theorem HU (s : ByteArray) (h : HW s = none) : HV s = .tup [.int .i64 0, .bool false] := by unfold HV; rw [h]
theorem Ou (s : ByteArray) (n : Int) (h : HW s = some n) : HV s = .tup [.int .i64 n, .bool true] := by unfold HV; rw [h]
theorem Mh (s : ByteArray) (h : s.size = 0 ∨ 20 < s.size) : HW s = none := by unfold HW; rw [if_pos h]
theorem Ul (s : ByteArray) (h : Gw (s.data.toList.drop (minus s)) 0 = none) : HW s = none := by unfold HW; rw [h]; simp
theorem Uk (s : ByteArray) (h0 : ¬ (s.size = 0 ∨ 20 < s.size)) (k : Nat) (h : Gw (s.data.toList.drop (minus s)) 0 = some k) :
  HW s = if Jc (if minus s = 1 then -(k : Int) else k) = s then some (if minus s = 1 then -(k : Int) else k) else none := by unfold HW; rw [if_neg h0, h]
theorem U9 (s : ByteArray) {i : Nat} (h : i < s.size) : s.data.toList.drop i = AW s i :: s.data.toList.drop (i + 1) := by
 have h' : i < s.data.toList.length := by simpa using h
 rw [List.drop_eq_getElem_cons h']
 congr 1
 have h2 : i < s.data.size := h
 simp only [AW, Array.getD_eq_getD_getElem?, Array.getElem?_eq_getElem h2, Option.getD_some, Array.getElem_toList]
theorem Yp (s : ByteArray) {i : Nat} (h : s.size ≤ i) : s.data.toList.drop i = [] := by
 rw [List.drop_eq_nil_iff]; simpa using h
theorem LJ (s : ByteArray) {i n : Nat} (h : i < s.size) : Gw (s.data.toList.drop i) n =
  if (48 ≤ (AW s i).toNat ∧ (AW s i).toNat ≤ 57) ∧ n ≤ 500000000000000000 then Gw (s.data.toList.drop (i + 1)) (10 * n + ((AW s i).toNat - 48)) else none := by
 rw [U9 s h]; rfl
theorem Sd (s : ByteArray) : minus s ≤ 1 := by unfold minus; split <;> omega
def Vm (s : ByteArray) (i n : Nat) : Prop := minus s ≤ i ∧ i ≤ s.size ∧ n ≤ 5000000000000000009 ∧ Gw (s.data.toList.drop i) n = Gw (s.data.toList.drop (minus s)) 0
theorem N1 (s : ByteArray) (h : s.size ≠ 0) : Vm s (minus s) 0 := ⟨Nat.le_refl _, by have := Sd s; omega, by omega, rfl⟩
theorem YB (s : ByteArray) {i n : Nat} (h : Vm s i n) (hi : i < s.size) (hb : 48 ≤ (AW s i).toNat ∧ (AW s i).toNat ≤ 57) (hn : n ≤ 500000000000000000) : Vm s (i + 1) (10 * n + ((AW s i).toNat - 48)) := by
 obtain ⟨h1, h2, h3, h4⟩ := h
 refine ⟨by omega, by omega, by omega, ?_⟩
 rw [← h4, LJ s hi, if_pos ⟨hb, hn⟩]
theorem Aav (s : ByteArray) {i n : Nat} (h : Vm s i n) (hi : i < s.size) (hb : ¬ ((48 ≤ (AW s i).toNat ∧ (AW s i).toNat ≤ 57) ∧ n ≤ 500000000000000000)) : HV s = .tup [.int .i64 0, .bool false] := by
 apply HU
 apply Ul
 rw [← h.2.2.2, LJ s hi, if_neg hb]
theorem Aau (s : ByteArray) {n : Nat} (h : Vm s s.size n) (h0 : ¬ (s.size = 0 ∨ 20 < s.size)) : HV s = if Jc (if minus s = 1 then -(n : Int) else n) = s then .tup [.int .i64 (if minus s = 1 then -(n : Int) else n), .bool true] else .tup [.int .i64 0, .bool false] := by
 have he := h.2.2.2
 rw [Yp s (Nat.le_refl _)] at he
 have := Uk s h0 n he.symm
 by_cases hs : Jc (if minus s = 1 then -(n : Int) else n) = s
 ·rw [if_pos hs] at this ⊢; exact Ou _ _ this
 ·rw [if_neg hs] at this ⊢; exact HU _ this
end Go.Proofs.YteeiaaogmjbcjaaGreat
set_option linter.unusedVariables false
set_option linter.unusedSimpArgs false
set_option maxRecDepth 100000
namespace Go.Proofs.YteeiaaogmjbcjaaGreat
open Go.RowKit Go.Proofs.YteeiaaogmjbcjaaGreat.Av Go.Proofs.YteeiaaogmjbcjaaGreat.Ml
open Go.Proofs.YteeiaaogmjbcjaaGreat.Av.AVal (av)

theorem Mi (s : ByteArray) : AJ Tryz.prog 130 [.str s] (HV s) := by
 refine D9.F rfl (by simp; exact Ap.str _) (Uj s) ?_
 by_cases h0 : (s.size : Int) < 1
 ·rw [HU s (Mh s (.inl (by omega)))]
  simp +contextual -dsimp only [↓SD, SU, simprocAttr, D9, h0]
 by_cases h20 : (20 : Int) < s.size
 ·rw [HU s (Mh s (.inr (by omega)))]
  simp +contextual -dsimp only [↓SD, SU, simprocAttr, D9, h0, h20]
 have hz : ¬ (s.size = 0 ∨ 20 < s.size) := by omega
 have hs0 : (0 : Int) < s.size := by omega
 have hm := Sd s
 simp +contextual -dsimp only [↓SD, SU, simprocAttr, D9, h0, h20, hs0]
 have hbt : minus s = 1 ↔ ((AW s 0).toNat : Int) = 45 := by unfold minus; split <;> omega
 have hst0 : (((0, 0) : Nat × Nat) = (0, 0) ∧ minus s = 1) ∨ Vm s 0 0 := by
  by_cases h : minus s = 1
  ·exact .inl ⟨rfl, h⟩
  ·have := N1 s (by omega)
   rw [show minus s = 0 by omega] at this
   exact .inr this
 refine AG (X := Nat × Nat) (fun x => ⟨[(0, .str s), (4, .int .i64 x.2), (5, .int .i64 x.1)], []⟩) (fun x => (x = (0, 0) ∧ minus s = 1) ∨ Vm s x.1 x.2) (fun x => s.size - x.1) (0, 0) (hst0) (by simp +contextual -dsimp only [↓SD, SU, simprocAttr]) (by simp +contextual -dsimp only [↓SD, SU, simprocAttr]) ?_
 rintro ⟨i, n⟩ hp
 rcases hp with ⟨hp, hm1⟩ | hp
 ·cases hp
  have h45 := hbt.1 hm1
  have hlt : (0 : Nat) < s.size := by omega
  have hst := N1 s (by omega)
  rw [hm1] at hst
  simp +contextual -dsimp only [↓SD, SU, simprocAttr, hlt, hs0, h45]
  exact Ai.le ⟨(1, 0), ⟨.inr hst, (by first | omega | (simp only; omega))⟩, rfl⟩ (by simp +contextual -dsimp only [↓SD, SU, simprocAttr]) (by simp +contextual -dsimp only [↓SD, SU, simprocAttr])
 have hp' := hp
 obtain ⟨p1, p2, p3, p4⟩ := hp'
 simp only at hp p1 p2 p3 p4
 by_cases hlt : i < s.size
 ·have h26 : ¬ ((i : Int) = 0 ∧ ((AW s i).toNat : Int) = 45) := by
   rintro ⟨ha, hb⟩
   obtain rfl : i = 0 := by omega
   have := hbt.2 hb
   omega
  have hnx := YB s hp hlt
  have hbad := Aav s hp hlt
  have hb := b8 s i
  obtain ⟨b, hbe⟩ : ∃ b, b = AW s i := ⟨_, rfl⟩
  rw [← hbe] at hnx hbad hb h26
  have hsub : 48 ≤ b.toNat → ((b.toNat : Int) - 48) = ((b.toNat - 48 : Nat) : Int) := by omega
  by_cases hi0 : (i : Int) = 0
  ·obtain rfl : i = 0 := by omega
   have g45 : ¬ (b.toNat : Int) = 45 := fun h => h26 ⟨rfl, h⟩
   by_cases hd1 : (b.toNat : Int) < 48
   ·rw [hbad (by omega)]
    simp +contextual -dsimp only [↓SD, SU, simprocAttr, hlt, hs0, ← hbe, g45, hd1]
   by_cases hd2 : (57 : Int) < b.toNat
   ·rw [hbad (by omega)]
    simp +contextual -dsimp only [↓SD, SU, simprocAttr, hlt, hs0, ← hbe, g45, hd1, hd2]
   by_cases hn : (500000000000000000 : Int) < n
   ·rw [hbad (by omega)]
    simp +contextual -dsimp only [↓SD, SU, simprocAttr, hlt, hs0, ← hbe, g45, hd1, hd2, hn]
   have hy := hnx (by omega) (by omega)
   have hsub := hsub (by omega)
   have hcm : (n : Int) * 10 = 10 * (n : Int) := Int.mul_comm _ _
   simp +contextual -dsimp only [↓SD, SU, simprocAttr, hlt, hs0, ← hbe, g45, hd1, hd2, hn, hsub, hcm]
   refine ⟨⟨by omega, by omega⟩, by omega, ⟨by omega, by omega⟩, ⟨by omega, by omega⟩, Ai.le ⟨(1, 10 * n + (b.toNat - 48)), ⟨.inr hy, (by first | omega | (simp only; omega))⟩, rfl⟩ (by simp +contextual -dsimp only [↓SD, SU, simprocAttr, Int.natCast_add, Int.natCast_mul]) (by simp +contextual -dsimp only [↓SD, SU, simprocAttr])⟩
  ·by_cases hd1 : (b.toNat : Int) < 48
   ·rw [hbad (by omega)]
    simp +contextual -dsimp only [↓SD, SU, simprocAttr, hlt, ← hbe, hi0, hd1]
   by_cases hd2 : (57 : Int) < b.toNat
   ·rw [hbad (by omega)]
    simp +contextual -dsimp only [↓SD, SU, simprocAttr, hlt, ← hbe, hi0, hd1, hd2]
   by_cases hn : (500000000000000000 : Int) < n
   ·rw [hbad (by omega)]
    simp +contextual -dsimp only [↓SD, SU, simprocAttr, hlt, ← hbe, hi0, hd1, hd2, hn]
   have hy := hnx (by omega) (by omega)
   have hsub := hsub (by omega)
   have hcm : (n : Int) * 10 = 10 * (n : Int) := Int.mul_comm _ _
   simp +contextual -dsimp only [↓SD, SU, simprocAttr, hlt, ← hbe, hi0, hd1, hd2, hn, hsub, hcm]
   refine ⟨⟨by omega, by omega⟩, by omega, ⟨by omega, by omega⟩, ⟨by omega, by omega⟩, ⟨by omega, by omega⟩, Ai.le ⟨(i + 1, 10 * n + (b.toNat - 48)), ⟨.inr hy, (by first | omega | (simp only; omega))⟩, rfl⟩ (by simp +contextual -dsimp only [↓SD, SU, simprocAttr, Int.natCast_add, Int.natCast_mul]) (by simp +contextual -dsimp only [↓SD, SU, simprocAttr])⟩
 ·obtain rfl : i = s.size := by omega
  have he := Aau s hp hz
  by_cases hm1 : minus s = 1
  ·have h45 := hbt.1 hm1
   rw [hm1] at he
   simp only [if_true] at he
   simp +contextual -dsimp only [↓SD, SU, simprocAttr, Nat.lt_irrefl, hs0, h45]
   refine ⟨⟨by omega, by omega⟩, Ag _ (FI (-(n : Int)) (by omega)) ?_⟩
   by_cases hs : Jc (-(n : Int)) = s
   ·rw [if_pos hs] at he
    rw [he]
    simp +contextual -dsimp only [↓SD, SU, simprocAttr, hs]
   ·rw [if_neg hs] at he
    rw [he]
    simp +contextual -dsimp only [↓SD, SU, simprocAttr, hs]
  ·have h45 : ¬ ((AW s 0).toNat : Int) = 45 := fun h => hm1 (hbt.2 h)
   simp only [if_neg hm1] at he
   simp +contextual -dsimp only [↓SD, SU, simprocAttr, Nat.lt_irrefl, hs0, h45]
   refine Ag _ (FI (n : Int) (by omega)) ?_
   by_cases hs : Jc (n : Int) = s
   ·rw [if_pos hs] at he
    rw [he]
    simp +contextual -dsimp only [↓SD, SU, simprocAttr, hs]
   ·rw [if_neg hs] at he
    rw [he]
    simp +contextual -dsimp only [↓SD, SU, simprocAttr, hs]
end Go.Proofs.YteeiaaogmjbcjaaGreat
