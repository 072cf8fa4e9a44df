/-
 Quote, of the program and of the reference, by abstract texts. Conditions: none.
-/
import Derived.Test.YteeiaaogmjbcjaaGreatKJ21
import Derived.Test.YteeiaaogmjbcjaaGreatProg
import Derived.Test.YteeiaaogmjbcjaaGreatKAvDraw
import Derived.Test.YteeiaaogmjbcjaaGreatKJ07
set_option linter.unusedVariables false
set_option linter.unusedSimpArgs false
set_option maxRecDepth 100000
namespace Go.Proofs.YteeiaaogmjbcjaaGreat
open Go.RowKit Go.Proofs.YteeiaaogmjbcjaaGreat.Av Go.Proofs.YteeiaaogmjbcjaaGreat.Ml
open Go.Proofs.YteeiaaogmjbcjaaGreat.Av.AVal (av)

def Kb (n : Nat) : UInt8 := if n < 10 then UInt8.ofNat (48 + n) else UInt8.ofNat (87 + n)
def FM (b : UInt8) : List UInt8 :=
 if b.toNat = 10 then [92, 110] else if b.toNat = 34 ∨ b.toNat = 92 then [92, b] else if 32 ≤ b.toNat ∧ b.toNat ≤ 126 then [b] else [92, 120, Kb (b.toNat / 16), Kb (b.toNat % 16)]
def Fs (l : List UInt8) : List UInt8 := 34 :: l.flatMap FM
def VH (s : ByteArray) : ByteArray := ⟨(Fs s.data.toList ++ [34]).toArray⟩
theorem VJ (b : UInt8) : (FM b).length ≤ 4 := by
 unfold FM; repeat' split
 all_goals simp
theorem VI : ∀ (l : List UInt8), (Fs l).length ≤ 4 * l.length + 1 := by
 intro l
 induction l with
 | nil => simp [Fs]
 | cons b r ih =>
  have := VJ b
  simp only [Fs, List.flatMap_cons, List.length_cons, List.length_append] at ih ⊢
  omega
theorem L3 (n : Nat) (h : n < 16) : AG Tryz.prog 158 [.int .i64 (n : Int)] (.int .u8 ((Kb n).toNat : Int)) := by
 refine Jw.F rfl (by simp; exact Ea _) (pu8 _) ?_
 have ht : (n : Int).tmod 16 = (n : Int) := by rw [Int.tmod_eq_emod_of_nonneg (by omega)]; omega
 have hb : ∀ m, m < 16 → (A1 (bs [48, 49, 50, 51, 52, 53, 54, 55, 56, 57, 97, 98, 99, 100, 101, 102]) m) = Kb m := by decide +kernel
 have hz : (bs [48, 49, 50, 51, 52, 53, 54, 55, 56, 57, 97, 98, 99, 100, 101, 102]).size = 16 := by decide +kernel
 simp +contextual -dsimp only [↓SD, SU, simprocAttr, Jw, ht, hz, hb n h]
 omega
theorem Wl (s : ByteArray) {k : Nat} (h : k < s.size) : s.data.toList.take (k + 1) = s.data.toList.take k ++ [A1 s k] := by
 have h' : k < s.data.toList.length := by simpa using h
 rw [List.take_succ_eq_append_getElem h']
 congr 2
 have h2 : k < s.data.size := h
 simp only [A1, Array.getD_eq_getD_getElem?, Array.getElem?_eq_getElem h2, Option.getD_some, Array.getElem_toList]
theorem VF (s : ByteArray) {k : Nat} (h : k < s.size) : Fs (s.data.toList.take (k + 1)) = Fs (s.data.toList.take k) ++ FM (A1 s k) := by
 unfold Fs; rw [Wl s h, List.flatMap_append]; simp
theorem VG (s : ByteArray) (k : Nat) : (Fs (s.data.toList.take k)).length ≤ 4 * s.size + 1 := by
 have := VI (s.data.toList.take k)
 rw [List.length_take] at this
 have h2 : s.data.toList.length = s.size := by simp
 omega
theorem e34 : (av (34 : UInt8)) = AV.int .u8 34 := rfl
theorem e92 : (av (92 : UInt8)) = AV.int .u8 92 := rfl
theorem Aes : (av (110 : UInt8)) = AV.int .u8 110 := rfl
theorem Ad0 : (av (120 : UInt8)) = AV.int .u8 120 := rfl
theorem Rq (s : ByteArray) (hs : s.size ≤ 1048576) : AG Tryz.prog 149 [.str s] (.str (VH s)) := by
 refine Kk.F rfl (by simp; exact Aj.str _) (Aj.str _) ?_
 simp +contextual -dsimp only [↓SD, SU, simprocAttr, Kk]
 intro v
 refine AF (X := Nat × Nat) (fun x => ⟨[(0, .str s), (3, .row 6 x.2 (Fs (s.data.toList.take x.1)).length), (4, .int .i64 x.1)], [(6, ⟨x.2, false, 5, 1, (Fs (s.data.toList.take x.1)).map av⟩)]⟩) (fun x => x.1 ≤ s.size) (fun x => s.size - x.1) (0, v) (Nat.zero_le _) (by simp +contextual -dsimp only [↓SD, SU, simprocAttr, Fs, List.flatMap_nil]) (by simp +contextual -dsimp only [↓SD, SU, simprocAttr, Fs, List.flatMap_nil, e34]) ?_
 rintro ⟨k, u⟩ hk
 simp only at hk
 have hL := VG s k
 obtain ⟨L, hLe⟩ : ∃ L, L = Fs (s.data.toList.take k) := ⟨_, rfl⟩
 rw [← hLe] at hL
 have ht : List.take L.length (L.map (av : UInt8 → AV)) = L.map av := List.take_of_length_le (by simp)
 by_cases hlt : k < s.size
 ·have hq := VF s hlt
  have hb := b8 s k
  rw [← hLe] at hq ⊢
  obtain ⟨b, hbe⟩ : ∃ b, b = A1 s k := ⟨_, rfl⟩
  rw [← hbe] at hq hb
  have hbv : av b = AV.int .u8 (b.toNat : Int) := rfl
  have hx1 : av (Kb (b.toNat / 16)) = AV.int .u8 ((Kb (b.toNat / 16)).toNat : Int) := rfl
  have hx2 : av (Kb (b.toNat % 16)) = AV.int .u8 ((Kb (b.toNat % 16)).toNat : Int) := rfl
  have hd : ((b.toNat : Int)).tdiv 16 = ((b.toNat / 16 : Nat) : Int) := by rw [Int.tdiv_eq_ediv_of_nonneg (by omega)]; rfl
  have hm : ((b.toNat : Int)).tmod 16 = ((b.toNat % 16 : Nat) : Int) := by rw [Int.tmod_eq_emod_of_nonneg (by omega)]; rfl
  by_cases h10 : (b.toNat : Int) = 10
  ·have hqb : FM b = [92, 110] := by unfold FM; rw [if_pos (by omega)]
   simp +contextual -dsimp only [↓SD, SU, simprocAttr, hlt, ← hbe, h10, ht, Aa, Nat.le_refl]
   refine ⟨⟨(by rintro x (rfl | rfl) <;> rfl), by omega, by unfold maxLen; omega⟩, fun u' => ⟨by omega, Ah.le ⟨(k + 1, u'), ⟨hlt, (by first | omega | (simp only; omega))⟩, rfl⟩ (by simp +contextual -dsimp only [↓SD, SU, simprocAttr, Int.natCast_add, hq, hqb, List.length_append]) (by simp +contextual -dsimp only [↓SD, SU, simprocAttr, hq, hqb, List.map_append, e92, Aes])⟩⟩
  ·by_cases h34 : (b.toNat : Int) = 34 ∨ (b.toNat : Int) = 92
   ·have hqb : FM b = [92, b] := by unfold FM; rw [if_neg (by omega), if_pos (by omega)]
    rcases h34 with h34 | h34
    ·simp +contextual -dsimp only [↓SD, SU, simprocAttr, hlt, ← hbe, h10, h34, ht, Aa, Nat.le_refl]
     refine ⟨⟨(by rintro x (rfl | rfl) <;> rfl), by omega, by unfold maxLen; omega⟩, fun u' => ⟨by omega, Ah.le ⟨(k + 1, u'), ⟨hlt, (by first | omega | (simp only; omega))⟩, rfl⟩ (by simp +contextual -dsimp only [↓SD, SU, simprocAttr, Int.natCast_add, hq, hqb, List.length_append]) (by simp +contextual -dsimp only [↓SD, SU, simprocAttr, hq, hqb, List.map_append, e92, hbv, h34])⟩⟩
    ·simp +contextual -dsimp only [↓SD, SU, simprocAttr, hlt, ← hbe, h10, h34, ht, Aa, Nat.le_refl]
     refine ⟨⟨(by rintro x (rfl | rfl) <;> rfl), by omega, by unfold maxLen; omega⟩, fun u' => ⟨by omega, Ah.le ⟨(k + 1, u'), ⟨hlt, (by first | omega | (simp only; omega))⟩, rfl⟩ (by simp +contextual -dsimp only [↓SD, SU, simprocAttr, Int.natCast_add, hq, hqb, List.length_append]) (by simp +contextual -dsimp only [↓SD, SU, simprocAttr, hq, hqb, List.map_append, e92, hbv, h34])⟩⟩
   ·by_cases h32 : (32 : Int) ≤ b.toNat ∧ (b.toNat : Int) ≤ 126
    ·have hqb : FM b = [b] := by unfold FM; rw [if_neg (by omega), if_neg (by omega), if_pos (by omega)]
     have g1 : ¬ (b.toNat : Int) = 34 := fun h => h34 (.inl h)
     have g2 : ¬ (b.toNat : Int) = 92 := fun h => h34 (.inr h)
     obtain ⟨g3, g4⟩ := h32
     simp +contextual -dsimp only [↓SD, SU, simprocAttr, hlt, ← hbe, h10, g1, g2, g3, g4, ht, Aa, Nat.le_refl]
     refine ⟨⟨by omega, by unfold maxLen; omega⟩, fun u' => ⟨by omega, Ah.le ⟨(k + 1, u'), ⟨hlt, (by first | omega | (simp only; omega))⟩, rfl⟩ (by simp +contextual -dsimp only [↓SD, SU, simprocAttr, Int.natCast_add, hq, hqb, List.length_append]) (by simp +contextual -dsimp only [↓SD, SU, simprocAttr, hq, hqb, List.map_append, hbv])⟩⟩
    ·have hqb : FM b = [92, 120, Kb (b.toNat / 16), Kb (b.toNat % 16)] := by unfold FM; rw [if_neg (by omega), if_neg (by omega), if_neg (by omega)]
     have g1 : ¬ (b.toNat : Int) = 34 := fun h => h34 (.inl h)
     have g2 : ¬ (b.toNat : Int) = 92 := fun h => h34 (.inr h)
     have C1 := L3 (b.toNat / 16) (by omega)
     have C2 := L3 (b.toNat % 16) (by omega)
     by_cases g3 : (32 : Int) ≤ b.toNat
     ·have g4 : ¬ (b.toNat : Int) ≤ 126 := fun h => h32 ⟨g3, h⟩
      simp +contextual -dsimp only [↓SD, SU, simprocAttr, hlt, ← hbe, h10, g1, g2, g3, g4, hd, hm, ht, Aa, Nat.le_refl]
      refine ⟨by omega, by omega, ?_⟩
      refine Ae _ C1 ?_
      simp +contextual -dsimp only [↓SD, SU, simprocAttr, hd, hm, ht, Aa, Nat.le_refl]
      refine ⟨by omega, by omega, ?_⟩
      refine Ae _ C2 ?_
      simp +contextual -dsimp only [↓SD, SU, simprocAttr, hd, hm, ht, Aa, Nat.le_refl]
      refine ⟨⟨(by rintro x (rfl | rfl | rfl | rfl) <;> rfl), by omega, by unfold maxLen; omega⟩, fun u' => ⟨by omega, Ah.le ⟨(k + 1, u'), ⟨hlt, (by first | omega | (simp only; omega))⟩, rfl⟩ (by simp +contextual -dsimp only [↓SD, SU, simprocAttr, Int.natCast_add, hq, hqb, List.length_append]) (by simp +contextual -dsimp only [↓SD, SU, simprocAttr, hq, hqb, List.map_append, e92, Ad0, hx1, hx2])⟩⟩
     ·simp +contextual -dsimp only [↓SD, SU, simprocAttr, hlt, ← hbe, h10, g1, g2, g3, hd, hm, ht, Aa, Nat.le_refl]
      refine ⟨by omega, by omega, ?_⟩
      refine Ae _ C1 ?_
      simp +contextual -dsimp only [↓SD, SU, simprocAttr, hd, hm, ht, Aa, Nat.le_refl]
      refine ⟨by omega, by omega, ?_⟩
      refine Ae _ C2 ?_
      simp +contextual -dsimp only [↓SD, SU, simprocAttr, hd, hm, ht, Aa, Nat.le_refl]
      refine ⟨⟨(by rintro x (rfl | rfl | rfl | rfl) <;> rfl), by omega, by unfold maxLen; omega⟩, fun u' => ⟨by omega, Ah.le ⟨(k + 1, u'), ⟨hlt, (by first | omega | (simp only; omega))⟩, rfl⟩ (by simp +contextual -dsimp only [↓SD, SU, simprocAttr, Int.natCast_add, hq, hqb, List.length_append]) (by simp +contextual -dsimp only [↓SD, SU, simprocAttr, hq, hqb, List.map_append, e92, Ad0, hx1, hx2])⟩⟩
 ·obtain rfl : k = s.size := by omega
  have hfull : s.data.toList.take s.size = s.data.toList := List.take_of_length_le (by simp)
  rw [← hLe]
  rw [hfull] at hLe
  simp +contextual -dsimp only [↓SD, SU, simprocAttr, Nat.lt_irrefl, ht, Aa, Nat.le_refl]
  refine ⟨⟨by omega, by unfold maxLen; omega⟩, fun u' => ?_⟩
  refine OU _ _ (L ++ [34]) (ZT rfl rfl (by simp)) (by rw [List.map_append]; rfl) ?_
  simp +contextual -dsimp only [↓SD, SU, simprocAttr, VH, hLe]
end Go.Proofs.YteeiaaogmjbcjaaGreat
set_option linter.unusedVariables false
set_option maxRecDepth 100000
namespace Go.Proofs.YteeiaaogmjbcjaaGreat
open Go.Proofs.YteeiaaogmjbcjaaGreat.Av

theorem RU : Tryz.prog.follows .mixedOrders = true := by kernel_rfl

def EP : Ir Tryz.prog 130 [] [] 1 := ⟨_, _, Tryz.func130, RU, by kernel_rfl, Ay [] Tryz.progTables (by conv => lhs; cbv) (by kernel_rfl)⟩
end Go.Proofs.YteeiaaogmjbcjaaGreat
set_option linter.unusedVariables false
set_option linter.unusedSimpArgs false
set_option maxRecDepth 100000
set_option linter.unusedVariables false
set_option linter.unusedSimpArgs false
set_option maxRecDepth 100000
namespace Go.Proofs.YteeiaaogmjbcjaaGreat
open Go.RowKit Go.Proofs.YteeiaaogmjbcjaaGreat.Av Go.Proofs.YteeiaaogmjbcjaaGreat.Ml
open Go.Proofs.YteeiaaogmjbcjaaGreat.Av.AVal (av)

def Hm : List UInt8 → Nat → Option Nat
 | [], n => some n
 | b :: l, n => if (48 ≤ b.toNat ∧ b.toNat ≤ 57) ∧ n ≤ 500000000000000000 then Hm l (10 * n + (b.toNat - 48)) else none
def minus (s : ByteArray) : Nat := if (A1 s 0).toNat = 45 then 1 else 0
def Ja (s : ByteArray) : Option Int :=
 if s.size = 0 ∨ 20 < s.size then none else
 match Hm (s.data.toList.drop (minus s)) 0 with
 | none => none
 | some k => if J9 (if minus s = 1 then -(k : Int) else k) = s then some (if minus s = 1 then -(k : Int) else k) else none
def I9 (s : ByteArray) : AV := match Ja s with
 | some n => .tup [.int .i64 n, .bool true]
 | none => .tup [.int .i64 0, .bool false]
theorem Vt (s : ByteArray) : Aj (I9 s) := by
 unfold I9; split
 ·exact Aj.tup (by simp; exact ⟨Ea _, Aj.bool _⟩)
 ·exact Aj.tup (by simp; exact ⟨Ea _, Aj.bool _⟩)
theorem I8 (s : ByteArray) (h : Ja s = none) : I9 s = .tup [.int .i64 0, .bool false] := by unfold I9; rw [h]
theorem PI (s : ByteArray) (n : Int) (h : Ja s = some n) : I9 s = .tup [.int .i64 n, .bool true] := by unfold I9; rw [h]
theorem Ns (s : ByteArray) (h : s.size = 0 ∨ 20 < s.size) : Ja s = none := by unfold Ja; rw [if_pos h]
theorem Vv (s : ByteArray) (h : Hm (s.data.toList.drop (minus s)) 0 = none) : Ja s = none := by unfold Ja; rw [h]; simp
theorem Vu (s : ByteArray) (h0 : ¬ (s.size = 0 ∨ 20 < s.size)) (k : Nat) (h : Hm (s.data.toList.drop (minus s)) 0 = some k) :
  Ja s = if J9 (if minus s = 1 then -(k : Int) else k) = s then some (if minus s = 1 then -(k : Int) else k) else none := by unfold Ja; rw [if_neg h0, h]
theorem Wm (s : ByteArray) {i : Nat} (h : i < s.size) : s.data.toList.drop i = A1 s i :: s.data.toList.drop (i + 1) := by
 have h' : i < s.data.toList.length := by simpa using h
 rw [List.drop_eq_getElem_cons h']
 congr 1
 have h2 : i < s.data.size := h
 simp only [A1, Array.getD_eq_getD_getElem?, Array.getElem?_eq_getElem h2, Option.getD_some, Array.getElem_toList]
theorem ZM (s : ByteArray) {i : Nat} (h : s.size ≤ i) : s.data.toList.drop i = [] := by
 rw [List.drop_eq_nil_iff]; simpa using h
theorem MR (s : ByteArray) {i n : Nat} (h : i < s.size) : Hm (s.data.toList.drop i) n =
  if (48 ≤ (A1 s i).toNat ∧ (A1 s i).toNat ≤ 57) ∧ n ≤ 500000000000000000 then Hm (s.data.toList.drop (i + 1)) (10 * n + ((A1 s i).toNat - 48)) else none := by
 rw [Wm s h]; rfl
theorem Tp (s : ByteArray) : minus s ≤ 1 := by unfold minus; split <;> omega
def WB (s : ByteArray) (i n : Nat) : Prop := minus s ≤ i ∧ i ≤ s.size ∧ n ≤ 5000000000000000009 ∧ Hm (s.data.toList.drop i) n = Hm (s.data.toList.drop (minus s)) 0
theorem Pf (s : ByteArray) (h : s.size ≠ 0) : WB s (minus s) 0 := ⟨Nat.le_refl _, by have := Tp s; omega, by omega, rfl⟩
theorem ZX (s : ByteArray) {i n : Nat} (h : WB s i n) (hi : i < s.size) (hb : 48 ≤ (A1 s i).toNat ∧ (A1 s i).toNat ≤ 57) (hn : n ≤ 500000000000000000) : WB s (i + 1) (10 * n + ((A1 s i).toNat - 48)) := by
 obtain ⟨h1, h2, h3, h4⟩ := h
 refine ⟨by omega, by omega, by omega, ?_⟩
 rw [← h4, MR s hi, if_pos ⟨hb, hn⟩]
theorem AbN (s : ByteArray) {i n : Nat} (h : WB s i n) (hi : i < s.size) (hb : ¬ ((48 ≤ (A1 s i).toNat ∧ (A1 s i).toNat ≤ 57) ∧ n ≤ 500000000000000000)) : I9 s = .tup [.int .i64 0, .bool false] := by
 apply I8
 apply Vv
 rw [← h.2.2.2, MR s hi, if_neg hb]
theorem AbM (s : ByteArray) {n : Nat} (h : WB s s.size n) (h0 : ¬ (s.size = 0 ∨ 20 < s.size)) : I9 s = if J9 (if minus s = 1 then -(n : Int) else n) = s then .tup [.int .i64 (if minus s = 1 then -(n : Int) else n), .bool true] else .tup [.int .i64 0, .bool false] := by
 have he := h.2.2.2
 rw [ZM s (Nat.le_refl _)] at he
 have := Vu s h0 n he.symm
 by_cases hs : J9 (if minus s = 1 then -(n : Int) else n) = s
 ·rw [if_pos hs] at this ⊢; exact PI _ _ this
 ·rw [if_neg hs] at this ⊢; exact I8 _ this
end Go.Proofs.YteeiaaogmjbcjaaGreat
set_option linter.unusedVariables false
set_option linter.unusedSimpArgs false
set_option maxRecDepth 100000
namespace Go.Proofs.YteeiaaogmjbcjaaGreat
open Go.RowKit Go.Proofs.YteeiaaogmjbcjaaGreat.Av Go.Proofs.YteeiaaogmjbcjaaGreat.Ml
open Go.Proofs.YteeiaaogmjbcjaaGreat.Av.AVal (av)

theorem Nt (s : ByteArray) : AG Tryz.prog 130 [.str s] (I9 s) := by
 refine EP.F rfl (by simp; exact Aj.str _) (Vt s) ?_
 by_cases h0 : (s.size : Int) < 1
 ·rw [I8 s (Ns s (.inl (by omega)))]
  simp +contextual -dsimp only [↓SD, SU, simprocAttr, EP, h0]
 by_cases h20 : (20 : Int) < s.size
 ·rw [I8 s (Ns s (.inr (by omega)))]
  simp +contextual -dsimp only [↓SD, SU, simprocAttr, EP, h0, h20]
 have hz : ¬ (s.size = 0 ∨ 20 < s.size) := by omega
 have hs0 : (0 : Int) < s.size := by omega
 have hm := Tp s
 simp +contextual -dsimp only [↓SD, SU, simprocAttr, EP, h0, h20, hs0]
 have hbt : minus s = 1 ↔ ((A1 s 0).toNat : Int) = 45 := by unfold minus; split <;> omega
 have hst0 : (((0, 0) : Nat × Nat) = (0, 0) ∧ minus s = 1) ∨ WB s 0 0 := by
  by_cases h : minus s = 1
  ·exact .inl ⟨rfl, h⟩
  ·have := Pf s (by omega)
   rw [show minus s = 0 by omega] at this
   exact .inr this
 refine AF (X := Nat × Nat) (fun x => ⟨[(0, .str s), (4, .int .i64 x.2), (5, .int .i64 x.1)], []⟩) (fun x => (x = (0, 0) ∧ minus s = 1) ∨ WB s x.1 x.2) (fun x => s.size - x.1) (0, 0) (hst0) (by simp +contextual -dsimp only [↓SD, SU, simprocAttr]) (by simp +contextual -dsimp only [↓SD, SU, simprocAttr]) ?_
 rintro ⟨i, n⟩ hp
 rcases hp with ⟨hp, hm1⟩ | hp
 ·cases hp
  have h45 := hbt.1 hm1
  have hlt : (0 : Nat) < s.size := by omega
  have hst := Pf s (by omega)
  rw [hm1] at hst
  simp +contextual -dsimp only [↓SD, SU, simprocAttr, hlt, hs0, h45]
  exact Ah.le ⟨(1, 0), ⟨.inr hst, (by first | omega | (simp only; omega))⟩, rfl⟩ (by simp +contextual -dsimp only [↓SD, SU, simprocAttr]) (by simp +contextual -dsimp only [↓SD, SU, simprocAttr])
 have hp' := hp
 obtain ⟨p1, p2, p3, p4⟩ := hp'
 simp only at hp p1 p2 p3 p4
 by_cases hlt : i < s.size
 ·have h26 : ¬ ((i : Int) = 0 ∧ ((A1 s i).toNat : Int) = 45) := by
   rintro ⟨ha, hb⟩
   obtain rfl : i = 0 := by omega
   have := hbt.2 hb
   omega
  have hnx := ZX s hp hlt
  have hbad := AbN s hp hlt
  have hb := b8 s i
  obtain ⟨b, hbe⟩ : ∃ b, b = A1 s i := ⟨_, rfl⟩
  rw [← hbe] at hnx hbad hb h26
  have hsub : 48 ≤ b.toNat → ((b.toNat : Int) - 48) = ((b.toNat - 48 : Nat) : Int) := by omega
  by_cases hi0 : (i : Int) = 0
  ·obtain rfl : i = 0 := by omega
   have g45 : ¬ (b.toNat : Int) = 45 := fun h => h26 ⟨rfl, h⟩
   by_cases hd1 : (b.toNat : Int) < 48
   ·rw [hbad (by omega)]
    simp +contextual -dsimp only [↓SD, SU, simprocAttr, hlt, hs0, ← hbe, g45, hd1]
   by_cases hd2 : (57 : Int) < b.toNat
   ·rw [hbad (by omega)]
    simp +contextual -dsimp only [↓SD, SU, simprocAttr, hlt, hs0, ← hbe, g45, hd1, hd2]
   by_cases hn : (500000000000000000 : Int) < n
   ·rw [hbad (by omega)]
    simp +contextual -dsimp only [↓SD, SU, simprocAttr, hlt, hs0, ← hbe, g45, hd1, hd2, hn]
   have hy := hnx (by omega) (by omega)
   have hsub := hsub (by omega)
   have hcm : (n : Int) * 10 = 10 * (n : Int) := Int.mul_comm _ _
   simp +contextual -dsimp only [↓SD, SU, simprocAttr, hlt, hs0, ← hbe, g45, hd1, hd2, hn, hsub, hcm]
   refine ⟨⟨by omega, by omega⟩, by omega, ⟨by omega, by omega⟩, ⟨by omega, by omega⟩, Ah.le ⟨(1, 10 * n + (b.toNat - 48)), ⟨.inr hy, (by first | omega | (simp only; omega))⟩, rfl⟩ (by simp +contextual -dsimp only [↓SD, SU, simprocAttr, Int.natCast_add, Int.natCast_mul]) (by simp +contextual -dsimp only [↓SD, SU, simprocAttr])⟩
  ·by_cases hd1 : (b.toNat : Int) < 48
   ·rw [hbad (by omega)]
    simp +contextual -dsimp only [↓SD, SU, simprocAttr, hlt, ← hbe, hi0, hd1]
   by_cases hd2 : (57 : Int) < b.toNat
   ·rw [hbad (by omega)]
    simp +contextual -dsimp only [↓SD, SU, simprocAttr, hlt, ← hbe, hi0, hd1, hd2]
   by_cases hn : (500000000000000000 : Int) < n
   ·rw [hbad (by omega)]
    simp +contextual -dsimp only [↓SD, SU, simprocAttr, hlt, ← hbe, hi0, hd1, hd2, hn]
   have hy := hnx (by omega) (by omega)
   have hsub := hsub (by omega)
   have hcm : (n : Int) * 10 = 10 * (n : Int) := Int.mul_comm _ _
   simp +contextual -dsimp only [↓SD, SU, simprocAttr, hlt, ← hbe, hi0, hd1, hd2, hn, hsub, hcm]
   refine ⟨⟨by omega, by omega⟩, by omega, ⟨by omega, by omega⟩, ⟨by omega, by omega⟩, ⟨by omega, by omega⟩, Ah.le ⟨(i + 1, 10 * n + (b.toNat - 48)), ⟨.inr hy, (by first | omega | (simp only; omega))⟩, rfl⟩ (by simp +contextual -dsimp only [↓SD, SU, simprocAttr, Int.natCast_add, Int.natCast_mul]) (by simp +contextual -dsimp only [↓SD, SU, simprocAttr])⟩
 ·obtain rfl : i = s.size := by omega
  have he := AbM s hp hz
  by_cases hm1 : minus s = 1
  ·have h45 := hbt.1 hm1
   rw [hm1] at he
   simp only [if_true] at he
   simp +contextual -dsimp only [↓SD, SU, simprocAttr, Nat.lt_irrefl, hs0, h45]
   refine ⟨⟨by omega, by omega⟩, Ae _ (Gp (-(n : Int)) (by omega)) ?_⟩
   by_cases hs : J9 (-(n : Int)) = s
   ·rw [if_pos hs] at he
    rw [he]
    simp +contextual -dsimp only [↓SD, SU, simprocAttr, hs]
   ·rw [if_neg hs] at he
    rw [he]
    simp +contextual -dsimp only [↓SD, SU, simprocAttr, hs]
  ·have h45 : ¬ ((A1 s 0).toNat : Int) = 45 := fun h => hm1 (hbt.2 h)
   simp only [if_neg hm1] at he
   simp +contextual -dsimp only [↓SD, SU, simprocAttr, Nat.lt_irrefl, hs0, h45]
   refine Ae _ (Gp (n : Int) (by omega)) ?_
   by_cases hs : J9 (n : Int) = s
   ·rw [if_pos hs] at he
    rw [he]
    simp +contextual -dsimp only [↓SD, SU, simprocAttr, hs]
   ·rw [if_neg hs] at he
    rw [he]
    simp +contextual -dsimp only [↓SD, SU, simprocAttr, hs]
end Go.Proofs.YteeiaaogmjbcjaaGreat
