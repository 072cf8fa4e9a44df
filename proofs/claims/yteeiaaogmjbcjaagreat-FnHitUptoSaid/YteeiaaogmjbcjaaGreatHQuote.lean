/-
 Quote, of the program and of the reference, by abstract texts. Conditions: none.
-/
import Derived.Test.YteeiaaogmjbcjaaGreatHJ26
set_option linter.unusedVariables false
set_option linter.unusedSimpArgs false
set_option maxRecDepth 100000
namespace Go.Proofs.YteeiaaogmjbcjaaGreat
open Go.RowKit Go.Proofs.YteeiaaogmjbcjaaGreat.Av Go.Proofs.YteeiaaogmjbcjaaGreat.Ml
open Go.Proofs.YteeiaaogmjbcjaaGreat.Av.AVal (av)

def hexB (n : Nat) : UInt8 := if n < 10 then UInt8.ofNat (48 + n) else UInt8.ofNat (87 + n)
def quoteB (b : UInt8) : List UInt8 :=
 if b.toNat = 10 then [92, 110] else if b.toNat = 34 ∨ b.toNat = 92 then [92, b] else if 32 ≤ b.toNat ∧ b.toNat ≤ 126 then [b] else [92, 120, hexB (b.toNat / 16), hexB (b.toNat % 16)]
def quoteL (l : List UInt8) : List UInt8 := 34 :: l.flatMap quoteB
def quoteS (s : ByteArray) : ByteArray := ⟨(quoteL s.data.toList ++ [34]).toArray⟩
theorem quoteB_len (b : UInt8) : (quoteB b).length ≤ 4 := by
 unfold quoteB; repeat' split
 all_goals simp
theorem quoteL_len : ∀ (l : List UInt8), (quoteL l).length ≤ 4 * l.length + 1 := by
 intro l
 induction l with
 | nil => simp [quoteL]
 | cons b r ih =>
  have := quoteB_len b
  simp only [quoteL, List.flatMap_cons, List.length_cons, List.length_append] at ih ⊢
  omega
theorem l01Hex_ok (n : Nat) (h : n < 16) : CallsF Tryz.prog 158 [.int .i64 (n : Int)] (.int .u8 ((hexB n).toNat : Int)) := by
 refine ir_spec_l01Hex.F rfl (by simp; exact pint _) (pu8 _) ?_
 have ht : (n : Int).tmod 16 = (n : Int) := by rw [Int.tmod_eq_emod_of_nonneg (by omega)]; omega
 have hb : ∀ m, m < 16 → (byteAt (bs [48, 49, 50, 51, 52, 53, 54, 55, 56, 57, 97, 98, 99, 100, 101, 102]) m) = hexB m := by decide +kernel
 have hz : (bs [48, 49, 50, 51, 52, 53, 54, 55, 56, 57, 97, 98, 99, 100, 101, 102]).size = 16 := by decide +kernel
 simp +contextual -dsimp (maxSteps := 2000000) only [↓SD, SU, SB, simprocAttr, ir_spec_l01Hex, ht, hz, hb n h]
 omega
theorem bytes_take (s : ByteArray) {k : Nat} (h : k < s.size) : s.data.toList.take (k + 1) = s.data.toList.take k ++ [byteAt s k] := by
 have h' : k < s.data.toList.length := by simpa using h
 rw [List.take_succ_eq_append_getElem h']
 congr 2
 have h2 : k < s.data.size := h
 simp only [byteAt, Array.getD_eq_getD_getElem?, Array.getElem?_eq_getElem h2, Option.getD_some, Array.getElem_toList]
theorem quote_take (s : ByteArray) {k : Nat} (h : k < s.size) : quoteL (s.data.toList.take (k + 1)) = quoteL (s.data.toList.take k) ++ quoteB (byteAt s k) := by
 unfold quoteL; rw [bytes_take s h, List.flatMap_append]; simp
theorem quote_size (s : ByteArray) (k : Nat) : (quoteL (s.data.toList.take k)).length ≤ 4 * s.size + 1 := by
 have := quoteL_len (s.data.toList.take k)
 rw [List.length_take] at this
 have h2 : s.data.toList.length = s.size := by simp
 omega
theorem e34 : (av (34 : UInt8)) = AV.int .u8 34 := rfl
theorem e92 : (av (92 : UInt8)) = AV.int .u8 92 := rfl
theorem e110 : (av (110 : UInt8)) = AV.int .u8 110 := rfl
theorem e120 : (av (120 : UInt8)) = AV.int .u8 120 := rfl
theorem specQuote_ok (s : ByteArray) (hs : s.size ≤ 1048576) : CallsF Tryz.prog 149 [.str s] (.str (quoteS s)) := by
 refine ir_spec_Quote.F rfl (by simp; exact AvPure.str _) (AvPure.str _) ?_
 simp +contextual -dsimp (maxSteps := 2000000) only [↓SD, SU, SB, simprocAttr, ir_spec_Quote]
 intro v
 refine aLoop_of (X := Nat × Nat) (fun x => ⟨[(0, .str s), (3, .row 6 x.2 (quoteL (s.data.toList.take x.1)).length), (4, .int .i64 x.1)], [(6, ⟨x.2, false, 5, 1, (quoteL (s.data.toList.take x.1)).map av⟩)]⟩) (fun x => x.1 ≤ s.size) (fun x => s.size - x.1) (0, v) (Nat.zero_le _) (by simp +contextual -dsimp only [↓SD, SU, SB, simprocAttr, quoteL, List.flatMap_nil]) (by simp +contextual -dsimp only [↓SD, SU, SB, simprocAttr, quoteL, List.flatMap_nil, e34]) ?_
 rintro ⟨k, u⟩ hk
 simp only at hk
 have hL := quote_size s k
 obtain ⟨L, hLe⟩ : ∃ L, L = quoteL (s.data.toList.take k) := ⟨_, rfl⟩
 rw [← hLe] at hL
 have ht : List.take L.length (L.map (av : UInt8 → AV)) = L.map av := List.take_of_length_le (by simp)
 by_cases hlt : k < s.size
 ·have hq := quote_take s hlt
  have hb := b8 s k
  rw [← hLe] at hq ⊢
  obtain ⟨b, hbe⟩ : ∃ b, b = byteAt s k := ⟨_, rfl⟩
  rw [← hbe] at hq hb
  have hbv : av b = AV.int .u8 (b.toNat : Int) := rfl
  have hx1 : av (hexB (b.toNat / 16)) = AV.int .u8 ((hexB (b.toNat / 16)).toNat : Int) := rfl
  have hx2 : av (hexB (b.toNat % 16)) = AV.int .u8 ((hexB (b.toNat % 16)).toNat : Int) := rfl
  have hd : ((b.toNat : Int)).tdiv 16 = ((b.toNat / 16 : Nat) : Int) := by rw [Int.tdiv_eq_ediv_of_nonneg (by omega)]; rfl
  have hm : ((b.toNat : Int)).tmod 16 = ((b.toNat % 16 : Nat) : Int) := by rw [Int.tmod_eq_emod_of_nonneg (by omega)]; rfl
  by_cases h10 : (b.toNat : Int) = 10
  ·have hqb : quoteB b = [92, 110] := by unfold quoteB; rw [if_pos (by omega)]
   simp +contextual -dsimp (maxSteps := 2000000) only [↓SD, SU, SB, simprocAttr, hlt, ← hbe, h10, ht, map_len, Nat.le_refl]
   refine ⟨⟨(by rintro x (rfl | rfl) <;> rfl), by omega, by unfold maxLen; omega⟩, fun u' => ⟨by omega, Goes.le ⟨(k + 1, u'), ⟨hlt, (by first | omega | (simp only; omega))⟩, rfl⟩ (by simp +contextual -dsimp only [↓SD, SU, SB, simprocAttr, Int.natCast_add, hq, hqb, List.length_append]) (by simp +contextual -dsimp only [↓SD, SU, SB, simprocAttr, hq, hqb, List.map_append, e92, e110])⟩⟩
  ·by_cases h34 : (b.toNat : Int) = 34 ∨ (b.toNat : Int) = 92
   ·have hqb : quoteB b = [92, b] := by unfold quoteB; rw [if_neg (by omega), if_pos (by omega)]
    rcases h34 with h34 | h34
    ·simp +contextual -dsimp (maxSteps := 2000000) only [↓SD, SU, SB, simprocAttr, hlt, ← hbe, h10, h34, ht, map_len, Nat.le_refl]
     refine ⟨⟨(by rintro x (rfl | rfl) <;> rfl), by omega, by unfold maxLen; omega⟩, fun u' => ⟨by omega, Goes.le ⟨(k + 1, u'), ⟨hlt, (by first | omega | (simp only; omega))⟩, rfl⟩ (by simp +contextual -dsimp only [↓SD, SU, SB, simprocAttr, Int.natCast_add, hq, hqb, List.length_append]) (by simp +contextual -dsimp only [↓SD, SU, SB, simprocAttr, hq, hqb, List.map_append, e92, hbv, h34])⟩⟩
    ·simp +contextual -dsimp (maxSteps := 2000000) only [↓SD, SU, SB, simprocAttr, hlt, ← hbe, h10, h34, ht, map_len, Nat.le_refl]
     refine ⟨⟨(by rintro x (rfl | rfl) <;> rfl), by omega, by unfold maxLen; omega⟩, fun u' => ⟨by omega, Goes.le ⟨(k + 1, u'), ⟨hlt, (by first | omega | (simp only; omega))⟩, rfl⟩ (by simp +contextual -dsimp only [↓SD, SU, SB, simprocAttr, Int.natCast_add, hq, hqb, List.length_append]) (by simp +contextual -dsimp only [↓SD, SU, SB, simprocAttr, hq, hqb, List.map_append, e92, hbv, h34])⟩⟩
   ·by_cases h32 : (32 : Int) ≤ b.toNat ∧ (b.toNat : Int) ≤ 126
    ·have hqb : quoteB b = [b] := by unfold quoteB; rw [if_neg (by omega), if_neg (by omega), if_pos (by omega)]
     have g1 : ¬ (b.toNat : Int) = 34 := fun h => h34 (.inl h)
     have g2 : ¬ (b.toNat : Int) = 92 := fun h => h34 (.inr h)
     obtain ⟨g3, g4⟩ := h32
     simp +contextual -dsimp (maxSteps := 2000000) only [↓SD, SU, SB, simprocAttr, hlt, ← hbe, h10, g1, g2, g3, g4, ht, map_len, Nat.le_refl]
     refine ⟨⟨by omega, by unfold maxLen; omega⟩, fun u' => ⟨by omega, Goes.le ⟨(k + 1, u'), ⟨hlt, (by first | omega | (simp only; omega))⟩, rfl⟩ (by simp +contextual -dsimp only [↓SD, SU, SB, simprocAttr, Int.natCast_add, hq, hqb, List.length_append]) (by simp +contextual -dsimp only [↓SD, SU, SB, simprocAttr, hq, hqb, List.map_append, hbv])⟩⟩
    ·have hqb : quoteB b = [92, 120, hexB (b.toNat / 16), hexB (b.toNat % 16)] := by unfold quoteB; rw [if_neg (by omega), if_neg (by omega), if_neg (by omega)]
     have g1 : ¬ (b.toNat : Int) = 34 := fun h => h34 (.inl h)
     have g2 : ¬ (b.toNat : Int) = 92 := fun h => h34 (.inr h)
     have C1 := l01Hex_ok (b.toNat / 16) (by omega)
     have C2 := l01Hex_ok (b.toNat % 16) (by omega)
     by_cases g3 : (32 : Int) ≤ b.toNat
     ·have g4 : ¬ (b.toNat : Int) ≤ 126 := fun h => h32 ⟨g3, h⟩
      simp +contextual -dsimp (maxSteps := 2000000) only [↓SD, SU, SB, simprocAttr, hlt, ← hbe, h10, g1, g2, g3, g4, hd, hm, ht, map_len, Nat.le_refl]
      refine ⟨by omega, by omega, ?_⟩
      refine aCallK_of _ C1 ?_
      simp +contextual -dsimp (maxSteps := 2000000) only [↓SD, SU, SB, simprocAttr, hd, hm, ht, map_len, Nat.le_refl]
      refine ⟨by omega, by omega, ?_⟩
      refine aCallK_of _ C2 ?_
      simp +contextual -dsimp (maxSteps := 2000000) only [↓SD, SU, SB, simprocAttr, hd, hm, ht, map_len, Nat.le_refl]
      refine ⟨⟨(by rintro x (rfl | rfl | rfl | rfl) <;> rfl), by omega, by unfold maxLen; omega⟩, fun u' => ⟨by omega, Goes.le ⟨(k + 1, u'), ⟨hlt, (by first | omega | (simp only; omega))⟩, rfl⟩ (by simp +contextual -dsimp only [↓SD, SU, SB, simprocAttr, Int.natCast_add, hq, hqb, List.length_append]) (by simp +contextual -dsimp only [↓SD, SU, SB, simprocAttr, hq, hqb, List.map_append, e92, e120, hx1, hx2])⟩⟩
     ·simp +contextual -dsimp (maxSteps := 2000000) only [↓SD, SU, SB, simprocAttr, hlt, ← hbe, h10, g1, g2, g3, hd, hm, ht, map_len, Nat.le_refl]
      refine ⟨by omega, by omega, ?_⟩
      refine aCallK_of _ C1 ?_
      simp +contextual -dsimp (maxSteps := 2000000) only [↓SD, SU, SB, simprocAttr, hd, hm, ht, map_len, Nat.le_refl]
      refine ⟨by omega, by omega, ?_⟩
      refine aCallK_of _ C2 ?_
      simp +contextual -dsimp (maxSteps := 2000000) only [↓SD, SU, SB, simprocAttr, hd, hm, ht, map_len, Nat.le_refl]
      refine ⟨⟨(by rintro x (rfl | rfl | rfl | rfl) <;> rfl), by omega, by unfold maxLen; omega⟩, fun u' => ⟨by omega, Goes.le ⟨(k + 1, u'), ⟨hlt, (by first | omega | (simp only; omega))⟩, rfl⟩ (by simp +contextual -dsimp only [↓SD, SU, SB, simprocAttr, Int.natCast_add, hq, hqb, List.length_append]) (by simp +contextual -dsimp only [↓SD, SU, SB, simprocAttr, hq, hqb, List.map_append, e92, e120, hx1, hx2])⟩⟩
 ·obtain rfl : k = s.size := by omega
  have hfull : s.data.toList.take s.size = s.data.toList := List.take_of_length_le (by simp)
  rw [← hLe]
  rw [hfull] at hLe
  simp +contextual -dsimp (maxSteps := 2000000) only [↓SD, SU, SB, simprocAttr, Nat.lt_irrefl, ht, map_len, Nat.le_refl]
  refine ⟨⟨by omega, by unfold maxLen; omega⟩, fun u' => ?_⟩
  refine b2s_of _ _ (L ++ [34]) (aTail_row rfl rfl (by simp)) (by rw [List.map_append]; rfl) ?_
  simp +contextual -dsimp (maxSteps := 2000000) only [↓SD, SU, SB, simprocAttr, quoteS, hLe]
end Go.Proofs.YteeiaaogmjbcjaaGreat
