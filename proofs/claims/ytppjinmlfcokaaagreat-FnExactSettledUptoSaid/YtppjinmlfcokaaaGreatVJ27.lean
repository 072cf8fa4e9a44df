/-
  THE ABSTRACT TEXTS OF FUNCTIONS (Quote), printed by irgen.py, and that they are the functions' own. Conditions: none.
-/
import Derived.Test.YtppjinmlfcokaaaGreatProg
import Derived.Test.YtppjinmlfcokaaaGreatVAvDraw
import Derived.Test.YtppjinmlfcokaaaGreatVJ23
import Derived.Test.YtppjinmlfcokaaaGreatVJ26
set_option linter.unusedVariables false
set_option maxRecDepth 100000
namespace Go.Proofs.YtppjinmlfcokaaaGreat
open Go.Proofs.YtppjinmlfcokaaaGreat.Av

theorem Ly : Tryz.prog.follows .mixedOrders = true := by kernel_rfl

def Kn : Ir Tryz.prog 178 [] [] 1 := ⟨_, _, Tryz.func178, Ly, by kernel_rfl, Aj [] Tryz.progTables (by conv => lhs; cbv) (by kernel_rfl)⟩
def Lj : Ir Tryz.prog 145 [(6,6)] [] 1 := ⟨_, _, Tryz.func145, Ly, by kernel_rfl, Aj [] Tryz.progTables (by conv => lhs; cbv) (by kernel_rfl)⟩
end Go.Proofs.YtppjinmlfcokaaaGreat
set_option linter.unusedVariables false
set_option linter.unusedSimpArgs false
set_option maxRecDepth 100000
namespace Go.Proofs.YtppjinmlfcokaaaGreat
open Go.RowKit Go.Proofs.YtppjinmlfcokaaaGreat.Av Go.Proofs.YtppjinmlfcokaaaGreat.Ml
open Go.Proofs.YtppjinmlfcokaaaGreat.Av.AVal (av)

def Le (n : Nat) : UInt8 := if n < 10 then UInt8.ofNat (48 + n) else UInt8.ofNat (87 + n)
def Fc (b : UInt8) : List UInt8 :=
 if b.toNat = 10 then [92, 110] else if b.toNat = 34 ∨ b.toNat = 92 then [92, b] else if 32 ≤ b.toNat ∧ b.toNat ≤ 126 then [b] else [92, 120, Le (b.toNat / 16), Le (b.toNat % 16)]
def FV (l : List UInt8) : List UInt8 := 34 :: l.flatMap Fc
def LF (s : ByteArray) : ByteArray := ⟨(FV s.data.toList ++ [34]).toArray⟩
theorem XV (b : UInt8) : (Fc b).length ≤ 4 := by
 unfold Fc; repeat' split
 all_goals simp
theorem Pr : ∀ (l : List UInt8), (FV l).length ≤ 4 * l.length + 1 := by
 intro l
 induction l with
 | nil => simp [FV]
 | cons b r ih =>
  have := XV b
  simp only [FV, List.flatMap_cons, List.length_cons, List.length_append] at ih ⊢
  omega
theorem Sc (n : Nat) (h : n < 16) : Ah Tryz.prog 178 [.int .i64 (n : Int)] (.int .u8 ((Le n).toNat : Int)) := by
 refine Kn.F rfl (by simp; exact BB _) (pu8 _) ?_
 have ht : (n : Int).tmod 16 = (n : Int) := by rw [Int.tmod_eq_emod_of_nonneg (by omega)]; omega
 have hb : ∀ m, m < 16 → (CU (bs [48, 49, 50, 51, 52, 53, 54, 55, 56, 57, 97, 98, 99, 100, 101, 102]) m) = Le m := by decide +kernel
 have hz : (bs [48, 49, 50, 51, 52, 53, 54, 55, 56, 57, 97, 98, 99, 100, 101, 102]).size = 16 := by decide +kernel
 simp +contextual -dsimp only [↓SD, SU, simprocAttr, Kn, ht, hz, hb n h]
 omega
theorem YJ (s : ByteArray) {k : Nat} (h : k < s.size) : s.data.toList.take (k + 1) = s.data.toList.take k ++ [CU s k] := by
 have h' : k < s.data.toList.length := by simpa using h
 rw [List.take_succ_eq_append_getElem h']
 congr 2
 have h2 : k < s.data.size := h
 simp only [CU, Array.getD_eq_getD_getElem?, Array.getElem?_eq_getElem h2, Option.getD_some, Array.getElem_toList]
theorem XT (s : ByteArray) {k : Nat} (h : k < s.size) : FV (s.data.toList.take (k + 1)) = FV (s.data.toList.take k) ++ Fc (CU s k) := by
 unfold FV; rw [YJ s h, List.flatMap_append]; simp
theorem XU (s : ByteArray) (k : Nat) : (FV (s.data.toList.take k)).length ≤ 4 * s.size + 1 := by
 have := Pr (s.data.toList.take k)
 rw [List.length_take] at this
 have h2 : s.data.toList.length = s.size := by simp
 omega
theorem e34 : (av (34 : UInt8)) = AV.int .u8 34 := rfl
theorem e92 : (av (92 : UInt8)) = AV.int .u8 92 := rfl
theorem AgB : (av (110 : UInt8)) = AV.int .u8 110 := rfl
theorem Agl : (av (120 : UInt8)) = AV.int .u8 120 := rfl
theorem Tm (s : ByteArray) (hs : s.size ≤ 4294967296) : Ah Tryz.prog 145 [.str s] (.str (LF s)) := by
 refine Lj.F rfl (by simp; exact Ad.str _) (Ad.str _) ?_
 simp +contextual -dsimp only [↓SD, SU, simprocAttr, Lj]
 intro v
 refine Am (X := Nat × Nat) (fun x => ⟨[(0, .str s), (3, .row 6 x.2 (FV (s.data.toList.take x.1)).length), (4, .int .i64 x.1)], [(6, ⟨x.2, false, 5, 1, (FV (s.data.toList.take x.1)).map av⟩)]⟩) (fun x => x.1 ≤ s.size) (fun x => s.size - x.1) (0, v) (Nat.zero_le _) (by simp +contextual -dsimp only [↓SD, SU, simprocAttr, FV, List.flatMap_nil]) (by simp +contextual -dsimp only [↓SD, SU, simprocAttr, FV, List.flatMap_nil, e34]) ?_
 rintro ⟨k, u⟩ hk
 simp only at hk
 have hL := XU s k
 obtain ⟨L, hLe⟩ : ∃ L, L = FV (s.data.toList.take k) := ⟨_, rfl⟩
 rw [← hLe] at hL
 have ht : List.take L.length (L.map (av : UInt8 → AV)) = L.map av := List.take_of_length_le (by simp)
 by_cases hlt : k < s.size
 ·have hq := XT s hlt
  have hb := b8 s k
  rw [← hLe] at hq ⊢
  obtain ⟨b, hbe⟩ : ∃ b, b = CU s k := ⟨_, rfl⟩
  rw [← hbe] at hq hb
  have hbv : av b = AV.int .u8 (b.toNat : Int) := rfl
  have hx1 : av (Le (b.toNat / 16)) = AV.int .u8 ((Le (b.toNat / 16)).toNat : Int) := rfl
  have hx2 : av (Le (b.toNat % 16)) = AV.int .u8 ((Le (b.toNat % 16)).toNat : Int) := rfl
  have hd : ((b.toNat : Int)).tdiv 16 = ((b.toNat / 16 : Nat) : Int) := by rw [Int.tdiv_eq_ediv_of_nonneg (by omega)]; rfl
  have hm : ((b.toNat : Int)).tmod 16 = ((b.toNat % 16 : Nat) : Int) := by rw [Int.tmod_eq_emod_of_nonneg (by omega)]; rfl
  by_cases h10 : (b.toNat : Int) = 10
  ·have hqb : Fc b = [92, 110] := by unfold Fc; rw [if_pos (by omega)]
   simp +contextual -dsimp only [↓SD, SU, simprocAttr, hlt, ← hbe, h10, ht, Ab, Nat.le_refl]
   refine ⟨⟨(by rintro x (rfl | rfl) <;> rfl), by omega, by unfold maxLen; omega⟩, fun u' => ⟨by omega, Af.le ⟨(k + 1, u'), ⟨hlt, (by first | omega | (simp only; omega))⟩, rfl⟩ (by simp +contextual -dsimp only [↓SD, SU, simprocAttr, Int.natCast_add, hq, hqb, List.length_append]) (by simp +contextual -dsimp only [↓SD, SU, simprocAttr, hq, hqb, List.map_append, e92, AgB])⟩⟩
  ·by_cases h34 : (b.toNat : Int) = 34 ∨ (b.toNat : Int) = 92
   ·have hqb : Fc b = [92, b] := by unfold Fc; rw [if_neg (by omega), if_pos (by omega)]
    rcases h34 with h34 | h34
    ·simp +contextual -dsimp only [↓SD, SU, simprocAttr, hlt, ← hbe, h10, h34, ht, Ab, Nat.le_refl]
     refine ⟨⟨(by rintro x (rfl | rfl) <;> rfl), by omega, by unfold maxLen; omega⟩, fun u' => ⟨by omega, Af.le ⟨(k + 1, u'), ⟨hlt, (by first | omega | (simp only; omega))⟩, rfl⟩ (by simp +contextual -dsimp only [↓SD, SU, simprocAttr, Int.natCast_add, hq, hqb, List.length_append]) (by simp +contextual -dsimp only [↓SD, SU, simprocAttr, hq, hqb, List.map_append, e92, hbv, h34])⟩⟩
    ·simp +contextual -dsimp only [↓SD, SU, simprocAttr, hlt, ← hbe, h10, h34, ht, Ab, Nat.le_refl]
     refine ⟨⟨(by rintro x (rfl | rfl) <;> rfl), by omega, by unfold maxLen; omega⟩, fun u' => ⟨by omega, Af.le ⟨(k + 1, u'), ⟨hlt, (by first | omega | (simp only; omega))⟩, rfl⟩ (by simp +contextual -dsimp only [↓SD, SU, simprocAttr, Int.natCast_add, hq, hqb, List.length_append]) (by simp +contextual -dsimp only [↓SD, SU, simprocAttr, hq, hqb, List.map_append, e92, hbv, h34])⟩⟩
   ·by_cases h32 : (32 : Int) ≤ b.toNat ∧ (b.toNat : Int) ≤ 126
    ·have hqb : Fc b = [b] := by unfold Fc; rw [if_neg (by omega), if_neg (by omega), if_pos (by omega)]
     have g1 : ¬ (b.toNat : Int) = 34 := fun h => h34 (.inl h)
     have g2 : ¬ (b.toNat : Int) = 92 := fun h => h34 (.inr h)
     obtain ⟨g3, g4⟩ := h32
     simp +contextual -dsimp only [↓SD, SU, simprocAttr, hlt, ← hbe, h10, g1, g2, g3, g4, ht, Ab, Nat.le_refl]
     refine ⟨⟨by omega, by unfold maxLen; omega⟩, fun u' => ⟨by omega, Af.le ⟨(k + 1, u'), ⟨hlt, (by first | omega | (simp only; omega))⟩, rfl⟩ (by simp +contextual -dsimp only [↓SD, SU, simprocAttr, Int.natCast_add, hq, hqb, List.length_append]) (by simp +contextual -dsimp only [↓SD, SU, simprocAttr, hq, hqb, List.map_append, hbv])⟩⟩
    ·have hqb : Fc b = [92, 120, Le (b.toNat / 16), Le (b.toNat % 16)] := by unfold Fc; rw [if_neg (by omega), if_neg (by omega), if_neg (by omega)]
     have g1 : ¬ (b.toNat : Int) = 34 := fun h => h34 (.inl h)
     have g2 : ¬ (b.toNat : Int) = 92 := fun h => h34 (.inr h)
     have C1 := Sc (b.toNat / 16) (by omega)
     have C2 := Sc (b.toNat % 16) (by omega)
     by_cases g3 : (32 : Int) ≤ b.toNat
     ·have g4 : ¬ (b.toNat : Int) ≤ 126 := fun h => h32 ⟨g3, h⟩
      simp +contextual -dsimp only [↓SD, SU, simprocAttr, hlt, ← hbe, h10, g1, g2, g3, g4, hd, hm, ht, Ab, Nat.le_refl]
      refine ⟨by omega, by omega, ?_⟩
      refine Aa _ C1 ?_
      simp +contextual -dsimp only [↓SD, SU, simprocAttr, hd, hm, ht, Ab, Nat.le_refl]
      refine ⟨by omega, by omega, ?_⟩
      refine Aa _ C2 ?_
      simp +contextual -dsimp only [↓SD, SU, simprocAttr, hd, hm, ht, Ab, Nat.le_refl]
      refine ⟨⟨(by rintro x (rfl | rfl | rfl | rfl) <;> rfl), by omega, by unfold maxLen; omega⟩, fun u' => ⟨by omega, Af.le ⟨(k + 1, u'), ⟨hlt, (by first | omega | (simp only; omega))⟩, rfl⟩ (by simp +contextual -dsimp only [↓SD, SU, simprocAttr, Int.natCast_add, hq, hqb, List.length_append]) (by simp +contextual -dsimp only [↓SD, SU, simprocAttr, hq, hqb, List.map_append, e92, Agl, hx1, hx2])⟩⟩
     ·simp +contextual -dsimp only [↓SD, SU, simprocAttr, hlt, ← hbe, h10, g1, g2, g3, hd, hm, ht, Ab, Nat.le_refl]
      refine ⟨by omega, by omega, ?_⟩
      refine Aa _ C1 ?_
      simp +contextual -dsimp only [↓SD, SU, simprocAttr, hd, hm, ht, Ab, Nat.le_refl]
      refine ⟨by omega, by omega, ?_⟩
      refine Aa _ C2 ?_
      simp +contextual -dsimp only [↓SD, SU, simprocAttr, hd, hm, ht, Ab, Nat.le_refl]
      refine ⟨⟨(by rintro x (rfl | rfl | rfl | rfl) <;> rfl), by omega, by unfold maxLen; omega⟩, fun u' => ⟨by omega, Af.le ⟨(k + 1, u'), ⟨hlt, (by first | omega | (simp only; omega))⟩, rfl⟩ (by simp +contextual -dsimp only [↓SD, SU, simprocAttr, Int.natCast_add, hq, hqb, List.length_append]) (by simp +contextual -dsimp only [↓SD, SU, simprocAttr, hq, hqb, List.map_append, e92, Agl, hx1, hx2])⟩⟩
 ·obtain rfl : k = s.size := by omega
  have hfull : s.data.toList.take s.size = s.data.toList := List.take_of_length_le (by simp)
  rw [← hLe]
  rw [hfull] at hLe
  simp +contextual -dsimp only [↓SD, SU, simprocAttr, Nat.lt_irrefl, ht, Ab, Nat.le_refl]
  refine ⟨⟨by omega, by unfold maxLen; omega⟩, fun u' => ?_⟩
  refine T2 _ _ (L ++ [34]) (Aca rfl rfl (by simp)) (by rw [List.map_append]; rfl) ?_
  simp +contextual -dsimp only [↓SD, SU, simprocAttr, LF, hLe]
end Go.Proofs.YtppjinmlfcokaaaGreat
set_option linter.unusedVariables false
set_option linter.unusedSimpArgs false
set_option maxRecDepth 100000
namespace Go.Proofs.YtppjinmlfcokaaaGreat
open Go.RowKit Go.Proofs.YtppjinmlfcokaaaGreat.Av Go.Proofs.YtppjinmlfcokaaaGreat.Ml
open Go.Proofs.YtppjinmlfcokaaaGreat.Av.AVal (av)

def sc : Nat → List UInt8 → Nat
 | _, [] => 0
 | st, b :: r => if st = 0 then (if b = 34 then sc 1 r else if b = 32 then sc 0 r + 1 else sc 0 r) else if st = 1 then (if b = 34 then sc 0 r else if b = 92 then sc 2 r else sc 1 r) else sc 1 r
def bl (s : ByteArray) : List UInt8 := s.data.toList
theorem YL (a b : ByteArray) : bl (a ++ b) = bl a ++ bl b := by unfold bl; rw [ByteArray.data_append]; simp
def Clk (s : ByteArray) (k : Nat) : Prop := ∀ r, sc 0 (bl s ++ r) = k + sc 0 r
theorem Clk.app {a b : ByteArray} {i j : Nat} (h1 : Clk a i) (h2 : Clk b j) : Clk (a ++ b) (i + j) := fun r => by rw [YL, List.append_assoc, h1, h2]; omega
theorem Clk.to {a : ByteArray} {i j : Nat} (h : Clk a i) (e : i = j) : Clk a j := e ▸ h
theorem Clk.own {a : ByteArray} {i : Nat} (h : Clk a i) : sc 0 (bl a) = i := by
 have := h []
 rw [List.append_nil] at this
 exact this
theorem Clk.self {a : ByteArray} {i : Nat} (h : Clk a i) : Clk a (sc 0 (bl a)) := by rw [h.own]; exact h
theorem Qw : ∀ {l : List UInt8}, (∀ b ∈ l, b ≠ 34) → ∀ r, sc 0 (l ++ r) = sc 0 l + sc 0 r
 | [], _, r => by rw [List.nil_append, sc]; omega
 | b :: l, h, r => by
  have ih := Qw (l := l) (fun b hb => h b (by simp [hb])) r
  have hb := h b (by simp)
  rw [List.cons_append, sc, sc, if_pos rfl, if_pos rfl, if_neg hb, if_neg hb]
  split <;> omega
theorem AH (l : List Nat) (k : Nat) (h : ((l.map UInt8.ofNat).all (fun b => !decide (b = 34)) && decide (sc 0 (l.map UInt8.ofNat) = k)) = true) : Clk (bs l) k := fun r => by
 simp only [Bool.and_eq_true, List.all_eq_true, Bool.not_eq_true', decide_eq_false_iff_not, decide_eq_true_eq] at h
 rw [← h.2]
 exact Qw h.1 r
theorem Zi : ∀ {l : List UInt8}, (∀ b ∈ l, b ≠ 34 ∧ b ≠ 32) → sc 0 l = 0
 | [], _ => rfl
 | b :: l, h => by
  have hb := h b (by simp)
  rw [sc, if_pos rfl, if_neg hb.1, if_neg hb.2]
  exact Zi fun b hb => h b (by simp [hb])
def W0 (s : ByteArray) : Prop := ∀ b ∈ bl s, b ≠ 34 ∧ b ≠ 32
theorem W0.clk {s : ByteArray} (h : W0 s) : Clk s 0 := fun r => by
 rw [Qw (fun b hb => (h b hb).1), Zi h]
theorem W0.lit (l : List Nat) (h : ((l.map UInt8.ofNat).all fun b => !decide (b = 34) && !decide (b = 32)) = true) : W0 (bs l) := fun b hb => by
 have := List.all_eq_true.1 h b hb
 simpa using this
theorem W0.word {s : ByteArray} (h : Xe s = true) : W0 s := fun b hb => by
 obtain ⟨i, hi, e⟩ := List.getElem_of_mem hb
 have hi2 : i < s.size := by simpa [bl] using hi
 have hx := List.all_eq_true.1 h i (List.mem_range.2 hi2)
 have e2 : CU s i = b := by rw [← e]; simp [CU, bl, Array.getElem?_eq_getElem (show i < s.data.size from hi2)]
 rw [e2] at hx
 refine ⟨fun h => ?_, fun h => ?_⟩ <;> (subst h; exact absurd hx (by decide))
theorem W0.name {s : ByteArray} (h : EC s = true) : W0 s := by
 simp only [EC, G2, Bool.and_eq_true] at h
 exact W0.word h.1.1.1
theorem W0.con {s : ByteArray} {k : Int} {p : Bool} (h : FT s k p = true) : W0 s := by
 unfold FT at h
 split at h
 ·rename_i h0
  rcases h0 with h0 | h0 | h0 <;> rw [h0]
  ·exact W0.lit _ (by decide)
  ·exact W0.lit _ (by decide)
  ·exact W0.lit _ (by decide)
 ·split at h
  ·rename_i h0; rw [h0]; exact W0.lit _ (by decide)
  ·simp only [Q9, G2, Bool.and_eq_true] at h
   exact W0.word h.1.1.1
theorem W0.op {s : ByteArray} (h : (opsL.any fun x => decide (s = x)) = true) : W0 s := by
 obtain ⟨x, hx, e⟩ := List.any_eq_true.1 h
 have e := of_decide_eq_true e
 subst e
 simp only [opsL, List.mem_cons, List.not_mem_nil, or_false] at hx
 rcases hx with h | h | h | h | h | h | h | h | h | h <;> rw [h] <;> exact W0.lit _ (by decide)
theorem Agm : ∀ k : Nat, ∀ b ∈ dig k, b ≠ 34 ∧ b ≠ 32 := by
 have one : ∀ m, m < 10 → UInt8.ofNat (48 + m) ≠ 34 ∧ UInt8.ofNat (48 + m) ≠ 32 := by decide
 intro k
 induction k using Nat.strongRecOn with
 | _ k ih =>
  intro b hb
  by_cases h : k < 10
  ·rw [NG h] at hb
   rw [List.mem_singleton.1 hb]
   exact one k h
  ·rw [NH h] at hb
   rcases List.mem_append.1 hb with hb | hb
   ·exact ih (k / 10) (by omega) b hb
   ·rw [List.mem_singleton.1 hb]
    exact one _ (Nat.mod_lt _ (by decide))
theorem AaC (n : Int) : Clk (Mz n) 0 := by
 have d : ∀ k, W0 (M3 k) := fun k b hb => Agm k b (by simpa [bl, M3] using hb)
 unfold Mz
 split
 ·split
  ·exact (Clk.app (W0.clk (W0.lit [45] (by decide))) (d _).clk).to rfl
  ·exact (d _).clk
 ·exact fun r => by show sc 0 ([] ++ r) = _; rw [List.nil_append]; omega
theorem U1 : ∀ (l r : List UInt8), sc 1 (l.flatMap Fc ++ r) = sc 1 r
 | [], r => rfl
 | b :: l, r => by
  rw [List.flatMap_cons, List.append_assoc, ← U1 l r]
  generalize l.flatMap Fc ++ r = x
  have hx : ∀ n, Le (n % 16) ≠ 34 ∧ Le (n % 16) ≠ 92 := fun n => by
   have one : ∀ m, m < 16 → Le m ≠ 34 ∧ Le m ≠ 92 := by decide
   exact one _ (Nat.mod_lt _ (by decide))
  unfold Fc
  split
  ·rfl
  ·split
   ·show sc 1 (92 :: b :: x) = _
    rw [sc, if_neg (by decide), if_pos rfl, if_neg (by decide), if_pos rfl, sc, if_neg (by decide), if_neg (by decide)]
   ·split
    ·rename_i h1 h2
     show sc 1 (b :: x) = _
     have b1 : ¬ b = 34 := fun h => by subst h; exact h1 (.inl rfl)
     have b2 : ¬ b = 92 := fun h => by subst h; exact h1 (.inr rfl)
     rw [sc, if_neg (by decide), if_pos rfl, if_neg b1, if_neg b2]
    ·show sc 1 (92 :: 120 :: Le _ :: Le _ :: x) = _
     have e1 : b.toNat / 16 = (b.toNat / 16) % 16 := by have := b.toNat_lt; omega
     have g1 := hx (b.toNat / 16)
     have g2 := hx b.toNat
     rw [← e1] at g1
     rw [sc, if_neg (by decide), if_pos rfl, if_neg (by decide), if_pos rfl, sc, if_neg (by decide), if_neg (by decide), sc, if_neg (by decide), if_pos rfl, if_neg g1.1, if_neg g1.2, sc, if_neg (by decide), if_pos rfl, if_neg g2.1, if_neg g2.2]
theorem Ab2 (s : ByteArray) : Clk (LF s) 0 := fun r => by
 have e : bl (LF s) = 34 :: (s.data.toList.flatMap Fc ++ [34]) := by simp [bl, LF, FV]
 rw [e, List.cons_append, sc, if_pos rfl, if_pos rfl, List.append_assoc, U1]
 show sc 1 (34 :: r) = _
 rw [sc, if_neg (by decide), if_pos rfl, if_pos rfl]; omega
theorem U2 (s : ByteArray) : (LF s).size ≤ 4 * s.size + 2 := by
 have := Pr s.data.toList
 have h2 : s.data.toList.length = s.size := by simp
 show (List.toArray _).size ≤ _
 simp only [List.size_toArray, List.length_append, List.length_cons, List.length_nil]
 omega
def AfF (n : Bg) (k u : Nat → ByteArray) : ByteArray :=
 if n.kind = 1 then bs [95] else if n.kind = 2 then n.s else if n.kind = 3 then Mz n.n else if n.kind = 6 then bs [40, 41]
 else if n.kind = 5 then bs [40] ++ k 0 ++ bs [44, 32] ++ k 1 ++ bs [41]
 else if n.kids.length = 0 then n.s
 else if n.s = bs [58, 58] then bs [40] ++ u 0 ++ bs [32, 58, 58, 32] ++ u 1 ++ bs [41]
 else bs [40] ++ n.s ++ bs [32] ++ k 0 ++ bs [41]
def LH (l : List Bg) : Nat → Nat → ByteArray
 | 0, _ => bs []
 | f + 1, i => AfF (l.getD i default) (fun j => LH l f ((B2 l i).getD j 0).toNat) (fun j => LH l f ((B2 l ((B2 l i).getD 0 0).toNat).getD j 0).toNat)
def J5 (q : Pat) : ByteArray := LH q.nodes (q.nodes.length + 1) 0
def J3 (T : Nat → ByteArray) : ByteArray → Nat → List Pat → ByteArray
 | s, _, [] => s
 | s, i, q :: r => J3 T ((if 0 < i then s ++ bs [32, 124, 32] else s) ++ J5 q ++ bs [32, 45, 62, 32] ++ T (i + 1)) (i + 1) r
def exN (n f : Node) (k u : Nat → ByteArray) : ByteArray :=
 if n.kind = 1 then Mz n.n else if n.kind = 2 then LF n.s else if n.kind = 3 then n.s else if n.kind = 12 then bs [40, 41]
 else if n.kind = 5 then bs [40, 102, 117, 110, 32] ++ n.s ++ bs [32, 45, 62, 32] ++ k 0 ++ bs [41]
 else if n.kind = 6 then (if f.kind = 4 ∧ f.kids.length = 0 then bs [40, 40] ++ k 0 ++ bs [41, 32] ++ k 1 ++ bs [41] else bs [40] ++ k 0 ++ bs [32] ++ k 1 ++ bs [41])
 else if n.kind = 7 then bs [40, 108, 101, 116, 32] ++ n.s ++ bs [32, 61, 32] ++ k 0 ++ bs [32, 105, 110, 32] ++ k 1 ++ bs [41]
 else if n.kind = 8 then bs [40, 108, 101, 116, 32, 114, 101, 99, 32] ++ n.s ++ bs [32] ++ f.s ++ bs [32, 61, 32] ++ u 0 ++ bs [32, 105, 110, 32] ++ k 1 ++ bs [41]
 else if n.kind = 9 then bs [40, 105, 102, 32] ++ k 0 ++ bs [32, 116, 104, 101, 110, 32] ++ k 1 ++ bs [32, 101, 108, 115, 101, 32] ++ k 2 ++ bs [41]
 else if n.kind = 10 then bs [40] ++ k 0 ++ bs [32] ++ n.s ++ bs [32] ++ k 1 ++ bs [41]
 else if n.kind = 11 then bs [40] ++ k 0 ++ bs [44, 32] ++ k 1 ++ bs [41]
 else if n.kind = 14 then bs [40, 114, 97, 105, 115, 101, 32] ++ k 0 ++ bs [41]
 else if n.kind = 15 then bs [40, 116, 114, 121, 32] ++ k 0 ++ bs [32, 119, 105, 116, 104, 32] ++ n.s ++ bs [32, 45, 62, 32] ++ k 1 ++ bs [32, 101, 110, 100, 41]
 else if n.kind = 16 then bs [40, 114, 101, 102, 32] ++ k 0 ++ bs [41]
 else if n.kind = 17 then bs [40, 33, 32] ++ k 0 ++ bs [41]
 else if n.kind = 18 then bs [40] ++ k 0 ++ bs [32, 58, 61, 32] ++ k 1 ++ bs [41]
 else if n.kind = 19 then bs [40] ++ k 0 ++ bs [59, 32] ++ k 1 ++ bs [41]
 else if n.kind = 4 then (if n.kids.length = 0 then n.s else if n.s = bs [58, 58] then bs [40] ++ u 0 ++ bs [32, 58, 58, 32] ++ u 1 ++ bs [41] else bs [40] ++ n.s ++ bs [32] ++ k 0 ++ bs [41])
 else J3 k (bs [40, 109, 97, 116, 99, 104, 32] ++ k 0 ++ bs [32, 119, 105, 116, 104, 32]) 0 n.Ae ++ bs [32, 101, 110, 100, 41]
def exS (l : List Node) : Nat → Nat → ByteArray
 | 0, _ => bs []
 | f + 1, i => exN (l.getD i default) (l.getD ((Aq l i).getD 0 0).toNat default) (fun j => exS l f ((Aq l i).getD j 0).toNat) (fun j => exS l f ((Aq l ((Aq l i).getD 0 0).toNat).getD j 0).toNat)
def spN (n : Node) (m : Nat) : Nat :=
 if n.kind = 4 then m else if n.kind = 5 then 3 else if n.kind = 6 then 1 else if n.kind = 7 then 5 else if n.kind = 8 then 4 else if n.kind = 9 then 5 else if n.kind = 10 then 2 else if n.kind = 11 then 1
 else if n.kind = 13 then 4 * n.Ae.length + 2 + (n.Ae.map fun q => sc 0 (bl (J5 q))).sum
 else if n.kind = 14 then 1 else if n.kind = 15 then 6 else if n.kind = 16 then 1 else if n.kind = 17 then 1 else if n.kind = 18 then 2 else if n.kind = 19 then 1 else 0
mutual
def spT : Tr → Nat
 | .mk n ks => spN n ks.length + Di ks
def Di : List Tr → Nat
 | [] => 0
 | t :: ts => spT t + Di ts
end
end Go.Proofs.YtppjinmlfcokaaaGreat
