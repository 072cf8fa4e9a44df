/-
 PLAIN DATA AS ABSTRACT VALUES. Conditions: none.
-/
import Derived.Test.YtjbcnilllfaipaaGreatYAvSimp
import Derived.Test.YtjbcnilllfaipaaGreatYJ00
set_option linter.unusedVariables false
namespace Go.Proofs.YtjbcnilllfaipaaGreat.Av
open Go.RowKit

class AVal (α : Type) where
 av : α → AV
 n : Nat
 ok : ∀ x, (av x).ok = true
 len : ∀ x, (av x).cells.length = n
 pure : ∀ x, ∀ y ∈ (av x).cells, Ac y
 nop : ∀ x hp, (av x).pur hp = av x
 Aek : ∀ x, ∀ y ∈ (av x).cells, y.one = true
open AVal (av)
theorem AVal.clean {α : Type} [AVal α] (x : α) : Ac (av x) := by
 have h := AVal.pure x
 have hk := AVal.ok x
 cases hx : (av x) with
 | agg cs => rw [hx] at h; exact Ac.agg h
 | _ => rw [hx] at h hk; first | exact h _ (by simp [AV.cells]) | (simp [AV.ok, AV.one, AV.isAgg] at hk)
instance : AVal Int := ⟨fun x => .int .i64 x, 1, fun _ => rfl, fun _ => rfl, fun x y hy => by simp [AV.cells] at hy; subst hy; exact Ac.int _ _, fun _ _ => rfl, fun x y hy => by simp [AV.cells] at hy; subst hy; rfl⟩
instance : AVal Bool := ⟨fun x => .bool x, 1, fun _ => rfl, fun _ => rfl, fun x y hy => by simp [AV.cells] at hy; subst hy; exact Ac.bool _, fun _ _ => rfl, fun x y hy => by simp [AV.cells] at hy; subst hy; rfl⟩
instance : AVal ByteArray := ⟨fun x => .str x, 1, fun _ => rfl, fun _ => rfl, fun x y hy => by simp [AV.cells] at hy; subst hy; exact Ac.str _, fun _ _ => rfl, fun x y hy => by simp [AV.cells] at hy; subst hy; rfl⟩
instance : AVal UInt8 := ⟨fun x => .int .u8 x.toNat, 1, fun _ => rfl, fun _ => rfl, fun x y hy => by simp [AV.cells] at hy; subst hy; exact Ac.int _ _, fun _ _ => rfl, fun x y hy => by simp [AV.cells] at hy; subst hy; rfl⟩
def lav {α : Type} [AVal α] (l : List α) : AV := .sl (l.map av)
theorem Aq {α : Type} [AVal α] (l : List α) : Ac (lav l) := Ac.sl fun e he y hy => by
 obtain ⟨x, _, rfl⟩ := List.mem_map.1 he
 exact AVal.pure x y hy
instance {α : Type} [AVal α] : AVal (List α) := ⟨lav, 1, fun _ => rfl, fun _ => rfl, fun x y hy => by simp [AV.cells, lav] at hy; subst hy; exact Aq x, fun _ _ => rfl, fun x y hy => by simp [AV.cells, lav] at hy; subst hy; rfl⟩
theorem Bo (x : Int) : av x = .int .i64 x := eqq rfl
theorem B7 (x : ByteArray) : av x = .str x := eqq rfl
theorem Ada (x : UInt8) : av x = .int .u8 x.toNat := eqq rfl
theorem AA {α : Type} [AVal α] (l : List α) (hp : Hp) : (l.map av).map (AV.pur hp) = l.map av := by
 rw [List.map_map]; apply List.map_congr_left; intro x _; exact AVal.nop x hp
def FD {α : Type} [AVal α] (l : List α) (z : AV) (k : Nat) : List AV := (l.take k).map av ++ List.replicate (l.length - k) z
theorem Eg {α : Type} [AVal α] (l : List α) (z : AV) : FD l z 0 = List.replicate l.length z := by simp [FD]
theorem Eh {α : Type} [AVal α] (l : List α) (z : AV) : FD l z l.length = l.map av := by simp [FD]
theorem Cv {α : Type} [AVal α] {l : List α} (z : AV) {k : Nat} (h : k ≤ l.length) : (FD l z k).length = l.length := by simp [FD]; omega
theorem EO {α : Type} [AVal α] {l : List α} (z : AV) {k : Nat} (h : k < l.length) (d : AV) : (FD l z k).getD k d = z := by
 have hk : ((l.take k).map av).length = k := by simp; omega
 simp only [FD, List.getD_eq_getElem?_getD]
 rw [List.getElem?_append_right (by omega), hk, Nat.sub_self, List.getElem?_replicate, if_pos (by omega)]
 rfl
theorem EN {α : Type} [AVal α] {l : List α} {z : AV} {k : Nat} (h : k < l.length) {y : AV} (hy : y = av l[k]) : (FD l z k).set k y = FD l z (k + 1) := by
 have hk : ((l.take k).map av).length = k := by simp; omega
 subst hy
 simp only [FD]
 rw [List.set_append_right _ _ (by omega), hk, Nat.sub_self, show l.length - k = (l.length - (k + 1)) + 1 by omega, List.replicate_succ, List.set_cons_zero, List.take_succ_eq_append_getElem h, List.map_append]
 simp
theorem getD_map {α β : Type} (f : α → β) (l : List α) (i : Nat) (d : β) (h : i < l.length) : (l.map f).getD i d = f l[i] := by
 simp [List.getD_eq_getElem?_getD, h]
theorem Aa {α β : Type} (f : α → β) (l : List α) : (l.map f).length = l.length := List.length_map _
theorem A5 {α : Type} {l : List α} (p : α → Bool) {k : Nat} (hlt : k < l.length) (h : (l.take k).all p = true) : (l.take (k + 1)).all p = p l[k] := by
 rw [List.take_succ_eq_append_getElem hlt, List.all_append, h]; simp
theorem A6 {α : Type} {l : List α} (p : α → Bool) {k : Nat} (hlt : k < l.length) (h : p l[k] = false) : l.all p = false := by
 rw [List.all_eq_false]; exact ⟨l[k], List.getElem_mem hlt, by simp [h]⟩
end Go.Proofs.YtjbcnilllfaipaaGreat.Av
set_option linter.unusedVariables false
namespace Go.Proofs.YtjbcnilllfaipaaGreat
open Go.RowKit Go.Proofs.YtjbcnilllfaipaaGreat.Av Go.Proofs.YtjbcnilllfaipaaGreat.Ml
open Go.Proofs.YtjbcnilllfaipaaGreat.Av.AVal (av)

theorem BL (n : Int) : Ac (.int .i64 n) := Ac.int _ _
class FF (α : Type) [Rep α] [AVal α] : Prop where
 vr : ∀ {S : Nat → Prop} {w : World} {cs : List Value} {y : α}, Rep.rep S w cs y → VRs S w mu0 cs (av y).cells
theorem YR {α : Type} [Rep α] [AVal α] [FF α] {S : Nat → Prop} {w : World} {cs : List Value} {y : α} (h : Rep.rep S w cs y) : (av y).cells.length = Rep.n α := by
 rw [← (FF.vr h).1]; exact Rep.len h
instance : FF Int := ⟨fun {S w cs y} h => by obtain ⟨rfl, h1, h2⟩ := h; exact VRs.cons (.int _ _ h1 h2) VRs.nil⟩
instance : FF Bool := ⟨fun {S w cs y} h => by have h : cs = [.bool y] := h; subst h; exact VRs.cons (.bool _) VRs.nil⟩
instance : FF ByteArray := ⟨fun {S w cs y} h => by obtain ⟨rfl, h1⟩ := h; exact VRs.cons (.str _ h1) VRs.nil⟩
theorem Ej {α : Type} [Rep α] [AVal α] [FF α] {S : Nat → Prop} {w : World} {v : Value} {l : List α} (h : Dj S w v l) : VR S w mu0 v (.sl (l.map av)) := by
 obtain ⟨a, cap, rfl, h1, h2, h3⟩ := h
 by_cases hl : l = []
 ·subst hl; exact .sl0 a cap h2
 ·obtain ⟨b, o, rfl, hb, hr⟩ := h3.resolve_left hl
  -- the cells of the elements
  have hc : ∀ i j, ∃ v, ∀ e x, (l.map av)[i]? = some e → e.cells[j]? = some x → w.cell? ⟨b, o + i * Rep.n α + j, none⟩ = some v ∧ VR S w mu0 v x := by
   intro i j
   by_cases hi : i < l.length
   ·obtain ⟨cs, h4, h5⟩ := hr i l[i] (by simp [hi])
    have h6 := FF.vr h5
    by_cases hj : j < cs.length
    ·refine ⟨cs[j], fun e x p q => ?_⟩
     simp only [List.getElem?_map, List.getElem?_eq_getElem hi, Option.map_some, Option.some.injEq] at p
     subst p
     exact ⟨h4 j _ (by simp [hj]), h6.2 j _ x (by simp [hj]) q⟩
    ·refine ⟨.nilFunc, fun e x p q => ?_⟩
     simp only [List.getElem?_map, List.getElem?_eq_getElem hi, Option.map_some, Option.some.injEq] at p
     subst p
     have := (List.getElem?_eq_some_iff.1 q).1
     rw [← h6.1] at this
     exact absurd this hj
   ·refine ⟨.nilFunc, fun e x p q => ?_⟩
    have := (List.getElem?_eq_some_iff.1 p).1
    simp at this; exact absurd this hi
  have := VR.sl (S := S) (w := w) (μ := mu0) b o cap (Rep.n α) (fun i j => (hc i j).choose) (l.map av) hb (by simpa using h1) h2 (fun e he => by
   obtain ⟨x, hx, rfl⟩ := List.mem_map.1 he
   obtain ⟨i, hi, rfl⟩ := List.mem_iff_getElem.1 hx
   obtain ⟨cs, h4, h5⟩ := hr i l[i] (by simp [hi])
   exact ⟨YR h5, AVal.Aek _⟩) (fun i j hi hj => by
   have hi' : i < l.length := by simpa using hi
   obtain ⟨cs, h4, h5⟩ := hr i l[i] (by simp [hi'])
   have hlen := YR h5
   exact ((hc i j).choose_spec (av l[i]) ((av l[i]).cells[j]'(by omega)) (by simp [hi']) (by simp)).1) (fun i j e x p q => ((hc i j).choose_spec e x p q).2)
  simpa using this
instance {α : Type} [Rep α] [AVal α] [FF α] : FF (List α) := ⟨fun {S w cs y} h => by obtain ⟨v, rfl, h⟩ := h; exact VRs.cons (Ej h) VRs.nil⟩

def Ad1 (r : AV) (hp' : Hp) : Prop := ∃ m : Int, r = .int .i64 m ∧ hp' = [] ∧ -1 ≤ m ∧ m ≤ 1099511627776
def Lk (f : FuncId) (args : List AV) : Prop := Ay Tryz.prog f args [] Ad1

theorem Zp {α : Type} [Rep α] [AVal α] [FF α] {S : Nat → Prop} {w : World} {cs : List Value} {y : α} (h : Rep.rep S w cs y) {xs : List AV} (hx : av y = .agg xs) : VR S w mu0 (.agg cs.toArray) (av y) := by
 have h1 := FF.vr h
 have h2 := AVal.Aek y
 rw [hx] at h1 h2 ⊢
 exact .agg _ _ (by simpa [AV.cells] using h1.1) h2 (fun i v x p q => h1.2 i v x (by simpa using p) q)

theorem ZD {f : FuncId} {args : List AV} (h : Ap Tryz.prog f args (.bool true)) {w : World} {vs : List Value} (hv : VRs (fun b => b < w.heap.size) w mu0 vs args) :
  Calls Tryz.prog f vs.toArray w fun e w' => e = .returned (.bool true) ∧ Below w.heap.size w w' := by
 obtain ⟨_, _, h⟩ := h
 refine (h _ w vs (fun b hb => hb) hv).mono fun e w' ⟨v, he, hr, hb⟩ => ⟨?_, hb⟩
 cases hr; exact he
end Go.Proofs.YtjbcnilllfaipaaGreat
set_option linter.unusedVariables false
set_option linter.unusedSimpArgs false
namespace Go.Proofs.YtjbcnilllfaipaaGreat
open Go.RowKit Go.Proofs.YtjbcnilllfaipaaGreat.Av Go.Proofs.YtjbcnilllfaipaaGreat.Ml
open Go.Proofs.YtjbcnilllfaipaaGreat.Av.AVal (av)

def dig (k : Nat) : List UInt8 := if h : k < 10 then [UInt8.ofNat (48 + k)] else dig (k / 10) ++ [UInt8.ofNat (48 + k % 10)]
termination_by k
decreasing_by exact Nat.div_lt_self (by omega) (by decide)
def HX (k : Nat) : ByteArray := ⟨(dig k).toArray⟩
theorem MX {k : Nat} (h : k < 10) : dig k = [UInt8.ofNat (48 + k)] := by rw [dig, dif_pos h]
theorem MY {k : Nat} (h : ¬ k < 10) : dig k = dig (k / 10) ++ [UInt8.ofNat (48 + k % 10)] := by rw [dig, dif_neg h]

theorem SL : ∀ (n k : Nat), 1 ≤ n → k < 10 ^ n → (dig k).length ≤ n
 | 0, _, h, _ => absurd h (by decide)
 | n + 1, k, _, hk => by
  by_cases h : k < 10
  ·rw [MX h]; simp
  ·rw [MY h]
   have h1 : 1 ≤ n := by
    rcases Nat.eq_zero_or_pos n with rfl | h1
    ·simp at hk; omega
    ·exact h1
   have := SL n (k / 10) h1 (by rw [Nat.pow_succ] at hk; omega)
   simp; exact this

def HR (n : Int) : ByteArray := if -4611686018427387904 ≤ n ∧ n ≤ 4611686018427387903 then (if n < 0 then ⟨#[45]⟩ ++ HX (-n).toNat else HX n.toNat) else ⟨#[]⟩
theorem KC (k : Nat) (hk : k ≤ 9223372036854775808) : (HX k).size ≤ 64 := by
 have := SL 20 k (by decide) (by omega)
 show (List.toArray _).size ≤ 64
 simp; omega
theorem Acs (n : Int) : (HR n).size ≤ 65 := by
 unfold HR
 split
 ·split
  ·rw [ByteArray.size_append]; have := KC (-n).toNat (by omega); have h : (⟨#[45]⟩ : ByteArray).size = 1 := rfl; omega
  ·have := KC n.toNat (by omega); omega
 ·show (0 : Nat) ≤ 65; omega

theorem Ps {k : Nat} (h : k < 10) : HX k = ⟨[UInt8.ofNat (48 + k)].toArray⟩ := by unfold HX; rw [MX h]
theorem Pt {k : Nat} (h : ¬ k < 10) : HX k = HX (k / 10) ++ ⟨[UInt8.ofNat (48 + k % 10)].toArray⟩ := by
 unfold HX; rw [MY h]; first | (rw [ByteArray.mk_append_mk]; done) | (rw [ByteArray.mk_append_mk]; simp)
theorem NY (m : Nat) (h : m < 256) : AV.int .u8 ((UInt8.ofNat m).toNat : Int) = .int .u8 (m : Int) := by
 rw [UInt8.toNat_ofNat']; congr 1; omega

def DP {α : Type} (d : α) (l : List α) (i : Nat) : List α := (List.range l.length).map fun p => if p < i ∨ l.length ≤ p + i then l.getD (l.length - 1 - p) d else l.getD p d
theorem F3 {α : Type} (d : α) (l : List α) (i : Nat) : (DP d l i).length = l.length := by simp [DP]
theorem VY {α : Type} (d : α) (l : List α) : DP d l 0 = l := by
 apply List.ext_getElem (by simp [DP])
 intro p h1 h2
 simp only [DP, List.getElem_map, List.getElem_range]
 rw [if_neg (by omega)]
 simp [List.getD_eq_getElem?_getD, h2]
theorem Zb {α : Type} (d : α) (l : List α) {i : Nat} (h : l.length ≤ 2 * i + 1) : DP d l i = l.reverse := by
 apply List.ext_getElem (by simp [DP])
 intro p h1 h2
 have hp : p < l.length := by simpa using h2
 simp only [DP, List.getElem_map, List.getElem_range, List.getElem_reverse]
 by_cases hc : p < i ∨ l.length ≤ p + i
 ·rw [if_pos hc]; simp [List.getD_eq_getElem?_getD, show l.length - 1 - p < l.length by omega]
 ·rw [if_neg hc]
  have : l.length - 1 - p = p := by omega
  simp [List.getD_eq_getElem?_getD, hp, this]
theorem ME {α : Type} (d : α) (l : List α) {i p : Nat} (hp : p < l.length) (h1 : i ≤ p) (h2 : p + i < l.length) : (DP d l i)[p]'(by rw [F3]; exact hp) = l[p] := by
 simp only [DP, List.getElem_map, List.getElem_range]
 rw [if_neg (by omega)]
 simp [List.getD_eq_getElem?_getD, hp]
theorem VZ {α : Type} (d : α) (l : List α) {i : Nat} (h : 2 * i + 1 < l.length) : ((DP d l i).set i (l[l.length - 1 - i]'(by omega))).set (l.length - 1 - i) (l[i]'(by omega)) = DP d l (i + 1) := by
 apply List.ext_getElem (by simp [DP])
 intro p h1 h2
 have hp : p < l.length := by simpa [DP] using h2
 simp only [List.getElem_set]
 by_cases ha : l.length - 1 - i = p
 ·rw [if_pos ha]
  simp only [DP, List.getElem_map, List.getElem_range]
  rw [if_pos (by omega)]
  have : l.length - 1 - p = i := by omega
  rw [this]; simp [List.getD_eq_getElem?_getD, show i < l.length by omega]
 ·rw [if_neg ha]
  by_cases hb : i = p
  ·rw [if_pos hb]
   simp only [DP, List.getElem_map, List.getElem_range]
   rw [if_pos (by omega), ← hb]; simp [List.getD_eq_getElem?_getD, show l.length - 1 - i < l.length by omega]
  ·rw [if_neg hb]
   simp only [DP, List.getElem_map, List.getElem_range]
   by_cases hc : p < i ∨ l.length ≤ p + i
   ·rw [if_pos hc, if_pos (by omega)]
   ·rw [if_neg hc, if_neg (by omega)]
end Go.Proofs.YtjbcnilllfaipaaGreat
set_option linter.unusedVariables false
set_option linter.unusedSimpArgs false
namespace Go.Proofs.YtjbcnilllfaipaaGreat
open Go.RowKit Go.Proofs.YtjbcnilllfaipaaGreat.Av
open Go.Proofs.YtjbcnilllfaipaaGreat.Av.AVal (av)

def wr (n : Int) : Int := (n + 4611686018427387904) % 9223372036854775808 - 4611686018427387904
theorem Gc (n : Int) : -4611686018427387904 ≤ wr n ∧ wr n ≤ 4611686018427387903 := by unfold wr; omega
theorem NN {a b : Int} (h : ∃ k, a = b + 9223372036854775808 * k) : wr a = wr b := by
 obtain ⟨k, rfl⟩ := h
 unfold wr
 rw [show b + 9223372036854775808 * k + 4611686018427387904 = (b + 4611686018427387904) + 9223372036854775808 * k by omega, Int.add_mul_emod_self_left]
theorem RS (a : Int) : ∃ k, wr a = a + 9223372036854775808 * k := ⟨-((a + 4611686018427387904) / 9223372036854775808), by unfold wr; omega⟩
theorem VW (a b : Int) : wr (wr a + wr b) = wr (a + b) := by
 obtain ⟨k, hk⟩ := RS a
 obtain ⟨l, hl⟩ := RS b
 exact NN ⟨k + l, by omega⟩
theorem Adg (a b : Int) : wr (wr a - wr b) = wr (a - b) := by
 obtain ⟨k, hk⟩ := RS a
 obtain ⟨l, hl⟩ := RS b
 exact NN ⟨k - l, by omega⟩
def OQ (b : Int) (i : Nat) : Int := b % 2 ^ i
theorem ZB (b : Int) : OQ b 0 = 0 := by simp [OQ, Int.emod_one]
theorem ZC (b : Int) (i : Nat) : OQ b (i + 1) = OQ b i + 2 ^ i * (b / 2 ^ i % 2) := by
 unfold OQ
 have hp : (0 : Int) < 2 ^ i := Int.pow_pos (by decide)
 have e : (2 : Int) ^ (i + 1) = 2 ^ i * 2 := Int.pow_succ 2 i
 have h1 := Int.mul_ediv_add_emod b (2 ^ i)
 have h2 := Int.mul_ediv_add_emod (b / 2 ^ i) 2
 have h3 := Int.emod_nonneg b (Int.ne_of_gt hp)
 have h4 := Int.emod_lt_of_pos b hp
 have h5 : 0 ≤ b / 2 ^ i % 2 := Int.emod_nonneg _ (by decide)
 have h6 : b / 2 ^ i % 2 < 2 := Int.emod_lt_of_pos _ (by decide)
 generalize hq : b / 2 ^ i / 2 = q at *
 generalize hr : b / 2 ^ i % 2 = r at *
 generalize hm : b % 2 ^ i = m at *
 have h7 : b = 2 ^ (i + 1) * q + (m + 2 ^ i * r) := by
  rw [e, ← h1, ← h2, Int.mul_add, Int.mul_assoc]; omega
 rw [h7, Int.add_comm, Int.add_mul_emod_self_left]
 refine Int.emod_eq_of_lt ?_ ?_
 ·have := Int.mul_nonneg (Int.le_of_lt hp) h5; omega
 ·rw [e]
  rcases (by omega : r = 0 ∨ r = 1) with rfl | rfl
  ·omega
  ·omega
theorem Gf (a b : Int) (i : Nat) (out x : Int) (ho : out = wr (a * OQ b i)) (hx : x = wr (a * 2 ^ i)) : (if b / 2 ^ i % 2 = 1 then wr (out + x) else out) = wr (a * OQ b (i + 1)) ∧ wr (x + x) = wr (a * 2 ^ (i + 1)) := by
 subst ho hx
 refine ⟨?_, ?_⟩
 ·rw [ZC]
  split
  ·rename_i h
   rw [h, Int.mul_one, VW, ← Int.mul_add]
  ·rename_i h
   have : b / 2 ^ i % 2 = 0 := by have := Int.emod_nonneg (b / 2 ^ i) (show (2 : Int) ≠ 0 by decide); have := Int.emod_lt_of_pos (b / 2 ^ i) (show (0 : Int) < 2 by decide); omega
   rw [this, Int.mul_zero, Int.add_zero]
 ·rw [VW]
  congr 1
  rw [Int.pow_succ, ← Int.mul_assoc]
  omega
theorem Acw (a b : Int) : wr (a * OQ b 63) = wr (a * b) := by
 refine NN ⟨-(a * (b / 2 ^ 63)), ?_⟩
 unfold OQ
 have h1 := Int.mul_ediv_add_emod b (2 ^ 63)
 have e : (2 : Int) ^ 63 = 9223372036854775808 := by decide
 rw [e] at h1 ⊢
 have h2 : b % 9223372036854775808 = b - 9223372036854775808 * (b / 9223372036854775808) := by omega
 rw [h2, Int.mul_sub, Int.mul_neg, Int.sub_eq_add_neg]
 congr 2
 rw [Int.mul_left_comm]
def ET (s : ByteArray) (a b : Int) : Int × Bool × Bool :=
 if s = bs [43] then (wr (a + b), false, true)
 else if s = bs [45] then (wr (a - b), false, true)
 else if s = bs [42] then (wr (a * b), false, true)
 else if s = bs [47] then (if wr b = 0 then (0, false, false) else (wr ((wr a).tdiv (wr b)), false, true))
 else if s = bs [37] then (if wr b = 0 then (0, false, false) else ((wr a).tmod (wr b), false, true))
 else if s = bs [61] then (if a = b then 1 else 0, true, true)
 else if s = bs [60, 62] then (if a = b then 0 else 1, true, true)
 else if s = bs [60] then (if a < b then 1 else 0, true, true)
 else (if a ≤ b then 1 else 0, true, true)
def PV (v : Int) : ByteArray := if v = 1 then bs [116, 114, 117, 101] else bs [102, 97, 108, 115, 101]
theorem RX (x y : Int) (hx : -4611686018427387904 ≤ x ∧ x ≤ 4611686018427387903) : -4611686018427387904 ≤ x.tmod y ∧ x.tmod y ≤ 4611686018427387903 := by
 have h1 := Int.mul_tdiv_add_tmod x y
 rcases Int.lt_or_le x 0 with h | h
 ·have h2 : x.tmod y = -((-x).tmod y) := by rw [Int.neg_tmod]; omega
  have h3 : 0 ≤ (-x).tmod y := Int.tmod_nonneg _ (by omega)
  have h4 : (-x).tmod y ≤ -x := by
   have := Int.natAbs_tdiv_le_natAbs (-x) y
   by_cases hy : y = 0
   ·rw [hy, Int.tmod_zero]; exact Int.le_refl _
   ·have h5 := Int.mul_tdiv_add_tmod (-x) y
    have h6 : 0 ≤ y * (-x).tdiv y := by
     rcases Int.lt_or_le y 0 with h7 | h7
     ·have : (-x).tdiv y ≤ 0 := Int.tdiv_nonpos_of_nonneg_of_nonpos (by omega) (by omega)
      exact Int.mul_nonneg_of_nonpos_of_nonpos (by omega) this
     ·exact Int.mul_nonneg h7 (Int.tdiv_nonneg (by omega) h7)
    omega
  omega
 ·have h3 : 0 ≤ x.tmod y := Int.tmod_nonneg _ h
  have h6 : 0 ≤ y * x.tdiv y := by
   rcases Int.lt_or_le y 0 with h7 | h7
   ·have : x.tdiv y ≤ 0 := Int.tdiv_nonpos_of_nonneg_of_nonpos h (by omega)
    exact Int.mul_nonneg_of_nonpos_of_nonpos (by omega) this
   ·exact Int.mul_nonneg h7 (Int.tdiv_nonneg h h7)
  omega
theorem AaG {s : ByteArray} {a b : Int} (h : (ET s a b).2.1 = false) : -4611686018427387904 ≤ (ET s a b).1 ∧ (ET s a b).1 ≤ 4611686018427387903 := by
 unfold ET at h ⊢
 have h0 : (-4611686018427387904 : Int) ≤ 0 ∧ (0 : Int) ≤ 4611686018427387903 := by decide
 repeat' (split at h)
 all_goals first | exact Gc _ | exact h0 | exact RX _ _ (Gc _) | (cases h; done) | skip
 all_goals simp_all
 all_goals first | exact Gc _ | exact RX _ _ (Gc _)
end Go.Proofs.YtjbcnilllfaipaaGreat
