/-
 THE GROUND OF DATA, in one text. Conditions: none.
-/
import Derived.Test.YtjifpdcflankpaaGreatRPackN
import Derived.Test.YtjifpdcflankpaaGreatRIrE
import Derived.Test.YtjifpdcflankpaaGreatRPackX
import Derived.Test.YtjifpdcflankpaaGreatRPackG

set_option linter.unusedVariables false
set_option linter.unusedSimpArgs false
set_option maxRecDepth 100000
namespace Go.Proofs.YtjifpdcflankpaaGreat
open Go.RowKit Go.Proofs.YtjifpdcflankpaaGreat.Av Go.Proofs.YtjifpdcflankpaaGreat.Ml
open Go.Proofs.YtjifpdcflankpaaGreat.Av.AVal (av)

theorem EqualFunc_TypeD_ok (l m : List TypeD) (g : FuncId) (p : TypeD → TypeD → Bool) (hl : l.length ≤ 1099511627776) (hm : m.length ≤ 1099511627776) (hg : ∀ x ∈ l, ∀ y ∈ m, CallsF Tryz.prog g [av x, av y] (.bool (p x y))) :
  CallsF Tryz.prog 91 [.sl (l.map av), .sl (m.map av), .fn g []] (.bool (eqF p l m)) := by
 refine ir_slices_EqualFunc_impl_Type_impl_Type_impl_Type_impl_Type.F rfl (by simp; exact ⟨lav_clean l, lav_clean m, AvPure.fn (by simp)⟩) (AvPure.bool _) ?_
 by_cases hne2 : l.length = m.length
 ·simp +contextual -dsimp (maxSteps := 2000000) only [↓SD, SU, SB, simprocAttr, ir_slices_EqualFunc_impl_Type_impl_Type_impl_Type_impl_Type, map_len, hne2, List.map_nil]
  refine aLoop_of (X := Nat) (fun k => ⟨[(1, .sl (m.map av)), (2, .fn g []), (15, .sl (l.map av)), (16, .int .i64 m.length), (17, .int .i64 k)], []⟩) (fun k => k ≤ l.length ∧ eqF p l m = eqF p (l.drop k) (m.drop k)) (fun k => l.length - k) 0 ⟨Nat.zero_le _, rfl⟩ (by simp +contextual -dsimp only [↓SD, SU, SB, simprocAttr, List.map_nil]) trivial ?_
  intro k ⟨hk, hp⟩
  by_cases hlt : k < l.length
  ·have e1 := getD_map av l k .top hlt
   have hlt2 : k < m.length := by omega
   have e2 := getD_map av m k .top hlt2
   have C := hg l[k] (List.getElem_mem hlt) m[k] (List.getElem_mem hlt2)
   rw [eqF_step l m k hlt hlt2] at hp
   generalize l[k] = a at *
   generalize m[k] = b at *
   rw [av_TypeD] at e1 e2
   rw [av_TypeD, av_TypeD] at C
   simp +contextual -dsimp (maxSteps := 2000000) only [↓SD, SU, SB, simprocAttr, map_len, hlt, hlt2, e1, e2, av_TypeD, List.map_nil, List.append_nil]
   intro u w
   refine aCallK_of _ C ?_
   cases hb : p a b with
   | true =>
    rw [hb, Bool.true_and] at hp
    simp +contextual -dsimp (maxSteps := 2000000) only [↓SD, SU, SB, simprocAttr, List.map_nil]
    exact ⟨by omega, Goes.le ⟨k + 1, ⟨⟨hlt, hp⟩, (by first | omega | (simp only; omega))⟩, rfl⟩ (by simp +contextual -dsimp only [↓SD, SU, SB, simprocAttr, Int.natCast_add, List.map_nil]) trivial⟩
   | false =>
    rw [hb, Bool.false_and] at hp
    simp +contextual -dsimp (maxSteps := 2000000) only [↓SD, SU, SB, simprocAttr, hp, List.map_nil]
  ·obtain rfl : k = l.length := by omega
   rw [List.drop_length, hne2, List.drop_length] at hp
   simp +contextual -dsimp (maxSteps := 2000000) only [↓SD, SU, SB, simprocAttr, map_len, hne2, Nat.lt_irrefl, hp, eqF]
 ·have hne3 : eqF p l m = false := eqF_len (by omega)
  simp +contextual -dsimp (maxSteps := 2000000) only [↓SD, SU, SB, simprocAttr, ir_slices_EqualFunc_impl_Type_impl_Type_impl_Type_impl_Type, map_len, hne2, hne3]
theorem EqualFunc_Con_ok (l m : List Con) (g : FuncId) (p : Con → Con → Bool) (hl : l.length ≤ 1099511627776) (hm : m.length ≤ 1099511627776) (hg : ∀ x ∈ l, ∀ y ∈ m, CallsF Tryz.prog g [av x, av y] (.bool (p x y))) :
  CallsF Tryz.prog 93 [.sl (l.map av), .sl (m.map av), .fn g []] (.bool (eqF p l m)) := by
 refine ir_slices_EqualFunc_impl_Con_impl_Con_impl_Con_impl_Con.F rfl (by simp; exact ⟨lav_clean l, lav_clean m, AvPure.fn (by simp)⟩) (AvPure.bool _) ?_
 by_cases hne2 : l.length = m.length
 ·simp +contextual -dsimp (maxSteps := 2000000) only [↓SD, SU, SB, simprocAttr, ir_slices_EqualFunc_impl_Con_impl_Con_impl_Con_impl_Con, map_len, hne2, List.map_nil]
  refine aLoop_of (X := Nat) (fun k => ⟨[(1, .sl (m.map av)), (2, .fn g []), (15, .sl (l.map av)), (16, .int .i64 m.length), (17, .int .i64 k)], []⟩) (fun k => k ≤ l.length ∧ eqF p l m = eqF p (l.drop k) (m.drop k)) (fun k => l.length - k) 0 ⟨Nat.zero_le _, rfl⟩ (by simp +contextual -dsimp only [↓SD, SU, SB, simprocAttr, List.map_nil]) trivial ?_
  intro k ⟨hk, hp⟩
  by_cases hlt : k < l.length
  ·have e1 := getD_map av l k .top hlt
   have hlt2 : k < m.length := by omega
   have e2 := getD_map av m k .top hlt2
   have C := hg l[k] (List.getElem_mem hlt) m[k] (List.getElem_mem hlt2)
   rw [eqF_step l m k hlt hlt2] at hp
   generalize l[k] = a at *
   generalize m[k] = b at *
   rw [av_Con] at e1 e2
   rw [av_Con, av_Con] at C
   simp +contextual -dsimp (maxSteps := 2000000) only [↓SD, SU, SB, simprocAttr, map_len, hlt, hlt2, e1, e2, av_Con, List.map_nil, List.append_nil]
   intro u w
   refine aCallK_of _ C ?_
   cases hb : p a b with
   | true =>
    rw [hb, Bool.true_and] at hp
    simp +contextual -dsimp (maxSteps := 2000000) only [↓SD, SU, SB, simprocAttr, List.map_nil]
    exact ⟨by omega, Goes.le ⟨k + 1, ⟨⟨hlt, hp⟩, (by first | omega | (simp only; omega))⟩, rfl⟩ (by simp +contextual -dsimp only [↓SD, SU, SB, simprocAttr, Int.natCast_add, List.map_nil]) trivial⟩
   | false =>
    rw [hb, Bool.false_and] at hp
    simp +contextual -dsimp (maxSteps := 2000000) only [↓SD, SU, SB, simprocAttr, hp, List.map_nil]
  ·obtain rfl : k = l.length := by omega
   rw [List.drop_length, hne2, List.drop_length] at hp
   simp +contextual -dsimp (maxSteps := 2000000) only [↓SD, SU, SB, simprocAttr, map_len, hne2, Nat.lt_irrefl, hp, eqF]
 ·have hne3 : eqF p l m = false := eqF_len (by omega)
  simp +contextual -dsimp (maxSteps := 2000000) only [↓SD, SU, SB, simprocAttr, ir_slices_EqualFunc_impl_Con_impl_Con_impl_Con_impl_Con, map_len, hne2, hne3]
theorem EqualItem_ok (l m : List TyItem) (hl : l.length ≤ 4503599627370496) (hm : m.length ≤ 4503599627370496) : CallsF Tryz.prog 95 [.sl (l.map av), .sl (m.map av)] (.bool (decide (l = m))) := by
 refine ir_slices_Equal_impl_TyItem_impl_TyItem.F rfl (by simp; exact ⟨lav_clean l, lav_clean m⟩) (AvPure.bool _) ?_
 by_cases hne2 : l.length = m.length
 ·simp +contextual -dsimp (maxSteps := 2000000) only [↓SD, SU, SB, simprocAttr, ir_slices_Equal_impl_TyItem_impl_TyItem, map_len, hne2]
  refine aLoop_of (X := Nat) (fun k => ⟨[(0, .sl (l.map av)), (1, .sl (m.map av)), (12, .int .i64 m.length), (13, .int .i64 k)], []⟩) (fun k => k ≤ l.length ∧ l.take k = m.take k) (fun k => l.length - k) 0 ⟨Nat.zero_le _, rfl⟩ (by simp +contextual -dsimp only [↓SD, SU, SB, simprocAttr]) trivial ?_
  intro k ⟨hk, hp⟩
  by_cases hlt : k < l.length
  ·have e1 := getD_map av l k .top hlt
   have hlt2 : k < m.length := by omega
   have e2 := getD_map av m k .top hlt2
   have hst : l[k] = m[k] → l.take (k + 1) = m.take (k + 1) := fun e => by rw [List.take_succ_eq_append_getElem hlt, List.take_succ_eq_append_getElem hlt2, hp, e]
   have hno : l[k] ≠ m[k] → decide (l = m) = false := fun e => decide_eq_false fun h => e (by simp only [h])
   generalize l[k] = a at *
   generalize m[k] = b at *
   obtain ⟨a0, a1, a2⟩ := a
   obtain ⟨b0, b1, b2⟩ := b
   simp only [TyItem.mk.injEq, ne_eq] at hst hno
   rw [av_TyItem] at e1 e2
   simp only at e1 e2
   by_cases h0 : a0 = b0
   ·by_cases h1 : a1 = b1
    ·by_cases h2 : a2 = b2
     ·subst h0 h1 h2
      simp +contextual -dsimp (maxSteps := 2000000) only [↓SD, SU, SB, simprocAttr, map_len, hlt, hlt2, e1, e2]
      exact ⟨by omega, Goes.le ⟨k + 1, ⟨⟨hlt, hst ⟨rfl, rfl, rfl⟩⟩, (by first | omega | (simp only; omega))⟩, rfl⟩ (by simp +contextual -dsimp only [↓SD, SU, SB, simprocAttr, Int.natCast_add]) trivial⟩
     ·have hs := hno (fun h => h2 h.2.2)
      simp +contextual -dsimp (maxSteps := 2000000) only [↓SD, SU, SB, simprocAttr, map_len, hlt, hlt2, e1, e2, h0, h1, h2, hs]
    ·have hs := hno (fun h => h1 h.2.1)
     simp +contextual -dsimp (maxSteps := 2000000) only [↓SD, SU, SB, simprocAttr, map_len, hlt, hlt2, e1, e2, h0, h1, hs]
   ·have hs := hno (fun h => h0 h.1)
    simp +contextual -dsimp (maxSteps := 2000000) only [↓SD, SU, SB, simprocAttr, map_len, hlt, hlt2, e1, e2, h0, hs]
  ·obtain rfl : k = l.length := by omega
   rw [List.take_length, hne2, List.take_length] at hp
   simp +contextual -dsimp (maxSteps := 2000000) only [↓SD, SU, SB, simprocAttr, map_len, hne2, Nat.lt_irrefl, hp, decide_true]
 ·have hne3 : decide (l = m) = false := decide_eq_false fun h => hne2 (by rw [h])
  simp +contextual -dsimp (maxSteps := 2000000) only [↓SD, SU, SB, simprocAttr, ir_slices_Equal_impl_TyItem_impl_TyItem, map_len, hne2, hne3]
theorem sameTypes11_ok (x y : Con) (hx : Bulk.bulk x ≤ 4294967296) (hy : Bulk.bulk y ≤ 4294967296) : CallsF Tryz.prog 94 [av x, av y] (.bool (decide (x = y))) := by
 refine ir_impl_sameTypes_1_1.F rfl (by simp; exact ⟨AVal.clean x, AVal.clean y⟩) (AvPure.bool _) ?_
 have hb : ∀ {x : Con}, Bulk.bulk x ≤ 4294967296 → x.arg.items.length ≤ 4294967296 := fun {x} h => by
  have h2 : Bulk.bulk x = Bulk.bulk x.name + Bulk.bulk x.has + Bulk.bulk x.arg + 1 := rfl
  have h3 : Bulk.bulk x.arg = Bulk.bulk x.arg.items + 1 := rfl
  have h4 := bulk_length x.arg.items
  omega
 have C := EqualItem_ok x.arg.items y.arg.items (by have := hb hx; omega) (by have := hb hy; omega)
 clear hb hx hy
 obtain ⟨a, b, ⟨c⟩⟩ := x
 obtain ⟨a', b', ⟨c'⟩⟩ := y
 simp only at C
 simp +contextual -dsimp (maxSteps := 2000000) only [↓SD, SU, SB, simprocAttr, ir_impl_sameTypes_1_1, av_Con, av_Ty]
 by_cases h1 : a = a'
 ·cases b <;> cases b'
  ·subst h1
   simp +contextual -dsimp (maxSteps := 2000000) only [↓SD, SU, SB, simprocAttr, beq_self_eq_true]
   refine aCallK_of _ C ?_
   simp +contextual -dsimp (maxSteps := 2000000) only [↓SD, SU, SB, simprocAttr]
   simp
  ·simp +contextual -dsimp (maxSteps := 2000000) only [↓SD, SU, SB, simprocAttr, h1]
   simp
  ·simp +contextual -dsimp (maxSteps := 2000000) only [↓SD, SU, SB, simprocAttr, h1]
   simp
  ·subst h1
   simp +contextual -dsimp (maxSteps := 2000000) only [↓SD, SU, SB, simprocAttr, beq_self_eq_true]
   refine aCallK_of _ C ?_
   simp +contextual -dsimp (maxSteps := 2000000) only [↓SD, SU, SB, simprocAttr]
   simp
 ·simp +contextual -dsimp (maxSteps := 2000000) only [↓SD, SU, SB, simprocAttr, h1]
  simp [h1]
theorem sameTypes1_ok (x y : TypeD) (hx : Bulk.bulk x ≤ 4294967296) (hy : Bulk.bulk y ≤ 4294967296) : CallsF Tryz.prog 92 [av x, av y] (.bool (decide (x = y))) := by
 refine ir_impl_sameTypes_1.F rfl (by simp; exact ⟨AVal.clean x, AVal.clean y⟩) (AvPure.bool _) ?_
 have hb : ∀ {x : TypeD}, Bulk.bulk x ≤ 4294967296 → x.cons.length ≤ 4294967296 ∧ ∀ c ∈ x.cons, Bulk.bulk c ≤ 4294967296 := fun {x} h => by
  have h2 : Bulk.bulk x = Bulk.bulk x.name + Bulk.bulk x.params + Bulk.bulk x.cons + 1 := rfl
  have h4 := bulk_length x.cons
  exact ⟨by omega, fun c hc => by have := bulk_mem hc; omega⟩
 have C := EqualFunc_Con_ok x.cons y.cons 94 (fun x y => decide (x = y)) (by have := (hb hx).1; omega) (by have := (hb hy).1; omega) fun p hp q hq => sameTypes11_ok p q ((hb hx).2 p hp) ((hb hy).2 q hq)
 rw [eqF_eq] at C
 clear hb hx hy
 obtain ⟨a, b, c⟩ := x
 obtain ⟨a', b', c'⟩ := y
 simp only at C
 simp +contextual -dsimp (maxSteps := 2000000) only [↓SD, SU, SB, simprocAttr, ir_impl_sameTypes_1, av_TypeD]
 by_cases h1 : a = a'
 ·by_cases h2 : b = b'
  ·subst h1 h2
   simp +contextual -dsimp (maxSteps := 2000000) only [↓SD, SU, SB, simprocAttr, List.map_nil]
   refine aCallK_of _ C ?_
   simp +contextual -dsimp (maxSteps := 2000000) only [↓SD, SU, SB, simprocAttr]
   simp
  ·simp +contextual -dsimp (maxSteps := 2000000) only [↓SD, SU, SB, simprocAttr, h1, h2]
   simp [h2]
 ·simp +contextual -dsimp (maxSteps := 2000000) only [↓SD, SU, SB, simprocAttr, h1]
  simp [h1]
theorem sameTypes_ok (l m : List TypeD) (hx : Bulk.bulk l ≤ 4294967296) (hy : Bulk.bulk m ≤ 4294967296) : CallsF Tryz.prog 42 [.sl (l.map av), .sl (m.map av)] (.bool (decide (l = m))) := by
 refine ir_impl_sameTypes.F rfl (by simp; exact ⟨lav_clean l, lav_clean m⟩) (AvPure.bool _) ?_
 have hl := bulk_length l
 have hm := bulk_length m
 have C := EqualFunc_TypeD_ok l m 92 (fun x y => decide (x = y)) (by omega) (by omega) fun x hx' y hy' => sameTypes1_ok x y (by have := bulk_mem hx'; omega) (by have := bulk_mem hy'; omega)
 rw [eqF_eq] at C
 simp +contextual -dsimp (maxSteps := 2000000) only [↓SD, SU, SB, simprocAttr, ir_impl_sameTypes]
 refine aCallK_of _ C ?_
 simp +contextual -dsimp (maxSteps := 2000000) only [↓SD, SU, SB, simprocAttr]
end Go.Proofs.YtjifpdcflankpaaGreat

namespace Go.Proofs.YtjifpdcflankpaaGreat
open Go.RowKit Go.Proofs.YtjifpdcflankpaaGreat.Av Go.Proofs.YtjifpdcflankpaaGreat.Ml
open Go.Proofs.YtjifpdcflankpaaGreat.Av.AVal (av)

def btl (s : ByteArray) : List UInt8 := s.data.toList
theorem btl_app (a b : ByteArray) : btl (a ++ b) = btl a ++ btl b := by simp [btl]
theorem btl_inj {a b : ByteArray} (h : btl a = btl b) : a = b := by
 cases a; cases b
 unfold btl at h
 simp only at h
 rw [Array.toList_inj.1 h]
theorem btl_bs (l : List Nat) : btl (bs l) = l.map UInt8.ofNat := by simp [btl, bs]
def Dl (r : List UInt8) : Prop := ∀ b t, r = b :: t → cls b.toNat = 0
theorem Dl.cons {b : UInt8} {t : List UInt8} (h : cls b.toNat = 0) : Dl (b :: t) := fun c u e => by
 rw [List.cons.injEq] at e
 rw [← e.1]; exact h
theorem word_cut : ∀ {a a' r r' : List UInt8}, (∀ b ∈ a, cls b.toNat ≠ 0) → (∀ b ∈ a', cls b.toNat ≠ 0) → Dl r → Dl r' → a ++ r = a' ++ r' → a = a' ∧ r = r'
 | [], [], _, _, _, _, _, _, h => ⟨rfl, h⟩
 | [], b :: a', _, _, _, h2, hr, _, h => absurd (hr b _ h) (h2 b (by simp))
 | b :: a, [], _, _, h1, _, _, hr, h => absurd (hr b _ h.symm) (h1 b (by simp))
 | b :: a, c :: a', r, r', h1, h2, hr, hr', h => by
  rw [List.cons_append, List.cons_append, List.cons.injEq] at h
  obtain ⟨e1, e2⟩ := word_cut (a := a) (a' := a') (fun x hx => h1 x (by simp [hx])) (fun x hx => h2 x (by simp [hx])) hr hr' h.2
  exact ⟨by rw [h.1, e1], e2⟩
def WordL (c : Int) (s : ByteArray) : Prop := (∃ b t, btl s = b :: t ∧ cls b.toNat = c) ∧ ∀ b ∈ btl s, cls b.toNat ≠ 0
theorem wordB_l {c : Int} {s : ByteArray} (h : wordB c s = true) : WordL c s := by
 unfold wordB at h
 simp only [Bool.and_eq_true, decide_eq_true_eq] at h
 obtain ⟨⟨h1, h2, h3⟩, h4⟩ := h
 have hb : ∀ i, (hi : i < (btl s).length) → (btl s)[i] = byteAt s i := fun i hi => by
  unfold btl at hi ⊢
  unfold byteAt
  rw [Array.length_toList] at hi
  rw [Array.getElem_toList, Array.getD_eq_getD_getElem?, Array.getElem?_eq_getElem hi]; rfl
 have hs : (btl s).length = s.size := by unfold btl; rw [Array.length_toList]; rfl
 constructor
 ·match hl : btl s with
  | [] => rw [hl] at hs; simp at hs; omega
  | b :: t =>
   refine ⟨b, t, rfl, ?_⟩
   have := hb 0 (by omega)
   simp only [hl, List.getElem_cons_zero] at this
   rw [this]; exact h4
 ·intro b hm
  obtain ⟨i, hi, rfl⟩ := List.getElem_of_mem hm
  rw [hb i hi]
  unfold allW at h1
  rw [List.all_eq_true] at h1
  have := h1 i (List.mem_range.2 (by omega))
  simpa using this
theorem nameB_l {s : ByteArray} (h : nameB s = true) : WordL 1 s := by
 unfold nameB at h
 rw [Bool.and_eq_true] at h
 exact wordB_l h.1
theorem ref_l : WordL 1 (bs [114, 101, 102]) := by
 unfold WordL
 rw [btl_bs]
 exact ⟨⟨_, _, rfl, by decide⟩, by decide⟩
theorem word_cut2 {c c' : Int} {s s' : ByteArray} {r r' : List UInt8} (h : WordL c s) (h' : WordL c' s') (hr : Dl r) (hr' : Dl r') (e : btl s ++ r = btl s' ++ r') : s = s' ∧ r = r' := by
 obtain ⟨e1, e2⟩ := word_cut h.2 h'.2 hr hr' e
 exact ⟨btl_inj e1, e2⟩
theorem word_no {c : Int} {s : ByteArray} {r r' : List UInt8} {b : UInt8} (h : WordL c s) (hc : c ≠ 0) (hb : cls b.toNat = 0) (e : btl s ++ r = b :: r') : False := by
 obtain ⟨⟨x, t, e1, e2⟩, _⟩ := h
 rw [e1, List.cons_append, List.cons.injEq] at e
 rw [e.1, hb] at e2
 exact hc e2.symm
def seg (l : List TyItem) (a b : Nat) : List TyItem := (l.drop a).take (b - a)
theorem seg_cons {l : List TyItem} {p e : Nat} {x : TyItem} (h : l[p]? = some x) (hp : p < e) : seg l p e = x :: seg l (p + 1) e := by
 obtain ⟨hlt, rfl⟩ := List.getElem?_eq_some_iff.1 h
 unfold seg
 rw [List.drop_eq_getElem_cons hlt, show e - p = (e - (p + 1)) + 1 by omega, List.take_succ_cons]
theorem seg_nil (l : List TyItem) (p : Nat) : seg l p p = [] := by unfold seg; rw [Nat.sub_self]; rfl
theorem seg_app (l : List TyItem) {a q b : Nat} (h1 : a ≤ q) (h2 : q ≤ b) : seg l a b = seg l a q ++ seg l q b := by
 unfold seg
 rw [show b - a = (q - a) + (b - q) by omega, List.take_add, List.drop_drop, show a + (q - a) = q by omega]
theorem item_eq {x y : TyItem} (h1 : x.var = y.var) (h2 : x.name = y.name) (h3 : x.arity = y.arity) : x = y := by
 cases x; cases y; simp only at h1 h2 h3; subst h1; subst h2; subst h3; rfl
def opS (s : ByteArray) : Prop := s = bs [45, 62] ∨ s = bs [42]
inductive TyAt (l : List TyItem) (f p e : Nat) (x : TyItem) (s : List UInt8) : Prop
 | var (h1 : x.name = bs []) (h2 : x.arity = 0) (h3 : 0 ≤ x.var ∧ x.var < 26) (h4 : e = p + 1) (h : s = [39, UInt8.ofNat (97 + x.var.toNat)])
 | name (h1 : WordL 1 x.name) (h2 : x.arity = 0) (h3 : x.var = 0) (h4 : e = p + 1) (h : s = btl x.name)
 | one (h1 : WordL 1 x.name) (h2 : x.arity = 1) (h3 : x.var = 0) (h4 : endT (arL l) f (p + 1) = some e) (h : s = 40 :: (btl (tyS l f (p + 1)) ++ 41 :: 32 :: btl x.name))
 | op (h1 : opS x.name) (h2 : x.arity = 2) (h3 : x.var = 0) (q : Nat) (h4 : endT (arL l) f (p + 1) = some q) (h5 : endT (arL l) f q = some e) (h : s = 40 :: (btl (tyS l f (p + 1)) ++ 32 :: (btl x.name ++ 32 :: (btl (tyS l f q) ++ [41]))))
 | pair (h1 : WordL 1 x.name) (h2 : x.arity = 2) (h3 : x.var = 0) (q : Nat) (h4 : endT (arL l) f (p + 1) = some q) (h5 : endT (arL l) f q = some e) (h : s = 40 :: (btl (tyS l f (p + 1)) ++ 44 :: 32 :: (btl (tyS l f q) ++ 41 :: 32 :: btl x.name)))
theorem tyAt {l : List TyItem} (hi : l.all itemB = true) (hv : ∀ x ∈ l, x.name = bs [] → x.var < 26) {f p e : Nat} (h : endT (arL l) (f + 1) p = some e) : ∃ x, l[p]? = some x ∧ p < e ∧ TyAt l f p e x (btl (tyS l (f + 1) p)) := by
 have hl : (arL l).length = l.length := by simp [arL]
 have hle := (endT_le _ _ _ _ h).1
 rw [endT] at h
 split at h
 case isFalse => cases h
 rename_i hp
 rw [hl] at hp
 have hg : l[p]? = some l[p] := List.getElem?_eq_getElem hp
 have hit := List.all_eq_true.1 hi l[p] (List.getElem_mem hp)
 have hvr := hv l[p] (List.getElem_mem hp)
 have hag : (arL l).getD p 0 = l[p].arity.toNat := by simp [arL, List.getD_eq_getElem?_getD, hp]
 rw [hag] at h
 refine ⟨l[p], hg, hle, ?_⟩
 rw [tyS, hg]
 generalize l[p] = x at *
 dsimp only
 have two : x.arity = 2 → ∃ q, endT (arL l) f (p + 1) = some q ∧ endT (arL l) f q = some e := fun ha => by
  rw [ha] at h
  have : iterT (endT (arL l) f) 2 (p + 1) = some e := h
  rw [iterT] at this
  cases hx : endT (arL l) f (p + 1) with
  | none => rw [hx] at this; cases this
  | some q =>
   rw [hx, Option.bind_some, iterT] at this
   cases hy : endT (arL l) f q with
   | none => rw [hy] at this; cases this
   | some z => rw [hy] at this; exact ⟨q, rfl, hy.trans this⟩
 unfold itemB at hit
 by_cases hn : x.name = bs []
 ·rw [if_pos hn] at hit ⊢
  simp only [Bool.and_eq_true, decide_eq_true_eq] at hit
  have hv2 := hvr hn
  rw [hit.2] at h
  obtain rfl : p + 1 = e := by simpa [iterT] using h
  refine .var hn hit.2 ⟨by omega, hv2⟩ rfl ?_
  unfold varS
  rw [if_neg (by omega), btl_app, btl_bs]; rfl
 ·rw [if_neg hn] at hit ⊢
  have hx0 : x.var = 0 := by
   by_cases h0 : x.var = 0
   ·exact h0
   ·rw [if_neg h0] at hit; cases hit
  rw [if_pos hx0] at hit
  by_cases ho : x.name = bs [45, 62] ∨ x.name = bs [42]
  ·rw [if_pos ho] at hit
   have ha : x.arity = 2 := by simpa using hit
   obtain ⟨q, h4, h5⟩ := two ha
   refine .op ho ha hx0 q h4 h5 ?_
   rw [if_neg (by omega), if_neg (by omega), if_pos ho, h4, Option.getD_some]
   simp only [btl_app, btl_bs, List.map_cons, List.map_nil, List.append_assoc, List.cons_append, List.nil_append]
   rfl
  ·rw [if_neg ho] at hit
   have hW : WordL 1 x.name ∧ (x.arity = 0 ∨ x.arity = 1 ∨ x.arity = 2) := by
    by_cases hr : x.name = bs [114, 101, 102]
    ·rw [if_pos hr] at hit
     exact ⟨hr ▸ ref_l, .inr (.inl (by simpa using hit))⟩
    ·rw [if_neg hr] at hit
     simp only [Bool.and_eq_true, decide_eq_true_eq] at hit
     exact ⟨nameB_l hit.1, by omega⟩
   obtain ⟨hW, ha | ha | ha⟩ := hW
   ·rw [if_pos ha]
    rw [ha] at h
    obtain rfl : p + 1 = e := by simpa [iterT] using h
    exact .name hW ha hx0 rfl rfl
   ·rw [if_neg (by omega), if_pos ha]
    refine .one hW ha hx0 ?_ ?_
    ·rw [ha] at h
     have : iterT (endT (arL l) f) 1 (p + 1) = some e := h
     rw [iterT] at this
     cases hx : endT (arL l) f (p + 1) with
     | none => rw [hx] at this; cases this
     | some q => rw [hx] at this; exact this
    ·simp only [btl_app, btl_bs, List.map_cons, List.map_nil, List.append_assoc, List.cons_append, List.nil_append]
     rfl
   ·obtain ⟨q, h4, h5⟩ := two ha
    rw [if_neg (by omega), if_neg (by omega), if_neg ho, h4, Option.getD_some]
    refine .pair hW ha hx0 q h4 h5 ?_
    simp only [btl_app, btl_bs, List.map_cons, List.map_nil, List.append_assoc, List.cons_append, List.nil_append]
    rfl
theorem tyS_inj {l l' : List TyItem} (hi : l.all itemB = true) (hi' : l'.all itemB = true) (hv : ∀ x ∈ l, x.name = bs [] → x.var < 26) (hv' : ∀ x ∈ l', x.name = bs [] → x.var < 26) :
  ∀ (f f' p p' e e' : Nat) (r r' : List UInt8), endT (arL l) f p = some e → endT (arL l') f' p' = some e' → Dl r → Dl r' → btl (tyS l f p) ++ r = btl (tyS l' f' p') ++ r' → seg l p e = seg l' p' e' ∧ r = r'
 | 0, f', p, p', e, e', r, r', h, h', hr, hr', eq => by cases h
 | f + 1, 0, p, p', e, e', r, r', h, h', hr, hr', eq => by cases h'
 | f + 1, f' + 1, p, p', e, e', r, r', h, h', hr, hr', eq => by
  obtain ⟨x, hx, hpe, X⟩ := tyAt hi hv h
  obtain ⟨y, hy, hpe', Y⟩ := tyAt hi' hv' h'
  have IH := fun p p' e e' r r' => tyS_inj hi hi' hv hv' f f' p p' e e' r r'
  rw [seg_cons hx hpe, seg_cons hy hpe']
  generalize btl (tyS l (f + 1) p) = s at *
  generalize btl (tyS l' (f' + 1) p') = s' at *
  cases X with
  | var a1 a2 a3 a4 a =>
   subst a; subst a4
   cases Y with
   | var b1 b2 b3 b4 b =>
    subst b; subst b4
    simp only [List.cons_append, List.nil_append, List.cons.injEq, true_and] at eq
    have e1 : (UInt8.ofNat (97 + x.var.toNat)).toNat = (UInt8.ofNat (97 + y.var.toNat)).toNat := by rw [eq.1]
    rw [UInt8.toNat_ofNat', UInt8.toNat_ofNat', Nat.mod_eq_of_lt (by omega), Nat.mod_eq_of_lt (by omega)] at e1
    rw [seg_nil, seg_nil, item_eq (by omega) (a1.trans b1.symm) (a2.trans b2.symm)]
    exact ⟨rfl, eq.2⟩
   | name b1 b2 b3 b4 b => subst b; exact (word_no b1 (by decide) (by decide) eq.symm).elim
   | one b1 b2 b3 b4 b => subst b; simp only [List.cons_append, List.cons.injEq] at eq; exact absurd eq.1 (by decide)
   | op b1 b2 b3 q b4 b5 b => subst b; simp only [List.cons_append, List.cons.injEq] at eq; exact absurd eq.1 (by decide)
   | pair b1 b2 b3 q b4 b5 b => subst b; simp only [List.cons_append, List.cons.injEq] at eq; exact absurd eq.1 (by decide)
  | name a1 a2 a3 a4 a =>
   subst a; subst a4
   cases Y with
   | var b1 b2 b3 b4 b => subst b; exact (word_no a1 (by decide) (by decide) eq).elim
   | name b1 b2 b3 b4 b =>
    subst b; subst b4
    obtain ⟨e1, e2⟩ := word_cut2 a1 b1 hr hr' eq
    rw [seg_nil, seg_nil, item_eq (a3.trans b3.symm) e1 (a2.trans b2.symm)]
    exact ⟨rfl, e2⟩
   | one b1 b2 b3 b4 b => subst b; exact (word_no a1 (by decide) (by decide) eq).elim
   | op b1 b2 b3 q b4 b5 b => subst b; exact (word_no a1 (by decide) (by decide) eq).elim
   | pair b1 b2 b3 q b4 b5 b => subst b; exact (word_no a1 (by decide) (by decide) eq).elim
  | one a1 a2 a3 a4 a =>
   subst a
   cases Y with
   | var b1 b2 b3 b4 b => subst b; simp only [List.cons_append, List.cons.injEq] at eq; exact absurd eq.1 (by decide)
   | name b1 b2 b3 b4 b => subst b; exact (word_no b1 (by decide) (by decide) eq.symm).elim
   | one b1 b2 b3 b4 b =>
    subst b
    simp only [List.cons_append, List.append_assoc, List.cons.injEq, true_and] at eq
    obtain ⟨e1, e2⟩ := IH _ _ _ _ _ _ a4 b4 (.cons (by decide)) (.cons (by decide)) eq
    simp only [List.cons.injEq, true_and] at e2
    obtain ⟨e3, e4⟩ := word_cut2 a1 b1 hr hr' e2
    rw [e1, item_eq (a3.trans b3.symm) e3 (a2.trans b2.symm)]
    exact ⟨rfl, e4⟩
   | op b1 b2 b3 q b4 b5 b =>
    subst b
    simp only [List.cons_append, List.append_assoc, List.cons.injEq, true_and] at eq
    obtain ⟨e1, e2⟩ := IH _ _ _ _ _ _ a4 b4 (.cons (by decide)) (.cons (by decide)) eq
    rw [List.cons.injEq] at e2; exact absurd e2.1 (by decide)
   | pair b1 b2 b3 q b4 b5 b =>
    subst b
    simp only [List.cons_append, List.append_assoc, List.cons.injEq, true_and] at eq
    obtain ⟨e1, e2⟩ := IH _ _ _ _ _ _ a4 b4 (.cons (by decide)) (.cons (by decide)) eq
    rw [List.cons.injEq] at e2; exact absurd e2.1 (by decide)
  | op a1 a2 a3 q a4 a5 a =>
   subst a
   have hq := endT_le _ _ _ _ a4
   have hq2 := endT_le _ _ _ _ a5
   cases Y with
   | var b1 b2 b3 b4 b => subst b; simp only [List.cons_append, List.cons.injEq] at eq; exact absurd eq.1 (by decide)
   | name b1 b2 b3 b4 b => subst b; exact (word_no b1 (by decide) (by decide) eq.symm).elim
   | one b1 b2 b3 b4 b =>
    subst b
    simp only [List.cons_append, List.append_assoc, List.cons.injEq, true_and] at eq
    obtain ⟨e1, e2⟩ := IH _ _ _ _ _ _ a4 b4 (.cons (by decide)) (.cons (by decide)) eq
    rw [List.cons.injEq] at e2; exact absurd e2.1 (by decide)
   | op b1 b2 b3 q' b4 b5 b =>
    subst b
    have hq' := endT_le _ _ _ _ b4
    have hq2' := endT_le _ _ _ _ b5
    simp only [List.cons_append, List.append_assoc, List.cons.injEq, true_and] at eq
    obtain ⟨e1, e2⟩ := IH _ _ _ _ _ _ a4 b4 (.cons (by decide)) (.cons (by decide)) eq
    rw [List.cons.injEq] at e2
    replace e2 := e2.2
    have e3 : x.name = y.name ∧ btl (tyS l f q) ++ 41 :: r = btl (tyS l' f' q') ++ 41 :: r' := by
     rcases a1 with a1 | a1 <;> rcases b1 with b1 | b1 <;> simp only [a1, b1, btl_bs, List.map_cons, List.map_nil, List.cons_append, List.nil_append, List.cons.injEq, true_and] at e2
     ·exact ⟨a1.trans b1.symm, e2⟩
     ·exact absurd e2.1 (by decide)
     ·exact absurd e2.1 (by decide)
     ·exact ⟨a1.trans b1.symm, e2⟩
    obtain ⟨e4, e5⟩ := IH _ _ _ _ _ _ a5 b5 (.cons (by decide)) (.cons (by decide)) e3.2
    rw [List.cons.injEq] at e5
    rw [seg_app l (q := q) (by omega) (by omega), seg_app l' (q := q') (by omega) (by omega), e1, e4, item_eq (a3.trans b3.symm) e3.1 (a2.trans b2.symm)]
    exact ⟨rfl, e5.2⟩
   | pair b1 b2 b3 q b4 b5 b =>
    subst b
    simp only [List.cons_append, List.append_assoc, List.cons.injEq, true_and] at eq
    obtain ⟨e1, e2⟩ := IH _ _ _ _ _ _ a4 b4 (.cons (by decide)) (.cons (by decide)) eq
    rw [List.cons.injEq] at e2; exact absurd e2.1 (by decide)
  | pair a1 a2 a3 q a4 a5 a =>
   subst a
   have hq := endT_le _ _ _ _ a4
   have hq2 := endT_le _ _ _ _ a5
   cases Y with
   | var b1 b2 b3 b4 b => subst b; simp only [List.cons_append, List.cons.injEq] at eq; exact absurd eq.1 (by decide)
   | name b1 b2 b3 b4 b => subst b; exact (word_no b1 (by decide) (by decide) eq.symm).elim
   | one b1 b2 b3 b4 b =>
    subst b
    simp only [List.cons_append, List.append_assoc, List.cons.injEq, true_and] at eq
    obtain ⟨e1, e2⟩ := IH _ _ _ _ _ _ a4 b4 (.cons (by decide)) (.cons (by decide)) eq
    rw [List.cons.injEq] at e2; exact absurd e2.1 (by decide)
   | op b1 b2 b3 q b4 b5 b =>
    subst b
    simp only [List.cons_append, List.append_assoc, List.cons.injEq, true_and] at eq
    obtain ⟨e1, e2⟩ := IH _ _ _ _ _ _ a4 b4 (.cons (by decide)) (.cons (by decide)) eq
    rw [List.cons.injEq] at e2; exact absurd e2.1 (by decide)
   | pair b1 b2 b3 q' b4 b5 b =>
    subst b
    have hq' := endT_le _ _ _ _ b4
    have hq2' := endT_le _ _ _ _ b5
    simp only [List.cons_append, List.append_assoc, List.cons.injEq, true_and] at eq
    obtain ⟨e1, e2⟩ := IH _ _ _ _ _ _ a4 b4 (.cons (by decide)) (.cons (by decide)) eq
    simp only [List.cons.injEq, true_and] at e2
    obtain ⟨e4, e5⟩ := IH _ _ _ _ _ _ a5 b5 (.cons (by decide)) (.cons (by decide)) e2
    simp only [List.cons.injEq, true_and] at e5
    obtain ⟨e6, e7⟩ := word_cut2 a1 b1 hr hr' e5
    rw [seg_app l (q := q) (by omega) (by omega), seg_app l' (q := q') (by omega) (by omega), e1, e4, item_eq (a3.trans b3.symm) e6 (a2.trans b2.symm)]
    exact ⟨rfl, e7⟩
def conT (c : Con) : List UInt8 := btl c.name ++ if c.has = true then 32 :: 111 :: 102 :: 32 :: btl (tyS c.arg.items (c.arg.items.length + 1) 0) else []
def conL : Nat → List Con → List UInt8
 | _, [] => []
 | i, c :: r => (if 0 < i then [32, 124, 32] else []) ++ (conT c ++ conL (i + 1) r)
theorem consF_as : ∀ (l : List Con) (s : ByteArray) (i : Nat), btl (consF s i l) = btl s ++ conL i l
 | [], s, i => by rw [consF, conL, List.append_nil]
 | c :: r, s, i => by
  rw [consF, consF_as r, conL, conStep, conT]
  by_cases hi : 0 < i <;> by_cases hh : c.has = true <;> simp only [hi, hh, if_true, if_false, btl_app, btl_bs, List.map_cons, List.map_nil, List.append_assoc, List.cons_append, List.nil_append, Bool.false_eq_true] <;> rfl
theorem con_next (i : Nat) (l : List Con) (r : List UInt8) : (∃ t, conL (i + 1) l ++ 59 :: r = 59 :: t) ∨ ∃ t, conL (i + 1) l ++ 59 :: r = 32 :: 124 :: t := by
 cases l with
 | nil => exact .inl ⟨r, rfl⟩
 | cons c l => rw [conL, if_pos (by omega)]; exact .inr ⟨_, rfl⟩
theorem con_dl (i : Nat) (l : List Con) (r : List UInt8) : Dl (conL (i + 1) l ++ 59 :: r) := by
 rcases con_next i l r with ⟨t, e⟩ | ⟨t, e⟩ <;> rw [e] <;> exact .cons (by decide)
theorem ty_whole {l : List TyItem} (h : tyB l = true) : endT (arL l) (l.length + 1) 0 = some l.length ∧ seg l 0 l.length = l := ⟨(tyB_facts h).2, by unfold seg; simp⟩
theorem conL_inj {m m' : Int} (hm : m ≤ 26) (hm' : m' ≤ 26) : ∀ (i : Nat) (l l' : List Con) (r r' : List UInt8), (∀ c ∈ l, conOkB c m = true) → (∀ c ∈ l', conOkB c m' = true) → (0 < i ∨ (l ≠ [] ∧ l' ≠ [])) → conL i l ++ 59 :: r = conL i l' ++ 59 :: r' → l = l' ∧ r = r'
 | i, [], [], r, r', _, _, _, e => by simpa [conL] using e
 | i, [], c :: l', r, r', _, _, hi, e => by
  have hi : 0 < i := hi.resolve_right (fun h => h.1 rfl)
  rw [conL, conL, if_pos hi] at e
  simp only [List.cons_append, List.nil_append, List.cons.injEq] at e
  exact absurd e.1 (by decide)
 | i, c :: l, [], r, r', _, _, hi, e => by
  have hi : 0 < i := hi.resolve_right (fun h => h.2 rfl)
  rw [conL, conL, if_pos hi] at e
  simp only [List.cons_append, List.nil_append, List.cons.injEq] at e
  exact absurd e.1 (by decide)
 | i, c :: l, c' :: l', r, r', h, h', hi, e => by
  have hc := h c (by simp)
  have hc' := h' c' (by simp)
  rw [conL, conL] at e
  simp only [List.append_assoc] at e
  replace e := List.append_cancel_left e
  rw [conT, conT] at e
  simp only [List.append_assoc] at e
  have w := hc
  have w' := hc'
  unfold conOkB at w w'
  simp only [Bool.and_eq_true, List.all_eq_true] at w w'
  have hd := con_dl i l r
  have hd' := con_dl i l' r'
  have hn := con_next i l r
  have hn' := con_next i l' r'
  have IH := conL_inj hm hm' (i + 1) l l' r r' (fun c hc => h c (by simp [hc])) (fun c hc => h' c (by simp [hc])) (.inl (by omega))
  have vr : ∀ x ∈ c.arg.items, x.name = bs [] → x.var < 26 := fun x hx hn => by
   have := w.2 x hx
   simp [hn] at this
   omega
  have vr' : ∀ x ∈ c'.arg.items, x.name = bs [] → x.var < 26 := fun x hx hn => by
   have := w'.2 x hx
   simp [hn] at this
   omega
  obtain ⟨nm, has, ⟨it⟩⟩ := c
  obtain ⟨nm', has', ⟨it'⟩⟩ := c'
  dsimp only at *
  cases has <;> cases has' <;> simp only [if_true, if_false, Bool.false_eq_true, List.nil_append, List.cons_append, decide_eq_true_eq] at e w w'
  ·obtain ⟨e1, e2⟩ := word_cut2 (wordB_l w.1.1) (wordB_l w'.1.1) hd hd' e
   obtain ⟨e3, e4⟩ := IH e2
   rw [e1, e3, w.1.2, w'.1.2]
   exact ⟨rfl, e4⟩
  ·obtain ⟨e1, e2⟩ := word_cut2 (wordB_l w.1.1) (wordB_l w'.1.1) hd (.cons (by decide)) e
   rcases hn with ⟨t, ht⟩ | ⟨t, ht⟩ <;> rw [ht] at e2 <;> simp only [List.cons.injEq] at e2
   ·exact absurd e2.1 (by decide)
   ·exact absurd e2.2.1 (by decide)
  ·obtain ⟨e1, e2⟩ := word_cut2 (wordB_l w.1.1) (wordB_l w'.1.1) (.cons (by decide)) hd' e
   rcases hn' with ⟨t, ht⟩ | ⟨t, ht⟩ <;> rw [ht] at e2 <;> simp only [List.cons.injEq] at e2
   ·exact absurd e2.1 (by decide)
   ·exact absurd e2.2.1 (by decide)
  ·obtain ⟨e1, e2⟩ := word_cut2 (wordB_l w.1.1) (wordB_l w'.1.1) (.cons (by decide)) (.cons (by decide)) e
   simp only [List.cons.injEq, true_and] at e2
   obtain ⟨t1, t2⟩ := ty_whole w.1.2
   obtain ⟨t1', t2'⟩ := ty_whole w'.1.2
   obtain ⟨e3, e4⟩ := tyS_inj (tyB_facts w.1.2).1 (tyB_facts w'.1.2).1 vr vr' _ _ _ _ _ _ _ _ t1 t1' hd hd' e2
   rw [t2, t2'] at e3
   obtain ⟨e5, e6⟩ := IH e4
   rw [e1, e3, e5]
   exact ⟨rfl, e6⟩
def typeT (t : TypeD) : List UInt8 := 116 :: 121 :: 112 :: 101 :: 32 :: (btl (parS t.params) ++ (btl t.name ++ 32 :: 61 :: 32 :: (conL 0 t.cons ++ [59, 32])))
theorem typesF_as : ∀ (l : List TypeD) (s : ByteArray), btl (typesF s l) = btl s ++ (l.map typeT).flatten
 | [], s => by simp [typesF]
 | t :: r, s => by
  have h := typesF_as r (typeStep s t)
  unfold typesF at h ⊢
  rw [List.foldl_cons, h, typeStep, btl_app, consF_as, List.map_cons, List.flatten_cons, typeT]
  simp only [btl_app, btl_bs, List.map_cons, List.map_nil, List.append_assoc, List.cons_append, List.nil_append]
  rfl
theorem types_inj : ∀ {l l' : List TypeD} {r r' : List UInt8}, (∀ t ∈ l, typeB t = true) → (∀ t ∈ l', typeB t = true) → (l.map typeT).flatten ++ 40 :: r = (l'.map typeT).flatten ++ 40 :: r' → l = l' ∧ r = r'
 | [], [], r, r', _, _, e => by simpa using e
 | [], t :: l', r, r', _, _, e => by
  rw [List.map_cons, List.flatten_cons, typeT] at e
  simp only [List.map_nil, List.flatten_nil, List.cons_append, List.nil_append, List.cons.injEq] at e
  exact absurd e.1 (by decide)
 | t :: l, [], r, r', _, _, e => by
  rw [List.map_cons, List.flatten_cons, typeT] at e
  simp only [List.map_nil, List.flatten_nil, List.cons_append, List.nil_append, List.cons.injEq] at e
  exact absurd e.1 (by decide)
 | t :: l, t' :: l', r, r', h, h', e => by
  have w := h t (by simp)
  have w' := h' t' (by simp)
  unfold typeB at w w'
  simp only [Bool.and_eq_true, decide_eq_true_eq, List.all_eq_true] at w w'
  obtain ⟨⟨⟨w1, w2⟩, w3⟩, w4⟩ := w
  obtain ⟨⟨⟨v1, v2⟩, v3⟩, v4⟩ := w'
  rw [List.map_cons, List.map_cons, List.flatten_cons, List.flatten_cons, typeT, typeT] at e
  simp only [List.cons_append, List.append_assoc, List.cons.injEq, true_and, List.nil_append] at e
  have IH := @types_inj l l' r r' (fun c hc => h c (by simp [hc])) (fun c hc => h' c (by simp [hc]))
  have W := nameB_l w1
  have W' := nameB_l v1
  have hp : t.params = t'.params := by
   have c : t.params = 0 ∨ t.params = 1 ∨ t.params = 2 := by omega
   have c' : t'.params = 0 ∨ t'.params = 1 ∨ t'.params = 2 := by omega
   rcases c with c | c | c <;> rcases c' with c' | c' | c' <;> rw [c, c'] <;> exfalso <;> rw [c, c', parS, parS] at e <;> simp only [btl_bs, List.map_cons, List.map_nil, if_true, if_false, List.cons_append, List.nil_append, show ¬ (1 : Int) = 0 by decide, show ¬ (2 : Int) = 0 by decide, show ¬ (2 : Int) = 1 by decide] at e
   ·exact word_no W (by decide) (by decide) e
   ·exact word_no W (by decide) (by decide) e
   ·exact word_no W' (by decide) (by decide) e.symm
   ·rw [List.cons.injEq] at e; exact absurd e.1 (by decide)
   ·exact word_no W' (by decide) (by decide) e.symm
   ·rw [List.cons.injEq] at e; exact absurd e.1 (by decide)
  rw [hp] at e
  replace e := List.append_cancel_left e
  obtain ⟨e1, e2⟩ := word_cut2 W W' (.cons (by decide)) (.cons (by decide)) e
  simp only [List.cons.injEq, true_and] at e2
  obtain ⟨e3, e4⟩ := conL_inj (m := t.params) (m' := t'.params) (by omega) (by omega) 0 t.cons t'.cons _ _ w4 v4 (.inr ⟨fun h => by rw [h] at w3; simp at w3, fun h => by rw [h] at v3; simp at v3⟩) e2
  rw [List.cons.injEq] at e4
  obtain ⟨e5, e6⟩ := IH e4.2
  obtain ⟨nm, pr, cn⟩ := t
  obtain ⟨nm', pr', cn'⟩ := t'
  dsimp only at *
  subst hp; subst e1; subst e3
  rw [e5]
  exact ⟨rfl, e6⟩
theorem unitS_inj {l l' : List TypeD} (h : progB (unitP l) = true) (h' : progB (unitP l') = true) : unitS l = unitS l' ↔ l = l' := by
 refine ⟨fun e => ?_, fun e => by rw [e]⟩
 have t : ∀ {l}, progB (unitP l) = true → ∀ t ∈ l, typeB t = true := fun {l} h => by
  unfold progB shapeP at h
  simp only [Bool.and_eq_true, List.all_eq_true] at h
  exact h.1.2
 have e2 := congrArg btl e
 unfold unitS at e2
 rw [if_pos h, if_pos h', btl_app, btl_app, typesF_as, typesF_as, btl_bs] at e2
 exact (types_inj (r := [41]) (r' := [41]) (t h) (t h') (by simpa [btl_bs] using e2)).1
end Go.Proofs.YtjifpdcflankpaaGreat

namespace Go.Proofs.YtjifpdcflankpaaGreat
open Go.RowKit Go.Proofs.YtjifpdcflankpaaGreat.Av Go.Proofs.YtjifpdcflankpaaGreat.Ml
open Go.Proofs.YtjifpdcflankpaaGreat.Av.AVal (av)

def implUp (a b : Program) : Bool := toCoreB a && (toCoreB b && (decide ((toCoreR a).types = (toCoreR b).types) && decide ((toCoreR a).nodes.map zpN = (toCoreR b).nodes.map zpN)))
def specUp (a b : Program) : Bool := toCoreB a && (toCoreB b && (decide ((toCoreR a).types.length = (toCoreR b).types.length) && (decide ((toCoreR a).nodes = (toCoreR b).nodes) && decide (unitS (toCoreR a).types = unitS (toCoreR b).types))))
theorem unit_prog {p : Program} (h : progB p = true) : progB (unitP p.types) = true := by
 unfold progB shapeP at h ⊢
 simp only [Bool.and_eq_true] at h ⊢
 exact ⟨⟨⟨⟨⟨⟨by rfl, by rfl⟩, h.1.1.1.1.2⟩, by rfl⟩, by rfl⟩, h.1.2⟩, by rfl⟩
theorem toCoreR_facts {p : Program} (hx : Bulk.bulk p ≤ 4294967296) (h : toCoreB p = true) : (toCoreR p).types = p.types ∧ ∀ n ∈ (toCoreR p).nodes, n.pos = 0 := by
 have hp := toCoreB_prog h
 have e := toCore_as hx hp
 unfold toCoreB at h
 unfold toCoreR
 rw [e] at h ⊢
 cases hc : coreB (treeAt p.nodes 0) [] with
 | false => rw [hc] at h; cases h
 | true =>
  refine ⟨rfl, fun m hm => ?_⟩
  obtain ⟨n, e, _, rfl⟩ := core_pos rfl m hm
  unfold coreN
  split
  ·split <;> rfl
  ·rfl
theorem implUp_as {a b : Program} (ha : Bulk.bulk a ≤ 4294967296) (hb : Bulk.bulk b ≤ 4294967296) : implUp a b = specUp a b := by
 unfold implUp specUp
 cases hA : toCoreB a with
 | false => rfl
 | true =>
  cases hB : toCoreB b with
  | false => rfl
  | true =>
   obtain ⟨a1, a2⟩ := toCoreR_facts ha hA
   obtain ⟨b1, b2⟩ := toCoreR_facts hb hB
   rw [map_zp a2, map_zp b2, a1, b1, Bool.true_and, Bool.true_and, Bool.true_and, Bool.true_and]
   have h := unitS_inj (unit_prog (toCoreB_prog hA)) (unit_prog (toCoreB_prog hB))
   rw [Bool.eq_iff_iff]
   simp only [Bool.and_eq_true, decide_eq_true_eq, h]
   exact ⟨fun h => ⟨by rw [h.1], h.2, h.1⟩, fun h => ⟨h.2.2, h.2.1⟩⟩
theorem implSameUp_ok (a b : Program) (ha : Bulk.bulk a ≤ 4294967296) (hb : Bulk.bulk b ≤ 4294967296) : CallsF Tryz.prog 19 [av a, av b] (.bool (implUp a b)) := by
 refine ir_impl_SameUp.F rfl (by simp; exact ⟨AVal.clean a, AVal.clean b⟩) (AvPure.bool _) ?_
 have CA := toCoreF_ok a ha
 have CB := toCoreF_ok b hb
 have ra := toCoreR_bulk ha
 have rb := toCoreR_bulk hb
 unfold implUp
 rw [av_Program a, av_Program (toCoreR a)] at CA
 rw [av_Program b, av_Program (toCoreR b)] at CB
 generalize toCoreR a = x at *
 generalize toCoreR b = y at *
 have hxb : Bulk.bulk x = Bulk.bulk x.types + Bulk.bulk x.nodes + 1 := rfl
 have hyb : Bulk.bulk y = Bulk.bulk y.types + Bulk.bulk y.nodes + 1 := rfl
 have CT := sameTypes_ok x.types y.types (by omega) (by omega)
 have CN := sameNodes_ok x.nodes y.nodes (by omega) (by omega)
 generalize decide (x.types = y.types) = dt at *
 generalize decide (x.nodes.map zpN = y.nodes.map zpN) = dn at *
 cases hA : toCoreB a <;> cases hB : toCoreB b <;> rw [hA] at CA <;> rw [hB] at CB
 all_goals
  simp +contextual -dsimp (maxSteps := 2000000) only [↓SD, SU, SB, simprocAttr, ir_impl_SameUp, av_Program, map_nop]
  repeat intro _
  refine aCallK_of _ CA ?_
  simp +contextual -dsimp (maxSteps := 2000000) only [↓SD, SU, SB, simprocAttr, map_nop]
  repeat intro _
  refine aCallK_of _ CB ?_
  simp +contextual -dsimp (maxSteps := 2000000) only [↓SD, SU, SB, simprocAttr, map_nop]
 repeat intro _
 refine aCallK_of _ CT ?_
 cases dt
 ·simp +contextual -dsimp (maxSteps := 2000000) only [↓SD, SU, SB, simprocAttr, map_nop]
 ·simp +contextual -dsimp (maxSteps := 2000000) only [↓SD, SU, SB, simprocAttr, map_nop]
  refine aCallK_of _ CN ?_
  simp +contextual -dsimp (maxSteps := 2000000) only [↓SD, SU, SB, simprocAttr, map_nop]
theorem specSameUp_ok (a b : Program) (ha : 26 * Bulk.bulk a + 100 ≤ 4294967296) (hb : 26 * Bulk.bulk b + 100 ≤ 4294967296) : CallsF Tryz.prog 18 [av a, av b] (.bool (specUp a b)) := by
 refine ir_spec_SameUp.F rfl (by simp; exact ⟨AVal.clean a, AVal.clean b⟩) (AvPure.bool _) ?_
 have CA := specToCore_ok a (by omega)
 have CB := specToCore_ok b (by omega)
 have ra := toCoreR_bulk (p := a) (by omega)
 have rb := toCoreR_bulk (p := b) (by omega)
 unfold specUp
 rw [av_Program a, av_Program (toCoreR a)] at CA
 rw [av_Program b, av_Program (toCoreR b)] at CB
 generalize toCoreR a = x at *
 generalize toCoreR b = y at *
 have hxb : Bulk.bulk x = Bulk.bulk x.types + Bulk.bulk x.nodes + 1 := rfl
 have hyb : Bulk.bulk y = Bulk.bulk y.types + Bulk.bulk y.nodes + 1 := rfl
 have u0 : Bulk.bulk (unitP []).nodes ≤ 19 := by decide
 have ux : Bulk.bulk (unitP x.types) = Bulk.bulk x.types + Bulk.bulk (unitP []).nodes + 1 := rfl
 have uy : Bulk.bulk (unitP y.types) = Bulk.bulk y.types + Bulk.bulk (unitP []).nodes + 1 := rfl
 have CT := l15Same2_ok x.types y.types x.nodes y.nodes (unitS x.types) (unitS y.types) (printUnit_nil x.types (by omega)) (printUnit_nil y.types (by omega)) (by omega) (by omega)
 generalize (decide (x.types.length = y.types.length) && (decide (x.nodes = y.nodes) && decide (unitS x.types = unitS y.types))) = R at *
 cases hA : toCoreB a <;> cases hB : toCoreB b <;> rw [hA] at CA <;> rw [hB] at CB
 all_goals
  simp +contextual -dsimp (maxSteps := 2000000) only [↓SD, SU, SB, simprocAttr, ir_spec_SameUp, av_Program, map_nop]
  repeat intro _
  refine aCallK_of _ CA ?_
  simp +contextual -dsimp (maxSteps := 2000000) only [↓SD, SU, SB, simprocAttr, map_nop]
  repeat intro _
  refine aCallK_of _ CB ?_
  simp +contextual -dsimp (maxSteps := 2000000) only [↓SD, SU, SB, simprocAttr, map_nop]
 repeat intro _
 refine aCallK_of _ CT ?_
 simp +contextual -dsimp (maxSteps := 2000000) only [↓SD, SU, SB, simprocAttr, map_nop]
end Go.Proofs.YtjifpdcflankpaaGreat

namespace Go.Proofs.YtjifpdcflankpaaGreat
open Go.RowKit Go.Proofs.YtjifpdcflankpaaGreat.Av Go.Proofs.YtjifpdcflankpaaGreat.Ml
open Go.Proofs.YtjifpdcflankpaaGreat.Av.AVal (av)

set_option maxHeartbeats 1000000 in
theorem lawSameUp_ok (y0 : Program) (hq0 : Bulk.bulk y0 ≤ 1048576) (y1 : Program) (hq1 : Bulk.bulk y1 ≤ 1048576) : CallsF Tryz.prog 6 [av y0, av y1] (.bool true) := by -- 
 have hk0 : Bulk.bulk y0 ≤ 4294967296 := by omega
 have hk1 : Bulk.bulk y1 ≤ 4294967296 := by omega
 have hb0 : Bulk.bulk y0.types + Bulk.bulk y0.nodes + 1 ≤ 4294967296 := hk0
 have hb1 : Bulk.bulk y1.types + Bulk.bulk y1.nodes + 1 ≤ 4294967296 := hk1
 refine ir_laws_FnExactSameUp.F rfl (by simp; exact ⟨AVal.clean y0, AVal.clean y1⟩) (AvPure.bool _) ?_
 have CI0 := implSameUp_ok y0 y1 (by omega) (by omega)
 rw [implUp_as (by omega) (by omega)] at CI0
 have T0 := toProgram_ok y0 hk0
 have E0 := eqProgram_ok y0 hk0
 rw [av_Program] at T0 E0
 have T1 := toProgram_ok y1 hk1
 have E1 := eqProgram_ok y1 hk1
 rw [av_Program] at T1 E1
 have CS := specSameUp_ok y0 y1 (by omega) (by omega)
 have CI := CI0
 simp +contextual -dsimp (maxSteps := 2000000) only [↓SD, SU, SB, simprocAttr, ir_laws_FnExactSameUp, av_Program]
 repeat' (first | omega | rfl | intro _ | refine And.intro ?_ ?_ | (have Z := fun n h1 h2 => szProgram_ok y0 n hk0 h1 h2; rw [av_Program] at Z; refine aCallH_of [] (Z _ (by omega) (by omega)) (by simp +contextual -dsimp only [↓SD, SU, SB, simprocAttr]) ?_; rintro r hp' ⟨m, rfl, rfl, hm1, hm2⟩; simp +contextual -dsimp (maxSteps := 2000000) only [↓SD, SU, SB, simprocAttr]) | (have Z := fun n h1 h2 => szProgram_ok y1 n hk1 h1 h2; rw [av_Program] at Z; refine aCallH_of [] (Z _ (by omega) (by omega)) (by simp +contextual -dsimp only [↓SD, SU, SB, simprocAttr]) ?_; rintro r hp' ⟨m, rfl, rfl, hm1, hm2⟩; simp +contextual -dsimp (maxSteps := 2000000) only [↓SD, SU, SB, simprocAttr]) | (refine aCallK_of _ T0 ?_; simp +contextual -dsimp (maxSteps := 2000000) only [↓SD, SU, SB, simprocAttr, beq_self_eq_true]) | (refine aCallK_of _ E0 ?_; simp +contextual -dsimp (maxSteps := 2000000) only [↓SD, SU, SB, simprocAttr, beq_self_eq_true]) | (refine aCallK_of _ T1 ?_; simp +contextual -dsimp (maxSteps := 2000000) only [↓SD, SU, SB, simprocAttr, beq_self_eq_true]) | (refine aCallK_of _ E1 ?_; simp +contextual -dsimp (maxSteps := 2000000) only [↓SD, SU, SB, simprocAttr, beq_self_eq_true]) | (refine aCallK_of _ CS ?_; simp +contextual -dsimp (maxSteps := 2000000) only [↓SD, SU, SB, simprocAttr, beq_self_eq_true]) | (refine aCallK_of _ CI ?_; simp +contextual -dsimp (maxSteps := 2000000) only [↓SD, SU, SB, simprocAttr, beq_self_eq_true]))

end Go.Proofs.YtjifpdcflankpaaGreat
