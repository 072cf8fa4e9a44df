/-
 THE GROUND OF DATA, in one text. Conditions: none.
-/
import Derived.Test.YtjifpdcflankpaaGreatRPackP
import Derived.Test.YtjifpdcflankpaaGreatRIrB
import Derived.Test.YtjifpdcflankpaaGreatRPackR
import Derived.Test.YtjifpdcflankpaaGreatRIrC
import Derived.Test.YtjifpdcflankpaaGreatRPackO

set_option linter.unusedVariables false
set_option linter.unusedSimpArgs false
set_option maxRecDepth 100000
namespace Go.Proofs.YtjifpdcflankpaaGreat
open Go.RowKit Go.Proofs.YtjifpdcflankpaaGreat.Av Go.Proofs.YtjifpdcflankpaaGreat.Ml
open Go.Proofs.YtjifpdcflankpaaGreat.Av.AVal (av)

theorem IndexInt_ok (l : List Int) (x : Int) (hl : l.length ≤ 1099511627776) : CallsF Tryz.prog 128 [.sl (l.map av), .int .i64 x] (.int .i64 (indexOf l (fun y => decide (x = y)))) := by
 refine ir_slices_Index_int_int.F rfl (by simp; exact ⟨lav_clean l, pint _⟩) (AvPure.int _ _) ?_
 simp +contextual -dsimp only [↓SD, SU, SB, simprocAttr, ir_slices_Index_int_int, map_len]
 refine aLoop_of (X := Nat) (fun k => ⟨[(0, .sl (l.map av)), (1, .int .i64 x), (7, .int .i64 l.length), (8, .int .i64 k)], []⟩) (fun k => k ≤ l.length ∧ (l.take k).all (fun y => !decide (x = y)) = true) (fun k => l.length - k) 0 ⟨Nat.zero_le _, rfl⟩ (by simp +contextual -dsimp only [↓SD, SU, SB, simprocAttr]) trivial ?_
 intro k ⟨hk, hpk⟩
 by_cases hlt : k < l.length
 ·have e := getD_map (av (α := Int)) l k .top hlt
  simp +contextual -dsimp only [↓SD, SU, SB, simprocAttr, map_len, e, av_int, hlt]
  refine ⟨fun h1 => ?_, fun h1 => ⟨by omega, ?_⟩⟩
  ·rw [← h1, indexOf_at (p := fun y => decide (x = y)) hlt hpk (by simp [h1])]
  ·exact Goes.le ⟨k + 1, ⟨⟨hlt, by rw [all_take' _ hlt hpk]; simp [h1]⟩, (by first | omega | (simp only; omega))⟩, rfl⟩ (by simp +contextual -dsimp only [↓SD, SU, SB, simprocAttr, Int.natCast_add]) trivial
 ·obtain rfl : k = l.length := by omega
  rw [List.take_length] at hpk
  simp +contextual -dsimp only [↓SD, SU, SB, simprocAttr, map_len, Nat.lt_irrefl, indexOf_none hpk]
theorem ContainsInt_ok (l : List Int) (x : Int) (hl : l.length ≤ 1099511627776) : CallsF Tryz.prog 64 [.sl (l.map av), .int .i64 x] (.bool (l.any (fun y => decide (x = y)))) := by
 refine ir_slices_Contains_int_int.F rfl (by simp; exact ⟨lav_clean l, pint _⟩) (AvPure.bool _) ?_
 simp +contextual -dsimp only [↓SD, SU, SB, simprocAttr, ir_slices_Contains_int_int]
 refine aCallK_of _ (IndexInt_ok l x hl) ?_
 simp +contextual -dsimp only [↓SD, SU, SB, simprocAttr, indexOf_neg]
def bindKs : List Int := [5, 7, 8, 15]
def bindB (k : Int) : Bool := bindKs.any fun y => decide (k = y)
theorem l15Binds_ok (k : Int) : CallsF Tryz.prog 50 [.int .i64 k] (.bool (bindB k)) := by
 refine ir_spec_l15Binds.F rfl (by simp; exact pint _) (AvPure.bool _) ?_
 simp +contextual -dsimp only [↓SD, SU, SB, simprocAttr, ir_spec_l15Binds]
 (repeat' (first | intro _ | refine And.intro ?_ ?_))
 all_goals simp [bindB, bindKs, *]
theorem patNames_ok (l : List PNode) (hx : Bulk.bulk l ≤ 4294967296) : CallsF Tryz.prog 66 [.agg [.sl (l.map av)]] (.sl ((varsOf l).map av)) := by
 have hl := bulk_length l
 refine ir_impl_patNames.F rfl (by simp; exact AvPure.agg (by simp; exact lav_clean l)) (lav_clean _) ?_
 simp +contextual -dsimp only [↓SD, SU, SB, simprocAttr, ir_impl_patNames, map_len]
 intro v
 refine aLoop_of (X := Nat × Nat) (fun x => ⟨[(3, .row 6 x.2 (varsOf (l.take x.1)).length), (8, .sl (l.map av)), (9, .int .i64 l.length), (10, .int .i64 x.1)], [(6, ⟨x.2, false, 9, 1, (varsOf (l.take x.1)).map av⟩)]⟩) (fun x => x.1 ≤ l.length) (fun x => l.length - x.1) (0, v) (Nat.zero_le _) (by simp +contextual -dsimp only [↓SD, SU, SB, simprocAttr, varsOf, List.filterMap_nil]) (by simp +contextual -dsimp only [↓SD, SU, SB, simprocAttr, varsOf, List.filterMap_nil]) ?_
 rintro ⟨k, u⟩ hk
 simp only at hk
 by_cases hlt : k < l.length
 ·have e := getD_map av l k .top hlt
  have hv := varsOf_snoc hlt
  have hvl := varsOf_len (l.take k)
  rw [List.length_take] at hvl
  generalize l[k] = a at *
  simp +contextual -dsimp only [↓SD, SU, SB, simprocAttr, map_len, hlt, e, av_PNode]
  intro w
  (repeat' (first | intro _ | refine And.intro ?_ ?_))
  all_goals first | omega | (unfold maxLen; omega) | skip
  ·rename_i hk2 u'
   rw [if_pos hk2] at hv
   exact Goes.le ⟨(k + 1, u'), ⟨hlt, (by first | omega | (simp only; omega))⟩, rfl⟩ (by simp +contextual -dsimp only [↓SD, SU, SB, simprocAttr, Int.natCast_add, hv, List.length_append]) (by simp +contextual -dsimp only [↓SD, SU, SB, simprocAttr, hv, map_nop, take_map, List.map_append, av_str])
  ·rename_i hk2
   rw [if_neg hk2, List.append_nil] at hv
   exact Goes.le ⟨(k + 1, u), ⟨hlt, (by first | omega | (simp only; omega))⟩, rfl⟩ (by simp +contextual -dsimp only [↓SD, SU, SB, simprocAttr, Int.natCast_add, hv]) (by simp +contextual -dsimp only [↓SD, SU, SB, simprocAttr, hv])
 ·obtain rfl : k = l.length := by omega
  simp +contextual -dsimp only [↓SD, SU, SB, simprocAttr, map_len, Nat.lt_irrefl, List.take_length, map_nop, take_map]

end Go.Proofs.YtjifpdcflankpaaGreat

namespace Go.Proofs.YtjifpdcflankpaaGreat
open Go.RowKit Go.Proofs.YtjifpdcflankpaaGreat.Av Go.Proofs.YtjifpdcflankpaaGreat.Ml
open Go.Proofs.YtjifpdcflankpaaGreat.Av.AVal (av)

theorem tr_cells (t : Tr) : (av t).cells = [av t] := by cases t; rw [av_Tr]; rfl
theorem tr_purA (t : Tr) (hp : Hp) : (av t).purA hp = av t := by cases t; rw [av_Tr]; rfl
theorem tr_pur1 (t : Tr) (hp : Hp) : (av t).pur1 hp = av t := by cases t; rw [av_Tr]; rfl
theorem tr_pur (t : Tr) (hp : Hp) : (av t).pur hp = av t := AVal.nop t hp
theorem tr_one (t : Tr) : (av t).one = true := by cases t; rw [av_Tr]; rfl
theorem tr_ok (t : Tr) : (av t).ok = true := AVal.ok t
theorem sub_len (t : Sub) : (av t).cells.length = 7 := AVal.len t
theorem sub_pur (t : Sub) (hp : Hp) : (av t).pur hp = av t := AVal.nop t hp
theorem sub_agg (t : Sub) : AV.agg (List.take 7 (av t).cells) = av t := by
 obtain ⟨⟨n, ks⟩⟩ := t
 rw [av_Sub]; rfl
theorem sub_ok (t : Sub) : (av t).ok = true := AVal.ok t
theorem sub_purA (t : Sub) (hp : Hp) : (av t).purA hp = av t := by
 obtain ⟨⟨n, ks⟩⟩ := t
 rw [av_Sub]; rfl
theorem elem1_ok (x : AV) (h : x.ok = true) (F : Nat → AV) (esz i : Nat) (es : List AV) (ps : List (Nat × IArg)) (k : List AV → Prop) : aElem1 x F esz i es ps k = ((x.cells.length = esz ∧ i < es.length) ∧ aElemsK F esz (es.set i x) ps k) := by simp [aElem1, h]
end Go.Proofs.YtjifpdcflankpaaGreat

namespace Go.Proofs.YtjifpdcflankpaaGreat
open Go.RowKit Go.Proofs.YtjifpdcflankpaaGreat.Av Go.Proofs.YtjifpdcflankpaaGreat.Ml
open Go.Proofs.YtjifpdcflankpaaGreat.Av.AVal (av)

def ClonePost (l : List PNode) (r : AV) (hp' : Hp) : Prop := ∃ v, r = .row 8 v l.length ∧ hp' = [(8, ⟨v, false, 94, 4, l.map av⟩)]
theorem ClonePNode_ok (a : PNode) (l : List PNode) (hl : l.length < 4294967296) : CallsH Tryz.prog 167 [.sl ((a :: l).map av)] [] (ClonePost (a :: l)) := by
 refine ir_slices_Clone_impl_PNode_impl_PNode.H rfl ?_
 simp +contextual -dsimp only [↓SD, SU, SB, simprocAttr, ir_slices_Clone_impl_PNode_impl_PNode, map_len]
 intro v
 refine ⟨⟨?_, by omega, by unfold maxLen; omega⟩, fun u => ?_⟩
 ·rintro y (rfl | hy)
  ·rw [AVal.nop]; exact AVal.len a
  ·rw [map_nop] at hy
   obtain ⟨x, _, rfl⟩ := List.mem_map.1 hy
   exact AVal.len x
 ·rw [AVal.nop, map_nop]
  refine Goes.post [(8, ⟨u, false, 94, 4, (a :: l).map av⟩)] ?_
  simp +contextual -dsimp only [↓SD, SU, SB, simprocAttr]
  exact ⟨u, rfl, rfl⟩
def CloneIPost (l : List Int) (r : AV) (hp' : Hp) : Prop := r = .sl (l.map av) ∨ (r = .nils ∧ AV.sl (l.map av) = AV.sl [])
theorem CloneInt_ok (l : List Int) (hl : l.length ≤ 4294967296) : CallsF Tryz.prog 168 [.sl (l.map av)] (.sl (l.map av)) := by
 refine callsF_of_H (Post := CloneIPost l) (ir_slices_Clone_int_int.H rfl ?_) (by simp; exact lav_clean l) (lav_clean l) (fun r hp' h => by exact h)
 simp +contextual -dsimp only [↓SD, SU, SB, simprocAttr, ir_slices_Clone_int_int, map_len]
 refine ⟨fun h => ?_, fun v => ⟨⟨?_, by omega, by unfold maxLen; omega⟩, fun u => ?_⟩⟩
 ·refine Goes.post [] ?_
  simp +contextual -dsimp only [↓SD, SU, SB, simprocAttr]
  exact .inr ⟨rfl, by rw [h]⟩
 ·rintro y hy
  rw [map_nop] at hy
  obtain ⟨x, _, rfl⟩ := List.mem_map.1 hy
  exact AVal.len x
 ·rw [map_nop]
  refine Goes.post [] ?_
  simp +contextual -dsimp only [↓SD, SU, SB, simprocAttr, map_nop, map_len, take_map]
  exact .inl rfl

theorem ClonePNode_ok' (l : List PNode) (h : l ≠ []) (hl : l.length ≤ 4294967296) : CallsH Tryz.prog 167 [.sl (l.map av)] [] (ClonePost l) := by
 rcases l with _ | ⟨a, l⟩
 ·exact absurd rfl h
 ·exact ClonePNode_ok a l (by simp at hl; omega)
theorem copyPat_ok (q : Pat) (hq : q.nodes ≠ []) (hx : Bulk.bulk q ≤ 4294967296) : CallsF Tryz.prog 130 [av q] (av q) := by
 obtain ⟨l⟩ := q
 have hl := bulk_length l
 have hb : Bulk.bulk l + 1 ≤ 4294967296 := hx
 refine ir_impl_copyPat.F rfl (by simp; exact AVal.clean _) (AVal.clean _) ?_
 have C := ClonePNode_ok' l hq (by omega)
 simp +contextual -dsimp only [↓SD, SU, SB, simprocAttr, ir_impl_copyPat, av_Pat, map_len]
 intro v
 refine aCallH_of [] C (by simp +contextual -dsimp only [↓SD, SU, SB, simprocAttr]) ?_
 rintro r hp' ⟨u, rfl, rfl⟩
 simp +contextual -dsimp only [↓SD, SU, SB, simprocAttr, map_len]
 intro v3
 refine aLoop_of (X := Nat) (fun k => ⟨[(2, .ptr 2 v 0 0), (3, .ptr 3 v3 0 0), (11, .row 8 u l.length), (12, .int .i64 l.length), (13, .int .i64 k)], [(2, ⟨v, false, 89, 1, [.agg [.nils]]⟩), (3, ⟨v3, false, 89, 1, [.agg [.row 8 u l.length]]⟩), (8, ⟨u, false, 94, 4, l.map av⟩)]⟩) (fun k => k ≤ l.length) (fun k => l.length - k) 0 (Nat.zero_le _) (by simp +contextual -dsimp only [↓SD, SU, SB, simprocAttr]) (by simp +contextual -dsimp only [↓SD, SU, SB, simprocAttr]) ?_
 rintro k hk
 by_cases hlt : k < l.length
 ·have e := getD_map av l k .top hlt
  have hm := bulk_mem (List.getElem_mem hlt)
  have hset : (l.map av).set k (av l[k]) = l.map av := by
   apply List.ext_getElem?
   intro i
   by_cases h : i = k
   ·subst h; simp [hlt]
   ·simp [List.getElem?_set, Ne.symm h]
  have hb1 : Bulk.bulk l[k] = Bulk.bulk l[k].kind + Bulk.bulk l[k].n + Bulk.bulk l[k].s + Bulk.bulk l[k].kids + 1 := rfl
  have hl1 := bulk_length l[k].kids
  have CI := CloneInt_ok l[k].kids (by omega)
  generalize l[k] = a at *
  rw [av_PNode] at hset
  simp +contextual -dsimp only [↓SD, SU, SB, simprocAttr, map_len, hlt, e, av_PNode]
  intro w5
  refine aCallK_of _ CI ?_
  simp +contextual -dsimp only [↓SD, SU, SB, simprocAttr, map_len, hlt, e, av_PNode, hset]
  exact ⟨by omega, Goes.le ⟨k + 1, ⟨hlt, (by first | omega | (simp only; omega))⟩, rfl⟩ (by simp +contextual -dsimp only [↓SD, SU, SB, simprocAttr, Int.natCast_add]) (by simp +contextual -dsimp only [↓SD, SU, SB, simprocAttr])⟩
 ·obtain rfl : k = l.length := by omega
  simp +contextual -dsimp only [↓SD, SU, SB, simprocAttr, map_len, Nat.lt_irrefl, map_nop, List.take_length, take_map]

theorem copyPats_ok (l : List Pat) (hq : ∀ q ∈ l, q.nodes ≠ []) (hx : Bulk.bulk l ≤ 4294967296) : CallsF Tryz.prog 69 [.sl (l.map av)] (.sl (l.map av)) := by
 have hl := bulk_length l
 refine ir_impl_copyPats.F rfl (by simp; exact lav_clean l) (lav_clean l) ?_
 simp +contextual -dsimp only [↓SD, SU, SB, simprocAttr, ir_impl_copyPats, map_len]
 intro v
 refine aLoop_of (X := Nat × Nat) (fun x => ⟨[(3, .row 6 x.2 x.1), (7, .sl (l.map av)), (8, .int .i64 l.length), (9, .int .i64 x.1)], [(6, ⟨x.2, false, 89, 1, (l.take x.1).map av⟩)]⟩) (fun x => x.1 ≤ l.length) (fun x => l.length - x.1) (0, v) (Nat.zero_le _) (by simp +contextual -dsimp only [↓SD, SU, SB, simprocAttr]) (by simp +contextual -dsimp only [↓SD, SU, SB, simprocAttr]) ?_
 rintro ⟨k, u⟩ hk
 simp only at hk
 by_cases hlt : k < l.length
 ·have e := getD_map av l k .top hlt
  have hm := bulk_mem (List.getElem_mem hlt)
  have C := copyPat_ok l[k] (hq _ (List.getElem_mem hlt)) (by omega)
  have ht : l.take (k + 1) = l.take k ++ [l[k]] := List.take_succ_eq_append_getElem hlt
  generalize l[k] = a at *
  rw [av_Pat] at C
  simp +contextual -dsimp only [↓SD, SU, SB, simprocAttr, map_len, hlt, e, av_Pat]
  intro w5
  refine aCallK_of _ C ?_
  have hk2 : (l.take k).length = k := by simp; omega
  have ht2 : List.take k ((l.take k).map av) = (l.take k).map av := List.take_of_length_le (by simp; omega)
  simp +contextual -dsimp only [↓SD, SU, SB, simprocAttr, map_len, hlt, e, av_Pat, hk2, ht2]
  refine ⟨⟨by omega, by unfold maxLen; omega⟩, fun u' => ⟨by omega, Goes.le ⟨(k + 1, u'), ⟨hlt, (by first | omega | (simp only; omega))⟩, rfl⟩ (by simp +contextual -dsimp only [↓SD, SU, SB, simprocAttr, Int.natCast_add]) (by simp +contextual -dsimp only [↓SD, SU, SB, simprocAttr, ht, List.map_append, av_Pat])⟩⟩
 ·obtain rfl : k = l.length := by omega
  simp +contextual -dsimp only [↓SD, SU, SB, simprocAttr, map_len, Nat.lt_irrefl, map_nop, List.take_length, take_map]

theorem grow_ok (l : List Node) (hk : ∀ i, i < l.length → ∀ k ∈ nkids l i, (i : Int) < k ∧ k < l.length) (hx : Bulk.bulk l ≤ 4294967296) (hp : ∀ n ∈ l, ∀ q ∈ n.pats, q.nodes ≠ []) : ∀ (f i : Nat), i < l.length → l.length - i ≤ f → CallsF Tryz.prog 31 [.sl (l.map av), .int .i64 i] (av (growT l f i)) := by
 intro f
 induction f with
 | zero => intro i hi hf; omega
 | succ f ih =>
  intro i hi hf
  have hl := bulk_length l
  have e := getD_map av l i .top hi
  have em := List.getElem_mem hi
  obtain ⟨b1, b2, b3, b4⟩ := node_small hx em
  have C := copyPats_ok l[i].pats (hp _ em) b3
  have hK : nkids l i = l[i].kids := by simp [nkids, hi]
  have hg : growT l (f + 1) i = .mk l[i] (l[i].kids.map fun k => growT l f k.toNat) := by rw [growT, hK]; simp [hi]
  have hks := hk i hi
  rw [hK] at hks
  refine ir_impl_grow.F rfl (by simp; exact ⟨lav_clean l, pint _⟩) (AVal.clean _) ?_
  rw [hg]
  clear hg hK
  generalize l[i] = n at *
  simp +contextual -dsimp only [↓SD, SU, SB, simprocAttr, ir_impl_grow, map_len, hi, e, av_Node]
  intro w5
  refine aCallK_of _ C ?_
  simp +contextual -dsimp only [↓SD, SU, SB, simprocAttr, map_len, hi, e, av_Node]
  intro w
  refine aLoop_goes (X := Nat × Nat) (fun x => ⟨[(0, .sl (l.map av)), (6, .ptr 25 w 0 0), (27, .sl (n.kids.map av)), (28, .int .i64 n.kids.length), (29, .int .i64 x.1)], [(25, ⟨w, false, 103, 6, [.agg [.int .i64 n.kind, .int .i64 n.pos, .int .i64 n.n, .str n.s, .row 42 x.2 x.1, .sl (n.pats.map av)]]⟩), (42, ⟨x.2, false, 55, 1, ((n.kids.take x.1).map fun k => growT l f k.toNat).map av⟩)]⟩) (fun x => x.1 ≤ n.kids.length) (fun x => n.kids.length - x.1) (Goes.adoptB 25 0 4 42 55 1 rfl rfl Nat.zero_lt_one rfl (by decide) (fun v => Goes.le ⟨(0, v), Nat.zero_le _, rfl⟩ (by simp +contextual -dsimp only [↓SD, SU, SB, simprocAttr]) (by simp +contextual -dsimp only [↓SD, SU, SB, simprocAttr]))) ?_
  rintro ⟨j, u⟩ hj
  simp only at hj
  by_cases hlt : j < n.kids.length
  ·have e2 := getD_map av n.kids j .top hlt
   have hkj := hks _ (List.getElem_mem hlt)
   have ht : n.kids.take (j + 1) = n.kids.take j ++ [n.kids[j]] := List.take_succ_eq_append_getElem hlt
   obtain ⟨m, hm⟩ : ∃ m : Nat, n.kids[j] = m := ⟨n.kids[j].toNat, by omega⟩
   rw [hm] at e2 hkj ht
   have C2 := ih m (by omega) (by omega)
   have hk2 : (n.kids.take j).length = j := by simp; omega
   have ht2 : List.take j (((n.kids.take j).map fun k => growT l f k.toNat).map av) = ((n.kids.take j).map fun k => growT l f k.toNat).map av := List.take_of_length_le (by simp; omega)
   simp +contextual -dsimp only [↓SD, SU, SB, simprocAttr, map_len, hlt, e2, av_int]
   refine aCallK_of _ C2 ?_
   simp +contextual -dsimp only [↓SD, SU, SB, simprocAttr, map_len, hlt, tr_cells, tr_pur, tr_pur1, tr_purA, tr_one, tr_ok, hk2, ht2]
   refine ⟨⟨by omega, by unfold maxLen; omega⟩, fun u' => ⟨by omega, Goes.le ⟨(j + 1, u'), ⟨hlt, (by first | omega | (simp only; omega))⟩, rfl⟩ (by simp +contextual -dsimp only [↓SD, SU, SB, simprocAttr, Int.natCast_add]) (by simp +contextual -dsimp only [↓SD, SU, SB, simprocAttr, ht, List.map_append, Int.toNat_natCast])⟩⟩
  ·obtain rfl : j = n.kids.length := by omega
   simp +contextual -dsimp only [↓SD, SU, SB, simprocAttr, map_len, Nat.lt_irrefl, map_nop, List.take_length, take_map]
   rw [av_Tr, List.take_of_length_le (by simp)]
end Go.Proofs.YtjifpdcflankpaaGreat

namespace Go.Proofs.YtjifpdcflankpaaGreat
open Go.RowKit Go.Proofs.YtjifpdcflankpaaGreat.Av Go.Proofs.YtjifpdcflankpaaGreat.Ml
open Go.Proofs.YtjifpdcflankpaaGreat.Av.AVal (av)

theorem l09Sub_ok (p : Program) (hk : ∀ i, i < p.nodes.length → ∀ k ∈ nkids p.nodes i, (i : Int) < k ∧ k < p.nodes.length) (hx : Bulk.bulk p.nodes ≤ 4294967296) : ∀ (f i : Nat), i < p.nodes.length → p.nodes.length - i ≤ f → CallsF Tryz.prog 24 [av p, .int .i64 i] (av (Sub.mk (growT p.nodes f i))) := by
 intro f
 induction f with
 | zero => intro i hi hf; omega
 | succ f ih =>
  intro i hi hf
  have hl := bulk_length p.nodes
  have e := getD_map av p.nodes i .top hi
  have em := List.getElem_mem hi
  obtain ⟨b1, b2, b3, b4⟩ := node_small hx em
  have hK : nkids p.nodes i = p.nodes[i].kids := by simp [nkids, hi]
  have hg : growT p.nodes (f + 1) i = .mk p.nodes[i] (p.nodes[i].kids.map fun k => growT p.nodes f k.toNat) := by rw [growT, hK]; simp [hi]
  have hks := hk i hi
  rw [hK] at hks
  have hpl := bulk_length p.nodes[i].pats
  refine ir_spec_l09Sub.F rfl (by simp; exact ⟨AVal.clean p, pint _⟩) (AVal.clean _) ?_
  rw [hg]
  clear hg hK
  generalize p.nodes[i] = n at *
  simp +contextual -dsimp (maxSteps := 2000000) only [↓SD, SU, SB, simprocAttr, ir_spec_l09Sub, map_len, hi, e, av_Node, av_Program]
  intro v4 v5 v6
  refine aLoop_goes (X := Nat × Nat) (fun x => ⟨[(2, .obj [.sl (p.types.map av), .sl (p.nodes.map av)]), (4, .ptr 4 v4 0 0), (5, .ptr 5 v5 0 0), (6, .ptr 6 v6 0 0), (24, .sl (n.pats.map av)), (25, .int .i64 n.pats.length), (26, .int .i64 x.1)], [(4, ⟨v4, false, 47, 7, [.agg [.int .i64 0, .int .i64 0, .int .i64 0, .str (bs []), .nils, .nils, .nils]]⟩), (5, ⟨v5, false, 44, 6, [.agg [.int .i64 n.kind, .int .i64 n.pos, .int .i64 n.n, .str n.s, .sl (n.kids.map av), .sl (n.pats.map av)]]⟩), (6, ⟨v6, false, 47, 7, [.agg [.int .i64 n.kind, .int .i64 n.pos, .int .i64 n.n, .str n.s, .sl (n.kids.map av), .row 54 x.2 x.1, .nils]]⟩), (54, ⟨x.2, false, 89, 1, (n.pats.take x.1).map av⟩)]⟩) (fun x => x.1 ≤ n.pats.length) (fun x => n.pats.length - x.1) (Goes.adoptB 6 0 5 54 89 1 rfl rfl Nat.zero_lt_one rfl (by decide) (fun v => Goes.le ⟨(0, v), Nat.zero_le _, rfl⟩ (by simp +contextual -dsimp only [↓SD, SU, SB, simprocAttr]) (by simp +contextual -dsimp only [↓SD, SU, SB, simprocAttr]))) ?_
  rintro ⟨k, u⟩ hk1
  simp only at hk1
  by_cases hlt : k < n.pats.length
  ·have e2 := getD_map av n.pats k .top hlt
   have hm := bulk_mem (List.getElem_mem hlt)
   have ht : n.pats.take (k + 1) = n.pats.take k ++ [n.pats[k]] := List.take_succ_eq_append_getElem hlt
   have hk2 : (n.pats.take k).length = k := by simp; omega
   have ht2 : List.take k ((n.pats.take k).map av) = (n.pats.take k).map av := List.take_of_length_le (by simp; omega)
   generalize n.pats[k] = q at *
   have hql := bulk_length q.nodes
   have hqb : Bulk.bulk q = Bulk.bulk q.nodes + 1 := rfl
   simp +contextual -dsimp (maxSteps := 2000000) only [↓SD, SU, SB, simprocAttr, map_len, hlt, e2, av_Pat]
   intro v8 v30
   refine aLoop_of (X := Nat × Nat) (fun y => ⟨[(2, .obj [.sl (p.types.map av), .sl (p.nodes.map av)]), (4, .ptr 4 v4 0 0), (5, .ptr 5 v5 0 0), (6, .ptr 6 v6 0 0), (9, .row 30 y.2 y.1), (24, .sl (n.pats.map av)), (25, .int .i64 n.pats.length), (26, .int .i64 k), (32, .sl (q.nodes.map av)), (33, .int .i64 q.nodes.length), (34, .int .i64 y.1)], [(4, ⟨v4, false, 47, 7, [.agg [.int .i64 0, .int .i64 0, .int .i64 0, .str (bs []), .nils, .nils, .nils]]⟩), (5, ⟨v5, false, 44, 6, [.agg [.int .i64 n.kind, .int .i64 n.pos, .int .i64 n.n, .str n.s, .sl (n.kids.map av), .sl (n.pats.map av)]]⟩), (6, ⟨v6, false, 47, 7, [.agg [.int .i64 n.kind, .int .i64 n.pos, .int .i64 n.n, .str n.s, .sl (n.kids.map av), .row 54 u k, .nils]]⟩), (54, ⟨u, false, 89, 1, (n.pats.take k).map av⟩), (30, ⟨y.2, false, 94, 4, (q.nodes.take y.1).map av⟩)]⟩) (fun y => y.1 ≤ q.nodes.length) (fun y => q.nodes.length - y.1) (0, v30) (Nat.zero_le _) (by simp +contextual -dsimp only [↓SD, SU, SB, simprocAttr]) (by simp +contextual -dsimp only [↓SD, SU, SB, simprocAttr]) ?_
   rintro ⟨j, u2⟩ hj
   simp only at hj
   by_cases hlj : j < q.nodes.length
   ·have e3 := getD_map av q.nodes j .top hlj
    have hm3 := bulk_mem (List.getElem_mem hlj)
    have ht3 : q.nodes.take (j + 1) = q.nodes.take j ++ [q.nodes[j]] := List.take_succ_eq_append_getElem hlj
    have hk3 : (q.nodes.take j).length = j := by simp; omega
    have ht4 : List.take j ((q.nodes.take j).map av) = (q.nodes.take j).map av := List.take_of_length_le (by simp; omega)
    generalize q.nodes[j] = a at *
    have hb1 : Bulk.bulk a = Bulk.bulk a.kind + Bulk.bulk a.n + Bulk.bulk a.s + Bulk.bulk a.kids + 1 := rfl
    have hl1 := bulk_length a.kids
    have hint : ∀ y ∈ a.kids.map (av : Int → AV), y.cells.length = 1 := fun y hy => by obtain ⟨x, _, rfl⟩ := List.mem_map.1 hy; rfl
    have hnp : (a.kids.map (av : Int → AV)).map (AV.pur []) = a.kids.map av := map_nop _ _
    simp +contextual -dsimp (maxSteps := 2000000) only [↓SD, SU, SB, simprocAttr, map_len, hlj, e3, av_PNode, map_nop]
    intro v11 v38
    refine ⟨⟨hint, by omega, by unfold maxLen; omega⟩, fun v38' => ghost_of (Goes.frz 38 (Goes.here ?_))⟩
    simp +contextual -dsimp (maxSteps := 2000000) only [↓SD, SU, SB, simprocAttr, map_len, hlj, e3, av_PNode, map_nop, hk3, ht4, take_map, List.take_length]
    refine ⟨⟨by omega, by unfold maxLen; omega⟩, fun u' => ⟨by omega, Goes.le ⟨(j + 1, u'), ⟨hlj, (by first | omega | (simp only; omega))⟩, rfl⟩ (by simp +contextual -dsimp only [↓SD, SU, SB, simprocAttr, Int.natCast_add]) (by simp +contextual -dsimp only [↓SD, SU, SB, simprocAttr, ht3, List.map_append, av_PNode])⟩⟩
   ·obtain rfl : j = q.nodes.length := by omega
    simp +contextual -dsimp (maxSteps := 2000000) only [↓SD, SU, SB, simprocAttr, map_len, Nat.lt_irrefl, List.take_length]
    refine ghost_of (Goes.frz 30 (Goes.here ?_))
    simp +contextual -dsimp (maxSteps := 2000000) only [↓SD, SU, SB, simprocAttr, map_len, map_nop, hk2, ht2, take_map, List.take_length]
    refine ⟨⟨by omega, by unfold maxLen; omega⟩, fun u' => ⟨by omega, Goes.le ⟨(k + 1, u'), ⟨hlt, (by first | omega | (simp only; omega))⟩, rfl⟩ (by simp +contextual -dsimp only [↓SD, SU, SB, simprocAttr, Int.natCast_add]) (by simp +contextual -dsimp only [↓SD, SU, SB, simprocAttr, ht, List.map_append, av_Pat])⟩⟩
  ·obtain rfl : k = n.pats.length := by omega
   simp +contextual -dsimp (maxSteps := 2000000) only [↓SD, SU, SB, simprocAttr, map_len, Nat.lt_irrefl, List.take_length]
   refine aLoop_goes (X := Nat × Nat) (fun x => ⟨[(2, .obj [.sl (p.types.map av), .sl (p.nodes.map av)]), (4, .ptr 4 v4 0 0), (6, .ptr 6 v6 0 0), (59, .sl (n.kids.map av)), (60, .int .i64 n.kids.length), (61, .int .i64 x.1)], [(4, ⟨v4, false, 47, 7, [.agg [.int .i64 0, .int .i64 0, .int .i64 0, .str (bs []), .nils, .nils, .nils]]⟩), (6, ⟨v6, false, 47, 7, [.agg [.int .i64 n.kind, .int .i64 n.pos, .int .i64 n.n, .str n.s, .sl (n.kids.map av), .row 54 u n.pats.length, .row 71 x.2 x.1]]⟩), (54, ⟨u, false, 89, 1, n.pats.map av⟩), (71, ⟨x.2, false, 47, 7, ((n.kids.take x.1).map fun k => Sub.mk (growT p.nodes f k.toNat)).map av⟩)]⟩) (fun x => x.1 ≤ n.kids.length) (fun x => n.kids.length - x.1) (Goes.adoptB 6 0 6 71 47 7 rfl rfl Nat.zero_lt_one rfl (by decide) (fun v => Goes.le ⟨(0, v), Nat.zero_le _, rfl⟩ (by simp +contextual -dsimp only [↓SD, SU, SB, simprocAttr]) (by simp +contextual -dsimp only [↓SD, SU, SB, simprocAttr]))) ?_
   rintro ⟨j, u2⟩ hj
   simp only at hj
   by_cases hlt : j < n.kids.length
   ·have e2 := getD_map av n.kids j .top hlt
    have hkj := hks _ (List.getElem_mem hlt)
    have ht : n.kids.take (j + 1) = n.kids.take j ++ [n.kids[j]] := List.take_succ_eq_append_getElem hlt
    obtain ⟨m, hm⟩ : ∃ m : Nat, n.kids[j] = m := ⟨n.kids[j].toNat, by omega⟩
    rw [hm] at e2 hkj ht
    have C2 := ih m (by omega) (by omega)
    rw [av_Program] at C2
    have hk2 : (n.kids.take j).length = j := by simp; omega
    have ht2 : List.take j (((n.kids.take j).map fun k => Sub.mk (growT p.nodes f k.toNat)).map av) = ((n.kids.take j).map fun k => Sub.mk (growT p.nodes f k.toNat)).map av := List.take_of_length_le (by simp; omega)
    simp +contextual -dsimp (maxSteps := 2000000) only [↓SD, SU, SB, simprocAttr, map_len, hlt, e2, av_int]
    refine aCallK_of _ C2 ?_
    simp +contextual -dsimp (maxSteps := 2000000) only [↓SD, SU, SB, simprocAttr, map_len, hlt, elem1_ok, sub_len, sub_pur, sub_ok, hk2, ht2, map_nop]
    refine ⟨⟨by omega, by unfold maxLen; omega⟩, fun u' => ⟨by omega, Goes.le ⟨(j + 1, u'), ⟨hlt, (by first | omega | (simp only; omega))⟩, rfl⟩ (by simp +contextual -dsimp only [↓SD, SU, SB, simprocAttr, Int.natCast_add]) (by simp +contextual -dsimp only [↓SD, SU, SB, simprocAttr, ht, List.map_append, Int.toNat_natCast])⟩⟩
   ·obtain rfl : j = n.kids.length := by omega
    simp +contextual -dsimp (maxSteps := 2000000) only [↓SD, SU, SB, simprocAttr, map_len, Nat.lt_irrefl, map_nop, List.take_length, take_map]
    rw [av_Sub, List.take_of_length_le (by simp), List.map_map, List.map_map, List.map_map]; rfl

end Go.Proofs.YtjifpdcflankpaaGreat

namespace Go.Proofs.YtjifpdcflankpaaGreat
open Go.RowKit Go.Proofs.YtjifpdcflankpaaGreat.Av Go.Proofs.YtjifpdcflankpaaGreat.Ml
open Go.Proofs.YtjifpdcflankpaaGreat.Av.AVal (av)

def growM (G : List AV) (x : AV) (hp : Hp) : Prop := (G = [] ∧ x = .nils ∧ hp = []) ∨ ∃ v, x = .row 90 v G.length ∧ hp = [(90, ⟨v, false, 44, 6, G⟩)]
structure LyS where
 j : Nat
 v : Nat
 u : Nat
set_option maxHeartbeats 4000000 in
theorem l03Lay_ok : ∀ (t : Tr) (G : List AV) (x : AV) (hp : Hp), growM G x hp → G.length + t.size ≤ 4294967296 → CallsH Tryz.prog 26 [x, av (Sub.mk t)] hp (growM (G ++ (layT G.length t).map av)) := by
 refine Tr.ind fun n ks ih G x hp hx hb => ?_
 have ec : (Tr.mk n ks).size = Tr.sizes ks + 1 := by rw [Tr.size]
 rw [ec] at hb
 have hkl := sizes_len ks
 obtain ⟨Z, hZ⟩ : ∃ Z : AV, Z = .agg [.int .i64 0, .int .i64 0, .int .i64 0, .str (bs []), .nils, .nils] := ⟨_, rfl⟩
 have hml : ((ks.map Sub.mk).map (av : Sub → AV)).length = ks.length := by simp
 refine ir_spec_l03Lay.H rfl ?_
 rcases hx with ⟨hG0, rfl, rfl⟩ | ⟨v, rfl, rfl⟩
 case' inl =>
  have hG1 : G.length = 0 := by rw [hG0]; rfl
  simp +contextual -dsimp (maxSteps := 2000000) only [↓SD, SU, SB, simprocAttr, ir_spec_l03Lay, av_Sub, map_len, hml]
  refine ⟨by unfold maxLen; omega, fun v1 v6 => ?_⟩
  refine aLoop_goes (X := LyS) (fun x => ⟨[(0, .row 90 x.v (G.length + 1 + Tr.sizes (ks.take x.j))), (3, .obj [.int .i64 n.kind, .int .i64 n.pos, .int .i64 n.n, .str n.s, .sl (n.kids.map av), .sl (n.pats.map av), .sl ((ks.map Sub.mk).map av)]), (5, .int .i64 G.length), (6, .ptr 6 v6 0 0), (19, .int .i64 ks.length), (20, .int .i64 x.j)], [(90, ⟨x.v, false, 44, 6, G ++ [Z] ++ (layTs (G.length + 1) (ks.take x.j)).map av⟩), (6, ⟨v6, false, 44, 6, [.agg [.int .i64 n.kind, .int .i64 n.pos, .int .i64 n.n, .str n.s, .row 28 x.u x.j, .sl (n.pats.map av)]]⟩), (28, ⟨x.u, false, 3, 1, (kidT (G.length + 1) (ks.take x.j)).map av⟩)]⟩) (fun x => x.j ≤ ks.length) (fun x => ks.length - x.j) ?_ ?_
  ·refine Goes.adoptB 6 0 4 28 3 1 rfl rfl Nat.zero_lt_one rfl (by decide) fun z => ?_
   exact Goes.le ⟨⟨0, v1, z⟩, Nat.zero_le _, rfl⟩ (by simp +contextual -dsimp only [↓SD, SU, SB, simprocAttr, List.take_zero, Tr.sizes, hG1]) (by simp +contextual -dsimp only [↓SD, SU, SB, simprocAttr, List.take_zero, layTs, kidT, List.map_nil, List.append_nil, hG0, hZ])
 case' inr =>
  have t0 : List.take G.length G = G := List.take_length
  simp +contextual -dsimp (maxSteps := 2000000) only [↓SD, SU, SB, simprocAttr, ir_spec_l03Lay, av_Sub, map_len, t0, hml]
  refine ⟨⟨by omega, by unfold maxLen; omega⟩, fun v1 v6 => ?_⟩
  refine aLoop_goes (X := LyS) (fun x => ⟨[(0, .row 90 x.v (G.length + 1 + Tr.sizes (ks.take x.j))), (3, .obj [.int .i64 n.kind, .int .i64 n.pos, .int .i64 n.n, .str n.s, .sl (n.kids.map av), .sl (n.pats.map av), .sl ((ks.map Sub.mk).map av)]), (5, .int .i64 G.length), (6, .ptr 6 v6 0 0), (19, .int .i64 ks.length), (20, .int .i64 x.j)], [(90, ⟨x.v, false, 44, 6, G ++ [Z] ++ (layTs (G.length + 1) (ks.take x.j)).map av⟩), (6, ⟨v6, false, 44, 6, [.agg [.int .i64 n.kind, .int .i64 n.pos, .int .i64 n.n, .str n.s, .row 28 x.u x.j, .sl (n.pats.map av)]]⟩), (28, ⟨x.u, false, 3, 1, (kidT (G.length + 1) (ks.take x.j)).map av⟩)]⟩) (fun x => x.j ≤ ks.length) (fun x => ks.length - x.j) ?_ ?_
  ·refine Goes.adoptB 6 0 4 28 3 1 rfl rfl Nat.zero_lt_one rfl (by decide) fun z => ?_
   exact Goes.le ⟨⟨0, v1, z⟩, Nat.zero_le _, rfl⟩ (by simp +contextual -dsimp only [↓SD, SU, SB, simprocAttr, List.take_zero, Tr.sizes]) (by simp +contextual -dsimp only [↓SD, SU, SB, simprocAttr, List.take_zero, layTs, kidT, List.map_nil, List.append_nil, hZ])
 all_goals
  rintro ⟨j, a, b⟩ hj
  dsimp only at hj ⊢
  by_cases hlt : j < ks.length
  ·have hlt3 : j < (ks.map Sub.mk).length := by rw [List.length_map]; exact hlt
   have e1 := getD_map av (ks.map Sub.mk) j .top hlt3
   rw [List.getElem_map] at e1
   have b2 := sizes_take ks j hlt
   have ht : ks.take (j + 1) = ks.take j ++ [ks[j]] := List.take_succ_eq_append_getElem hlt
   have hpx : G.length + 1 + Tr.sizes (ks.take (j + 1)) = G.length + 1 + Tr.sizes (ks.take j) + (ks[j]).size := by rw [ht, sizes_app]; omega
   have hfl := layTs_len' (G.length + 1) (ks.take j)
   have hkp := kidT_len (G.length + 1) (ks.take j)
   rw [List.length_take, Nat.min_eq_left hj] at hkp
   have hL : (G ++ [Z] ++ (layTs (G.length + 1) (ks.take j)).map av).length = G.length + 1 + Tr.sizes (ks.take j) := by simp [hfl]; omega
   have C := ih ks[j] (List.getElem_mem hlt) (G ++ [Z] ++ (layTs (G.length + 1) (ks.take j)).map av) (.row 90 a (G.length + 1 + Tr.sizes (ks.take j))) [(90, ⟨a, false, 44, 6, G ++ [Z] ++ (layTs (G.length + 1) (ks.take j)).map av⟩)] (.inr ⟨a, by rw [hL], rfl⟩) (by rw [hL]; omega)
   rw [hL] at C
   have hsn : G ++ [Z] ++ (layTs (G.length + 1) (ks.take (j + 1))).map av = G ++ [Z] ++ (layTs (G.length + 1) (ks.take j)).map av ++ (layT (G.length + 1 + Tr.sizes (ks.take j)) ks[j]).map av := by rw [ht, layTs_snoc, List.map_append, List.append_assoc, List.append_assoc, List.append_assoc]
   have hks : (kidT (G.length + 1) (ks.take (j + 1))).map (av : Int → AV) = (kidT (G.length + 1) (ks.take j)).map av ++ [.int .i64 ((G.length : Int) + 1 + (Tr.sizes (ks.take j) : Int))] := by rw [ht, kidT_snoc, List.map_append]; rfl
   have hkm : ((kidT (G.length + 1) (ks.take j)).map (av : Int → AV)).length = j := by rw [List.length_map, hkp]
   have hkt : List.take j ((kidT (G.length + 1) (ks.take j)).map (av : Int → AV)) = (kidT (G.length + 1) (ks.take j)).map av := List.take_of_length_le (by rw [hkm]; exact Nat.le_refl _)
   have hYl := layT_len ks[j] (G.length + 1 + Tr.sizes (ks.take j))
   generalize (kidT (G.length + 1) (ks.take j)).map (av : Int → AV) = KP at *
   generalize (layT (G.length + 1 + Tr.sizes (ks.take j)) ks[j]) = Y at *
   generalize G ++ [Z] ++ (layTs (G.length + 1) (ks.take j)).map av = Q at *
   generalize Tr.sizes (ks.take j) = N at *
   generalize ks[j] = k at *
   have hQY : (Q ++ Y.map av).length = G.length + 1 + N + k.size := by rw [List.length_append, List.length_map, hL, hYl]
   generalize Q ++ Y.map av = QY at *
   have hQYn : ¬ QY = [] := fun h => by rw [h] at hQY; simp only [List.length_nil] at hQY; omega
   simp +contextual -dsimp (maxSteps := 2000000) only [↓SD, SU, SB, simprocAttr, hlt, hml, e1, sub_len, sub_agg, sub_pur, sub_purA, sub_ok, hkm, hkt, false_and]
   refine ⟨⟨by omega, by unfold maxLen; omega⟩, fun u' => ?_⟩
   refine aCallH_of [90] C (by simp +contextual -dsimp only [↓SD, SU, SB, simprocAttr]) ?_
   rintro r hp' (⟨h, _, _⟩ | ⟨w, rfl, rfl⟩)
   ·exact absurd h hQYn
   rw [hQY]
   simp +contextual -dsimp (maxSteps := 2000000) only [↓SD, SU, SB, simprocAttr]
   exact ⟨by omega, Goes.le ⟨⟨j + 1, w, u'⟩, ⟨hlt, (by first | omega | (simp only; omega))⟩, rfl⟩ (by simp +contextual -dsimp only [↓SD, SU, SB, simprocAttr, Int.natCast_add, hpx]) (by simp +contextual -dsimp only [↓SD, SU, SB, simprocAttr, hsn, hks, Int.natCast_add])⟩
  ·obtain rfl : j = ks.length := by omega
   rw [List.take_length]
   have hkp := kidT_len (G.length + 1) ks
   have hfl := layTs_len' (G.length + 1) ks
   have hfx : layT G.length (.mk n ks) = { n with kids := kidT (G.length + 1) ks } :: layTs (G.length + 1) ks := by rw [layT]
   have hL : (G ++ [Z] ++ (layTs (G.length + 1) ks).map av).length = G.length + 1 + Tr.sizes ks := by simp [hfl]; omega
   have hG : (G ++ [Z] ++ (layTs (G.length + 1) ks).map av).getD G.length .top = Z := by simp [List.getD_eq_getElem?_getD]
   have hS : (G ++ [Z] ++ (layTs (G.length + 1) ks).map av).set G.length (.agg [.int .i64 n.kind, .int .i64 n.pos, .int .i64 n.n, .str n.s, .sl ((kidT (G.length + 1) ks).map av), .sl (n.pats.map av)]) = G ++ (layT G.length (.mk n ks)).map av := by
    rw [hfx, List.map_cons, av_Node]; simp [List.set_append]
   have hFl : (G ++ (layT G.length (.mk n ks)).map (av : Node → AV)).length = G.length + 1 + Tr.sizes ks := by rw [List.length_append, List.length_map, layT_len, ec]; omega
   have hFn : ¬ G ++ (layT G.length (.mk n ks)).map (av : Node → AV) = [] := fun h => by rw [h] at hFl; simp only [List.length_nil] at hFl; omega
   generalize G ++ (layT G.length (.mk n ks)).map av = F at *
   generalize G ++ [Z] ++ (layTs (G.length + 1) ks).map av = Q at *
   rw [hZ] at hG
   have hkm : ((kidT (G.length + 1) ks).map (av : Int → AV)).length = ks.length := by rw [List.length_map, hkp]
   have hkt : List.take ks.length ((kidT (G.length + 1) ks).map (av : Int → AV)) = (kidT (G.length + 1) ks).map av := List.take_of_length_le (by rw [hkm]; exact Nat.le_refl _)
   have hkq : ∀ hp, ((kidT (G.length + 1) ks).map (av : Int → AV)).map (AV.pur hp) = (kidT (G.length + 1) ks).map av := fun hp => map_nop _ hp
   generalize (kidT (G.length + 1) ks).map (av : Int → AV) = KP at *
   have hlt2 : (G.length : Int) < (G.length : Int) + 1 + (Tr.sizes ks : Int) := by omega
   have hlt3 : G.length < G.length + 1 + Tr.sizes ks := by omega
   simp +contextual -dsimp (maxSteps := 2000000) only [↓SD, SU, SB, simprocAttr, Nat.lt_irrefl]
   refine ghost_of (Goes.frz 28 (Goes.purB 6 (b := ⟨v6, false, 44, 6, [.agg [.int .i64 n.kind, .int .i64 n.pos, .int .i64 n.n, .str n.s, .row 28 b ks.length, .sl (n.pats.map av)]]⟩) rfl (Goes.here ?_)))
   simp +contextual -dsimp (maxSteps := 2000000) only [↓SD, SU, SB, simprocAttr, hkq, hkm, hkt, Nat.le_refl, hL, hG, hS, hlt2, hlt3]
   refine Goes.post [(90, ⟨a, false, 44, 6, F⟩)] ?_
   simp +contextual -dsimp (maxSteps := 2000000) only [↓SD, SU, SB, simprocAttr, false_and]
   exact .inr ⟨a, by rw [hFl], rfl⟩
theorem l03LayF_ok (t : Tr) (hb : t.size ≤ 4294967296) : CallsF Tryz.prog 26 [.nils, av (Sub.mk t)] (.sl ((layT 0 t).map av)) := by
 have C := l03Lay_ok t [] .nils [] (.inl ⟨rfl, rfl, rfl⟩) (by simpa using hb)
 rw [List.nil_append, List.length_nil] at C
 refine callsF_frz C (by simp; exact ⟨AvPure.nils, AVal.clean _⟩) (lav_clean _) ?_
 rintro r hp' (⟨h, _, _⟩ | ⟨v, rfl, rfl⟩)
 ·have := layT_len t 0
  have h2 := size_pos t
  rw [List.map_eq_nil_iff] at h
  rw [h] at this
  simp only [List.length_nil] at this
  omega
 ·have hm : ∀ hp, ((layT 0 t).map (av : Node → AV)).map (AV.pur hp) = (layT 0 t).map av := fun hp => map_nop _ hp
  generalize (layT 0 t).map (av : Node → AV) = L at *
  simp [frzAll, hnames, frzL_cons, frzL_nil, hfrz, hget, AV.pur, AV.pur1, hm]
structure TwS where
 k : Nat
 u : Nat
structure TvS where
 j : Nat
 u : Nat
 w : Nat
set_option maxHeartbeats 4000000 in
theorem l15Types_ok (l : List TypeD) (hx : Bulk.bulk l ≤ 4294967296) : CallsF Tryz.prog 25 [.sl (l.map av)] (.sl (l.map av)) := by
 have hl := bulk_length l
 refine ir_spec_l15Types.F rfl (by simp; exact lav_clean l) (lav_clean l) ?_
 simp +contextual -dsimp (maxSteps := 2000000) only [↓SD, SU, SB, simprocAttr, ir_spec_l15Types, map_len]
 intro v9
 refine aLoop_of (X := TwS) (fun x => ⟨[(3, .row 9 x.u x.k), (10, .sl (l.map av)), (11, .int .i64 l.length), (12, .int .i64 x.k)], [(9, ⟨x.u, false, 74, 3, (l.take x.k).map av⟩)]⟩) (fun x => x.k ≤ l.length) (fun x => l.length - x.k) ⟨0, v9⟩ (Nat.zero_le _) (by simp +contextual -dsimp only [↓SD, SU, SB, simprocAttr]) (by simp +contextual -dsimp only [↓SD, SU, SB, simprocAttr, List.take_zero, List.map_nil]) ?_
 rintro ⟨k, u⟩ hk
 dsimp only at hk ⊢
 by_cases hlt : k < l.length
 ·have e := getD_map av l k .top hlt
  have hm := bulk_mem (List.getElem_mem hlt)
  have ht : (l.take (k + 1)).map (av : TypeD → AV) = (l.take k).map av ++ [av l[k]] := by rw [List.take_succ_eq_append_getElem hlt, List.map_append]; rfl
  have hkl : ((l.take k).map (av : TypeD → AV)).length = k := by simp; omega
  generalize (l.take k).map (av : TypeD → AV) = T at *
  have hTt : List.take k T = T := List.take_of_length_le (by omega)
  generalize l[k] = t at *
  have hbt : Bulk.bulk t = Bulk.bulk t.name + Bulk.bulk t.params + Bulk.bulk t.cons + 1 := rfl
  have hcl := bulk_length t.cons
  rw [av_TypeD] at e ht
  simp +contextual -dsimp (maxSteps := 2000000) only [↓SD, SU, SB, simprocAttr, map_len, hlt, e]
  intro v5 v16
  refine aLoop_of (X := TvS) (fun x => ⟨[(3, .row 9 u k), (5, .ptr 5 v5 0 0), (6, .row 16 x.u x.j), (10, .sl (l.map av)), (11, .int .i64 l.length), (12, .int .i64 k), (18, .sl (t.cons.map av)), (19, .int .i64 t.cons.length), (20, .int .i64 x.j)], [(9, ⟨u, false, 74, 3, T⟩), (5, ⟨v5, false, 74, 3, [.agg [.str t.name, .int .i64 t.params, .sl (t.cons.map av)]]⟩), (16, ⟨x.u, false, 80, 3, (t.cons.take x.j).map av⟩)]⟩) (fun x => x.j ≤ t.cons.length) (fun x => t.cons.length - x.j) ⟨0, v16, 0⟩ (Nat.zero_le _) (by simp +contextual -dsimp only [↓SD, SU, SB, simprocAttr]) (by simp +contextual -dsimp only [↓SD, SU, SB, simprocAttr, List.take_zero, List.map_nil]) ?_
  rintro ⟨j, w, _⟩ hj
  dsimp only at hj ⊢
  by_cases hlj : j < t.cons.length
  ·have e2 := getD_map av t.cons j .top hlj
   have hmj := bulk_mem (List.getElem_mem hlj)
   have ht2 : (t.cons.take (j + 1)).map (av : Con → AV) = (t.cons.take j).map av ++ [av t.cons[j]] := by rw [List.take_succ_eq_append_getElem hlj, List.map_append]; rfl
   have hjl : ((t.cons.take j).map (av : Con → AV)).length = j := by simp; omega
   generalize (t.cons.take j).map (av : Con → AV) = V at *
   have hVt : List.take j V = V := List.take_of_length_le (by omega)
   generalize t.cons[j] = c at *
   have hb1 : Bulk.bulk c = Bulk.bulk c.name + Bulk.bulk c.has + Bulk.bulk c.arg + 1 := rfl
   have hb2 : Bulk.bulk c.arg = Bulk.bulk c.arg.items + 1 := rfl
   have hl1 := bulk_length c.arg.items
   have hic : ∀ x ∈ c.arg.items.map (av : TyItem → AV), x.cells.length = 3 := fun x hx => by obtain ⟨y, _, rfl⟩ := List.mem_map.1 hx; exact AVal.len y
   have him : ∀ hp, (c.arg.items.map (av : TyItem → AV)).map (AV.pur hp) = c.arg.items.map av := fun hp => map_nop _ hp
   have hit : List.take c.arg.items.length (c.arg.items.map (av : TyItem → AV)) = c.arg.items.map av := List.take_of_length_le (by simp)
   rw [av_Con] at e2 ht2
   simp +contextual -dsimp (maxSteps := 2000000) only [↓SD, SU, SB, simprocAttr, map_len, hlj, e2, him, hit, hjl, hVt]
   intro v8 v24
   refine ⟨⟨hic, by omega, by unfold maxLen; omega⟩, fun v28 => ?_⟩
   refine ⟨⟨by omega, by unfold maxLen; omega⟩, fun w' => ⟨by omega, Goes.le ⟨⟨j + 1, w', 0⟩, ⟨hlj, (by first | omega | (simp only; omega))⟩, rfl⟩ (by simp +contextual -dsimp only [↓SD, SU, SB, simprocAttr, Int.natCast_add]) (by simp +contextual -dsimp only [↓SD, SU, SB, simprocAttr, ht2])⟩⟩
  ·obtain rfl : j = t.cons.length := by omega
   rw [List.take_length]
   have hcm : ∀ hp, (t.cons.map (av : Con → AV)).map (AV.pur hp) = t.cons.map av := fun hp => map_nop _ hp
   have hct : List.take t.cons.length (t.cons.map (av : Con → AV)) = t.cons.map av := List.take_of_length_le (by simp)
   simp +contextual -dsimp (maxSteps := 2000000) only [↓SD, SU, SB, simprocAttr, Nat.lt_irrefl]
   refine ghost_of (Goes.frz 16 (Goes.pur 6 (Goes.here ?_)))
   simp +contextual -dsimp (maxSteps := 2000000) only [↓SD, SU, SB, simprocAttr, hcm, hct, map_len, Nat.le_refl, hkl, hTt]
   refine ⟨⟨by omega, by unfold maxLen; omega⟩, fun u' => ⟨by omega, Goes.le ⟨⟨k + 1, u'⟩, ⟨hlt, (by first | omega | (simp only; omega))⟩, rfl⟩ (by simp +contextual -dsimp only [↓SD, SU, SB, simprocAttr, Int.natCast_add]) (by simp +contextual -dsimp only [↓SD, SU, SB, simprocAttr, ht])⟩⟩
 ·obtain rfl : k = l.length := by omega
  rw [List.take_length]
  have hcm : ∀ hp, (l.map (av : TypeD → AV)).map (AV.pur hp) = l.map av := fun hp => map_nop _ hp
  have hct : List.take l.length (l.map (av : TypeD → AV)) = l.map av := List.take_of_length_le (by simp)
  simp +contextual -dsimp (maxSteps := 2000000) only [↓SD, SU, SB, simprocAttr, Nat.lt_irrefl, hcm, hct, map_len, Nat.le_refl]
end Go.Proofs.YtjifpdcflankpaaGreat
