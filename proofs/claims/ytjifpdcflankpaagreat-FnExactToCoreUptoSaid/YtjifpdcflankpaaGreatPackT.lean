/-
 THE GROUND OF DATA, in one text. Conditions: none.
-/
import Derived.Test.YtjifpdcflankpaaGreatPackR
import Derived.Test.YtjifpdcflankpaaGreatBindsW
import Derived.Test.YtjifpdcflankpaaGreatIrGrow
import Derived.Test.YtjifpdcflankpaaGreatIrSubW

set_option linter.unusedVariables false
set_option linter.unusedSimpArgs false
set_option maxRecDepth 100000
namespace Go.Proofs.YtjifpdcflankpaaGreat
open Go.RowKit Go.Proofs.YtjifpdcflankpaaGreat.Av Go.Proofs.YtjifpdcflankpaaGreat.Ml
open Go.Proofs.YtjifpdcflankpaaGreat.Av.AVal (av)

theorem tr_cells (t : Tr) : (av t).cells = [av t] := by cases t; rw [av_Tr]; rfl
theorem tr_purA (t : Tr) (hp : Hp) : (av t).purA hp = av t := by cases t; rw [av_Tr]; rfl
theorem tr_pur1 (t : Tr) (hp : Hp) : (av t).pur1 hp = av t := by cases t; rw [av_Tr]; rfl
theorem tr_pur (t : Tr) (hp : Hp) : (av t).pur hp = av t := AVal.nop t hp
theorem tr_one (t : Tr) : (av t).one = true := by cases t; rw [av_Tr]; rfl
theorem tr_ok (t : Tr) : (av t).ok = true := AVal.ok t
theorem sub_len (t : Sub) : (av t).cells.length = 7 := AVal.len t
theorem sub_pur (t : Sub) (hp : Hp) : (av t).pur hp = av t := AVal.nop t hp
theorem sub_agg (t : Sub) : AV.agg (List.take 7 (av t).cells) = av t := by
 obtain ⟨⟨n, ks⟩⟩ := t
 rw [av_Sub]; rfl
theorem sub_ok (t : Sub) : (av t).ok = true := AVal.ok t
theorem elem1_ok (x : AV) (h : x.ok = true) (F : Nat → AV) (esz i : Nat) (es : List AV) (ps : List (Nat × IArg)) (k : List AV → Prop) : aElem1 x F esz i es ps k = ((x.cells.length = esz ∧ i < es.length) ∧ aElemsK F esz (es.set i x) ps k) := by simp [aElem1, h]
end Go.Proofs.YtjifpdcflankpaaGreat

namespace Go.Proofs.YtjifpdcflankpaaGreat
open Go.RowKit Go.Proofs.YtjifpdcflankpaaGreat.Av Go.Proofs.YtjifpdcflankpaaGreat.Ml
open Go.Proofs.YtjifpdcflankpaaGreat.Av.AVal (av)

def ClonePost (l : List PNode) (r : AV) (hp' : Hp) : Prop := ∃ v, r = .row 8 v l.length ∧ hp' = [(8, ⟨v, false, 94, 4, l.map av⟩)]
theorem ClonePNode_ok (a : PNode) (l : List PNode) (hl : l.length < 1048576) : CallsH Tryz.prog 167 [.sl ((a :: l).map av)] [] (ClonePost (a :: l)) := by
 refine funH_slices_Clone_impl_PNode_impl_PNode rfl ?_
 simp +contextual -dsimp only [↓SD, SU, SB, simprocAttr, ir_slices_Clone_impl_PNode_impl_PNode, rs_slices_Clone_impl_PNode_impl_PNode, map_len]
 intro v
 refine ⟨⟨?_, by omega, by unfold maxLen; omega⟩, fun u => ?_⟩
 ·rintro y (rfl | hy)
  ·rw [AVal.nop]; exact AVal.len a
  ·rw [map_nop] at hy
   obtain ⟨x, _, rfl⟩ := List.mem_map.1 hy
   exact AVal.len x
 ·rw [AVal.nop, map_nop]
  refine Goes.post [(8, ⟨u, false, 94, 4, (a :: l).map av⟩)] ?_
  simp +contextual -dsimp only [↓SD, SU, SB, simprocAttr]
  exact ⟨u, rfl, rfl⟩
def CloneIPost (l : List Int) (r : AV) (hp' : Hp) : Prop := r = .sl (l.map av) ∨ (r = .nils ∧ AV.sl (l.map av) = AV.sl [])
theorem CloneInt_ok (l : List Int) (hl : l.length ≤ 1048576) : CallsF Tryz.prog 168 [.sl (l.map av)] (.sl (l.map av)) := by
 refine callsF_of_H (Post := CloneIPost l) (funH_slices_Clone_int_int rfl ?_) (by simp; exact lav_clean l) (lav_clean l) (fun r hp' h => by exact h)
 simp +contextual -dsimp only [↓SD, SU, SB, simprocAttr, ir_slices_Clone_int_int, rs_slices_Clone_int_int, map_len]
 refine ⟨fun h => ?_, fun v => ⟨⟨?_, by omega, by unfold maxLen; omega⟩, fun u => ?_⟩⟩
 ·refine Goes.post [] ?_
  simp +contextual -dsimp only [↓SD, SU, SB, simprocAttr]
  exact .inr ⟨rfl, by rw [h]⟩
 ·rintro y hy
  rw [map_nop] at hy
  obtain ⟨x, _, rfl⟩ := List.mem_map.1 hy
  exact AVal.len x
 ·rw [map_nop]
  refine Goes.post [] ?_
  simp +contextual -dsimp only [↓SD, SU, SB, simprocAttr, map_nop, map_len, take_map]
  exact .inl rfl

theorem ClonePNode_ok' (l : List PNode) (h : l ≠ []) (hl : l.length ≤ 1048576) : CallsH Tryz.prog 167 [.sl (l.map av)] [] (ClonePost l) := by
 rcases l with _ | ⟨a, l⟩
 ·exact absurd rfl h
 ·exact ClonePNode_ok a l (by simp at hl; omega)
theorem copyPat_ok (q : Pat) (hq : q.nodes ≠ []) (hx : Bulk.bulk q ≤ 1048576) : CallsF Tryz.prog 130 [av q] (av q) := by
 obtain ⟨l⟩ := q
 have hl := bulk_length l
 have hb : Bulk.bulk l + 1 ≤ 1048576 := hx
 refine fun_impl_copyPat rfl (by simp; exact AVal.clean _) (AVal.clean _) ?_
 have C := ClonePNode_ok' l hq (by omega)
 simp +contextual -dsimp only [↓SD, SU, SB, simprocAttr, ir_impl_copyPat, rs_impl_copyPat, av_Pat, map_len]
 intro v
 refine aCallH_of [] C (by simp +contextual -dsimp only [↓SD, SU, SB, simprocAttr]) ?_
 rintro r hp' ⟨u, rfl, rfl⟩
 simp +contextual -dsimp only [↓SD, SU, SB, simprocAttr, map_len]
 intro v3
 refine aLoop_of (X := Nat) (fun k => ⟨[(2, .ptr 2 v 0 0), (3, .ptr 3 v3 0 0), (11, .row 8 u l.length), (12, .int .i64 l.length), (13, .int .i64 k)], [(2, ⟨v, false, 89, 1, [.agg [.nils]]⟩), (3, ⟨v3, false, 89, 1, [.agg [.row 8 u l.length]]⟩), (8, ⟨u, false, 94, 4, l.map av⟩)]⟩) (fun k => k ≤ l.length) (fun k => l.length - k) 0 (Nat.zero_le _) (by simp +contextual -dsimp only [↓SD, SU, SB, simprocAttr]) (by simp +contextual -dsimp only [↓SD, SU, SB, simprocAttr]) ?_
 rintro k hk
 by_cases hlt : k < l.length
 ·have e := getD_map av l k .top hlt
  have hm := bulk_mem (List.getElem_mem hlt)
  have hset : (l.map av).set k (av l[k]) = l.map av := by
   apply List.ext_getElem?
   intro i
   by_cases h : i = k
   ·subst h; simp [hlt]
   ·simp [List.getElem?_set, Ne.symm h]
  have hb1 : Bulk.bulk l[k] = Bulk.bulk l[k].kind + Bulk.bulk l[k].n + Bulk.bulk l[k].s + Bulk.bulk l[k].kids + 1 := rfl
  have hl1 := bulk_length l[k].kids
  have CI := CloneInt_ok l[k].kids (by omega)
  generalize l[k] = a at *
  rw [av_PNode] at hset
  simp +contextual -dsimp only [↓SD, SU, SB, simprocAttr, map_len, hlt, e, av_PNode]
  intro w5
  refine aCallK_of _ CI ?_
  simp +contextual -dsimp only [↓SD, SU, SB, simprocAttr, map_len, hlt, e, av_PNode, hset]
  exact ⟨by omega, Goes.le ⟨k + 1, ⟨hlt, (by first | omega | (simp only; omega))⟩, rfl⟩ (by simp +contextual -dsimp only [↓SD, SU, SB, simprocAttr, Int.natCast_add]) (by simp +contextual -dsimp only [↓SD, SU, SB, simprocAttr])⟩
 ·obtain rfl : k = l.length := by omega
  simp +contextual -dsimp only [↓SD, SU, SB, simprocAttr, map_len, Nat.lt_irrefl, map_nop, List.take_length, take_map]

theorem copyPats_ok (l : List Pat) (hq : ∀ q ∈ l, q.nodes ≠ []) (hx : Bulk.bulk l ≤ 1048576) : CallsF Tryz.prog 69 [.sl (l.map av)] (.sl (l.map av)) := by
 have hl := bulk_length l
 refine fun_impl_copyPats rfl (by simp; exact lav_clean l) (lav_clean l) ?_
 simp +contextual -dsimp only [↓SD, SU, SB, simprocAttr, ir_impl_copyPats, rs_impl_copyPats, map_len]
 intro v
 refine aLoop_of (X := Nat × Nat) (fun x => ⟨[(3, .row 6 x.2 x.1), (7, .sl (l.map av)), (8, .int .i64 l.length), (9, .int .i64 x.1)], [(6, ⟨x.2, false, 89, 1, (l.take x.1).map av⟩)]⟩) (fun x => x.1 ≤ l.length) (fun x => l.length - x.1) (0, v) (Nat.zero_le _) (by simp +contextual -dsimp only [↓SD, SU, SB, simprocAttr]) (by simp +contextual -dsimp only [↓SD, SU, SB, simprocAttr]) ?_
 rintro ⟨k, u⟩ hk
 simp only at hk
 by_cases hlt : k < l.length
 ·have e := getD_map av l k .top hlt
  have hm := bulk_mem (List.getElem_mem hlt)
  have C := copyPat_ok l[k] (hq _ (List.getElem_mem hlt)) (by omega)
  have ht : l.take (k + 1) = l.take k ++ [l[k]] := List.take_succ_eq_append_getElem hlt
  generalize l[k] = a at *
  rw [av_Pat] at C
  simp +contextual -dsimp only [↓SD, SU, SB, simprocAttr, map_len, hlt, e, av_Pat]
  intro w5
  refine aCallK_of _ C ?_
  have hk2 : (l.take k).length = k := by simp; omega
  have ht2 : List.take k ((l.take k).map av) = (l.take k).map av := List.take_of_length_le (by simp; omega)
  simp +contextual -dsimp only [↓SD, SU, SB, simprocAttr, map_len, hlt, e, av_Pat, hk2, ht2]
  refine ⟨⟨by omega, by unfold maxLen; omega⟩, fun u' => ⟨by omega, Goes.le ⟨(k + 1, u'), ⟨hlt, (by first | omega | (simp only; omega))⟩, rfl⟩ (by simp +contextual -dsimp only [↓SD, SU, SB, simprocAttr, Int.natCast_add]) (by simp +contextual -dsimp only [↓SD, SU, SB, simprocAttr, ht, List.map_append, av_Pat])⟩⟩
 ·obtain rfl : k = l.length := by omega
  simp +contextual -dsimp only [↓SD, SU, SB, simprocAttr, map_len, Nat.lt_irrefl, map_nop, List.take_length, take_map]

theorem grow_ok (l : List Node) (hk : ∀ i, i < l.length → ∀ k ∈ nkids l i, (i : Int) < k ∧ k < l.length) (hx : Bulk.bulk l ≤ 1048576) (hp : ∀ n ∈ l, ∀ q ∈ n.pats, q.nodes ≠ []) : ∀ (f i : Nat), i < l.length → l.length - i ≤ f → CallsF Tryz.prog 31 [.sl (l.map av), .int .i64 i] (av (growT l f i)) := by
 intro f
 induction f with
 | zero => intro i hi hf; omega
 | succ f ih =>
  intro i hi hf
  have hl := bulk_length l
  have e := getD_map av l i .top hi
  have em := List.getElem_mem hi
  obtain ⟨b1, b2, b3, b4⟩ := node_small hx em
  have C := copyPats_ok l[i].pats (hp _ em) b3
  have hK : nkids l i = l[i].kids := by simp [nkids, hi]
  have hg : growT l (f + 1) i = .mk l[i] (l[i].kids.map fun k => growT l f k.toNat) := by rw [growT, hK]; simp [hi]
  have hks := hk i hi
  rw [hK] at hks
  refine fun_impl_grow rfl (by simp; exact ⟨lav_clean l, pint _⟩) (AVal.clean _) ?_
  rw [hg]
  clear hg hK
  generalize l[i] = n at *
  simp +contextual -dsimp only [↓SD, SU, SB, simprocAttr, ir_impl_grow, rs_impl_grow, map_len, hi, e, av_Node]
  intro w5
  refine aCallK_of _ C ?_
  simp +contextual -dsimp only [↓SD, SU, SB, simprocAttr, map_len, hi, e, av_Node]
  intro w
  refine aLoop_goes (X := Nat × Nat) (fun x => ⟨[(0, .sl (l.map av)), (6, .ptr 25 w 0 0), (27, .sl (n.kids.map av)), (28, .int .i64 n.kids.length), (29, .int .i64 x.1)], [(25, ⟨w, false, 103, 6, [.agg [.int .i64 n.kind, .int .i64 n.pos, .int .i64 n.n, .str n.s, .row 42 x.2 x.1, .sl (n.pats.map av)]]⟩), (42, ⟨x.2, false, 55, 1, ((n.kids.take x.1).map fun k => growT l f k.toNat).map av⟩)]⟩) (fun x => x.1 ≤ n.kids.length) (fun x => n.kids.length - x.1) (Goes.adoptB 25 0 4 42 55 1 rfl rfl Nat.zero_lt_one rfl (by decide) (fun v => Goes.le ⟨(0, v), Nat.zero_le _, rfl⟩ (by simp +contextual -dsimp only [↓SD, SU, SB, simprocAttr]) (by simp +contextual -dsimp only [↓SD, SU, SB, simprocAttr]))) ?_
  rintro ⟨j, u⟩ hj
  simp only at hj
  by_cases hlt : j < n.kids.length
  ·have e2 := getD_map av n.kids j .top hlt
   have hkj := hks _ (List.getElem_mem hlt)
   have ht : n.kids.take (j + 1) = n.kids.take j ++ [n.kids[j]] := List.take_succ_eq_append_getElem hlt
   obtain ⟨m, hm⟩ : ∃ m : Nat, n.kids[j] = m := ⟨n.kids[j].toNat, by omega⟩
   rw [hm] at e2 hkj ht
   have C2 := ih m (by omega) (by omega)
   have hk2 : (n.kids.take j).length = j := by simp; omega
   have ht2 : List.take j (((n.kids.take j).map fun k => growT l f k.toNat).map av) = ((n.kids.take j).map fun k => growT l f k.toNat).map av := List.take_of_length_le (by simp; omega)
   simp +contextual -dsimp only [↓SD, SU, SB, simprocAttr, map_len, hlt, e2, av_int]
   refine aCallK_of _ C2 ?_
   simp +contextual -dsimp only [↓SD, SU, SB, simprocAttr, map_len, hlt, tr_cells, tr_pur, tr_pur1, tr_purA, tr_one, tr_ok, hk2, ht2]
   refine ⟨⟨by omega, by unfold maxLen; omega⟩, fun u' => ⟨by omega, Goes.le ⟨(j + 1, u'), ⟨hlt, (by first | omega | (simp only; omega))⟩, rfl⟩ (by simp +contextual -dsimp only [↓SD, SU, SB, simprocAttr, Int.natCast_add]) (by simp +contextual -dsimp only [↓SD, SU, SB, simprocAttr, ht, List.map_append, Int.toNat_natCast])⟩⟩
  ·obtain rfl : j = n.kids.length := by omega
   simp +contextual -dsimp only [↓SD, SU, SB, simprocAttr, map_len, Nat.lt_irrefl, map_nop, List.take_length, take_map]
   rw [av_Tr, List.take_of_length_le (by simp)]
end Go.Proofs.YtjifpdcflankpaaGreat

namespace Go.Proofs.YtjifpdcflankpaaGreat
open Go.RowKit Go.Proofs.YtjifpdcflankpaaGreat.Av Go.Proofs.YtjifpdcflankpaaGreat.Ml
open Go.Proofs.YtjifpdcflankpaaGreat.Av.AVal (av)

theorem l09Sub_ok (p : Program) (hk : ∀ i, i < p.nodes.length → ∀ k ∈ nkids p.nodes i, (i : Int) < k ∧ k < p.nodes.length) (hx : Bulk.bulk p.nodes ≤ 1048576) : ∀ (f i : Nat), i < p.nodes.length → p.nodes.length - i ≤ f → CallsF Tryz.prog 24 [av p, .int .i64 i] (av (Sub.mk (growT p.nodes f i))) := by
 intro f
 induction f with
 | zero => intro i hi hf; omega
 | succ f ih =>
  intro i hi hf
  have hl := bulk_length p.nodes
  have e := getD_map av p.nodes i .top hi
  have em := List.getElem_mem hi
  obtain ⟨b1, b2, b3, b4⟩ := node_small hx em
  have hK : nkids p.nodes i = p.nodes[i].kids := by simp [nkids, hi]
  have hg : growT p.nodes (f + 1) i = .mk p.nodes[i] (p.nodes[i].kids.map fun k => growT p.nodes f k.toNat) := by rw [growT, hK]; simp [hi]
  have hks := hk i hi
  rw [hK] at hks
  have hpl := bulk_length p.nodes[i].pats
  refine fun_spec_l09Sub rfl (by simp; exact ⟨AVal.clean p, pint _⟩) (AVal.clean _) ?_
  rw [hg]
  clear hg hK
  generalize p.nodes[i] = n at *
  simp +contextual -dsimp (maxSteps := 2000000) only [↓SD, SU, SB, simprocAttr, ir_spec_l09Sub, rs_spec_l09Sub, map_len, hi, e, av_Node, av_Program]
  intro v4 v5 v6
  refine aLoop_goes (X := Nat × Nat) (fun x => ⟨[(2, .obj [.sl (p.types.map av), .sl (p.nodes.map av)]), (4, .ptr 4 v4 0 0), (5, .ptr 5 v5 0 0), (6, .ptr 6 v6 0 0), (24, .sl (n.pats.map av)), (25, .int .i64 n.pats.length), (26, .int .i64 x.1)], [(4, ⟨v4, false, 47, 7, [.agg [.int .i64 0, .int .i64 0, .int .i64 0, .str (bs []), .nils, .nils, .nils]]⟩), (5, ⟨v5, false, 44, 6, [.agg [.int .i64 n.kind, .int .i64 n.pos, .int .i64 n.n, .str n.s, .sl (n.kids.map av), .sl (n.pats.map av)]]⟩), (6, ⟨v6, false, 47, 7, [.agg [.int .i64 n.kind, .int .i64 n.pos, .int .i64 n.n, .str n.s, .sl (n.kids.map av), .row 54 x.2 x.1, .nils]]⟩), (54, ⟨x.2, false, 89, 1, (n.pats.take x.1).map av⟩)]⟩) (fun x => x.1 ≤ n.pats.length) (fun x => n.pats.length - x.1) (Goes.adoptB 6 0 5 54 89 1 rfl rfl Nat.zero_lt_one rfl (by decide) (fun v => Goes.le ⟨(0, v), Nat.zero_le _, rfl⟩ (by simp +contextual -dsimp only [↓SD, SU, SB, simprocAttr]) (by simp +contextual -dsimp only [↓SD, SU, SB, simprocAttr]))) ?_
  rintro ⟨k, u⟩ hk1
  simp only at hk1
  by_cases hlt : k < n.pats.length
  ·have e2 := getD_map av n.pats k .top hlt
   have hm := bulk_mem (List.getElem_mem hlt)
   have ht : n.pats.take (k + 1) = n.pats.take k ++ [n.pats[k]] := List.take_succ_eq_append_getElem hlt
   have hk2 : (n.pats.take k).length = k := by simp; omega
   have ht2 : List.take k ((n.pats.take k).map av) = (n.pats.take k).map av := List.take_of_length_le (by simp; omega)
   generalize n.pats[k] = q at *
   have hql := bulk_length q.nodes
   have hqb : Bulk.bulk q = Bulk.bulk q.nodes + 1 := rfl
   simp +contextual -dsimp (maxSteps := 2000000) only [↓SD, SU, SB, simprocAttr, map_len, hlt, e2, av_Pat]
   intro v8 v30
   refine aLoop_of (X := Nat × Nat) (fun y => ⟨[(2, .obj [.sl (p.types.map av), .sl (p.nodes.map av)]), (4, .ptr 4 v4 0 0), (5, .ptr 5 v5 0 0), (6, .ptr 6 v6 0 0), (9, .row 30 y.2 y.1), (24, .sl (n.pats.map av)), (25, .int .i64 n.pats.length), (26, .int .i64 k), (32, .sl (q.nodes.map av)), (33, .int .i64 q.nodes.length), (34, .int .i64 y.1)], [(4, ⟨v4, false, 47, 7, [.agg [.int .i64 0, .int .i64 0, .int .i64 0, .str (bs []), .nils, .nils, .nils]]⟩), (5, ⟨v5, false, 44, 6, [.agg [.int .i64 n.kind, .int .i64 n.pos, .int .i64 n.n, .str n.s, .sl (n.kids.map av), .sl (n.pats.map av)]]⟩), (6, ⟨v6, false, 47, 7, [.agg [.int .i64 n.kind, .int .i64 n.pos, .int .i64 n.n, .str n.s, .sl (n.kids.map av), .row 54 u k, .nils]]⟩), (54, ⟨u, false, 89, 1, (n.pats.take k).map av⟩), (30, ⟨y.2, false, 94, 4, (q.nodes.take y.1).map av⟩)]⟩) (fun y => y.1 ≤ q.nodes.length) (fun y => q.nodes.length - y.1) (0, v30) (Nat.zero_le _) (by simp +contextual -dsimp only [↓SD, SU, SB, simprocAttr]) (by simp +contextual -dsimp only [↓SD, SU, SB, simprocAttr]) ?_
   rintro ⟨j, u2⟩ hj
   simp only at hj
   by_cases hlj : j < q.nodes.length
   ·have e3 := getD_map av q.nodes j .top hlj
    have hm3 := bulk_mem (List.getElem_mem hlj)
    have ht3 : q.nodes.take (j + 1) = q.nodes.take j ++ [q.nodes[j]] := List.take_succ_eq_append_getElem hlj
    have hk3 : (q.nodes.take j).length = j := by simp; omega
    have ht4 : List.take j ((q.nodes.take j).map av) = (q.nodes.take j).map av := List.take_of_length_le (by simp; omega)
    generalize q.nodes[j] = a at *
    have hb1 : Bulk.bulk a = Bulk.bulk a.kind + Bulk.bulk a.n + Bulk.bulk a.s + Bulk.bulk a.kids + 1 := rfl
    have hl1 := bulk_length a.kids
    have hint : ∀ y ∈ a.kids.map (av : Int → AV), y.cells.length = 1 := fun y hy => by obtain ⟨x, _, rfl⟩ := List.mem_map.1 hy; rfl
    have hnp : (a.kids.map (av : Int → AV)).map (AV.pur []) = a.kids.map av := map_nop _ _
    simp +contextual -dsimp (maxSteps := 2000000) only [↓SD, SU, SB, simprocAttr, map_len, hlj, e3, av_PNode, map_nop]
    intro v11 v38
    refine ⟨⟨hint, by omega, by unfold maxLen; omega⟩, fun v38' => ghost_of (Goes.frz 38 (Goes.here ?_))⟩
    simp +contextual -dsimp (maxSteps := 2000000) only [↓SD, SU, SB, simprocAttr, map_len, hlj, e3, av_PNode, map_nop, hk3, ht4, take_map, List.take_length]
    refine ⟨⟨by omega, by unfold maxLen; omega⟩, fun u' => ⟨by omega, Goes.le ⟨(j + 1, u'), ⟨hlj, (by first | omega | (simp only; omega))⟩, rfl⟩ (by simp +contextual -dsimp only [↓SD, SU, SB, simprocAttr, Int.natCast_add]) (by simp +contextual -dsimp only [↓SD, SU, SB, simprocAttr, ht3, List.map_append, av_PNode])⟩⟩
   ·obtain rfl : j = q.nodes.length := by omega
    simp +contextual -dsimp (maxSteps := 2000000) only [↓SD, SU, SB, simprocAttr, map_len, Nat.lt_irrefl, List.take_length]
    refine ghost_of (Goes.frz 30 (Goes.here ?_))
    simp +contextual -dsimp (maxSteps := 2000000) only [↓SD, SU, SB, simprocAttr, map_len, map_nop, hk2, ht2, take_map, List.take_length]
    refine ⟨⟨by omega, by unfold maxLen; omega⟩, fun u' => ⟨by omega, Goes.le ⟨(k + 1, u'), ⟨hlt, (by first | omega | (simp only; omega))⟩, rfl⟩ (by simp +contextual -dsimp only [↓SD, SU, SB, simprocAttr, Int.natCast_add]) (by simp +contextual -dsimp only [↓SD, SU, SB, simprocAttr, ht, List.map_append, av_Pat])⟩⟩
  ·obtain rfl : k = n.pats.length := by omega
   simp +contextual -dsimp (maxSteps := 2000000) only [↓SD, SU, SB, simprocAttr, map_len, Nat.lt_irrefl, List.take_length]
   refine aLoop_goes (X := Nat × Nat) (fun x => ⟨[(2, .obj [.sl (p.types.map av), .sl (p.nodes.map av)]), (4, .ptr 4 v4 0 0), (6, .ptr 6 v6 0 0), (59, .sl (n.kids.map av)), (60, .int .i64 n.kids.length), (61, .int .i64 x.1)], [(4, ⟨v4, false, 47, 7, [.agg [.int .i64 0, .int .i64 0, .int .i64 0, .str (bs []), .nils, .nils, .nils]]⟩), (6, ⟨v6, false, 47, 7, [.agg [.int .i64 n.kind, .int .i64 n.pos, .int .i64 n.n, .str n.s, .sl (n.kids.map av), .row 54 u n.pats.length, .row 71 x.2 x.1]]⟩), (54, ⟨u, false, 89, 1, n.pats.map av⟩), (71, ⟨x.2, false, 47, 7, ((n.kids.take x.1).map fun k => Sub.mk (growT p.nodes f k.toNat)).map av⟩)]⟩) (fun x => x.1 ≤ n.kids.length) (fun x => n.kids.length - x.1) (Goes.adoptB 6 0 6 71 47 7 rfl rfl Nat.zero_lt_one rfl (by decide) (fun v => Goes.le ⟨(0, v), Nat.zero_le _, rfl⟩ (by simp +contextual -dsimp only [↓SD, SU, SB, simprocAttr]) (by simp +contextual -dsimp only [↓SD, SU, SB, simprocAttr]))) ?_
   rintro ⟨j, u2⟩ hj
   simp only at hj
   by_cases hlt : j < n.kids.length
   ·have e2 := getD_map av n.kids j .top hlt
    have hkj := hks _ (List.getElem_mem hlt)
    have ht : n.kids.take (j + 1) = n.kids.take j ++ [n.kids[j]] := List.take_succ_eq_append_getElem hlt
    obtain ⟨m, hm⟩ : ∃ m : Nat, n.kids[j] = m := ⟨n.kids[j].toNat, by omega⟩
    rw [hm] at e2 hkj ht
    have C2 := ih m (by omega) (by omega)
    rw [av_Program] at C2
    have hk2 : (n.kids.take j).length = j := by simp; omega
    have ht2 : List.take j (((n.kids.take j).map fun k => Sub.mk (growT p.nodes f k.toNat)).map av) = ((n.kids.take j).map fun k => Sub.mk (growT p.nodes f k.toNat)).map av := List.take_of_length_le (by simp; omega)
    simp +contextual -dsimp (maxSteps := 2000000) only [↓SD, SU, SB, simprocAttr, map_len, hlt, e2, av_int]
    refine aCallK_of _ C2 ?_
    simp +contextual -dsimp (maxSteps := 2000000) only [↓SD, SU, SB, simprocAttr, map_len, hlt, elem1_ok, sub_len, sub_pur, sub_ok, hk2, ht2, map_nop]
    refine ⟨⟨by omega, by unfold maxLen; omega⟩, fun u' => ⟨by omega, Goes.le ⟨(j + 1, u'), ⟨hlt, (by first | omega | (simp only; omega))⟩, rfl⟩ (by simp +contextual -dsimp only [↓SD, SU, SB, simprocAttr, Int.natCast_add]) (by simp +contextual -dsimp only [↓SD, SU, SB, simprocAttr, ht, List.map_append, Int.toNat_natCast])⟩⟩
   ·obtain rfl : j = n.kids.length := by omega
    simp +contextual -dsimp (maxSteps := 2000000) only [↓SD, SU, SB, simprocAttr, map_len, Nat.lt_irrefl, map_nop, List.take_length, take_map]
    rw [av_Sub, List.take_of_length_le (by simp), List.map_map, List.map_map, List.map_map]; rfl

end Go.Proofs.YtjifpdcflankpaaGreat
