/-
 THE GROUND OF DATA, in one text. Conditions: none.
-/
import Derived.Test.YtmlckdffkbbbhaaGreatPackR
import Derived.Test.YtmlckdffkbbbhaaGreatBindsW
import Derived.Test.YtmlckdffkbbbhaaGreatIrSubW
import Derived.Test.YtmlckdffkbbbhaaGreatPackO
import Derived.Test.YtmlckdffkbbbhaaGreatIrLayS

set_option linter.unusedVariables false
set_option linter.unusedSimpArgs false
set_option maxRecDepth 100000
namespace Go.Proofs.YtmlckdffkbbbhaaGreat
open Go.RowKit Go.Proofs.YtmlckdffkbbbhaaGreat.Av Go.Proofs.YtmlckdffkbbbhaaGreat.Ml
open Go.Proofs.YtmlckdffkbbbhaaGreat.Av.AVal (av)

theorem tr_cells (t : Tr) : (av t).cells = [av t] := by cases t; rw [av_Tr]; rfl
theorem tr_purA (t : Tr) (hp : Hp) : (av t).purA hp = av t := by cases t; rw [av_Tr]; rfl
theorem tr_pur1 (t : Tr) (hp : Hp) : (av t).pur1 hp = av t := by cases t; rw [av_Tr]; rfl
theorem tr_pur (t : Tr) (hp : Hp) : (av t).pur hp = av t := AVal.nop t hp
theorem tr_one (t : Tr) : (av t).one = true := by cases t; rw [av_Tr]; rfl
theorem tr_ok (t : Tr) : (av t).ok = true := AVal.ok t
theorem sub_len (t : Sub) : (av t).cells.length = 7 := AVal.len t
theorem sub_pur (t : Sub) (hp : Hp) : (av t).pur hp = av t := AVal.nop t hp
theorem sub_agg (t : Sub) : AV.agg (List.take 7 (av t).cells) = av t := by
 obtain ⟨⟨n, ks⟩⟩ := t
 rw [av_Sub]; rfl
theorem sub_ok (t : Sub) : (av t).ok = true := AVal.ok t
theorem sub_purA (t : Sub) (hp : Hp) : (av t).purA hp = av t := by
 obtain ⟨⟨n, ks⟩⟩ := t
 rw [av_Sub]; rfl
theorem elem1_ok (x : AV) (h : x.ok = true) (F : Nat → AV) (esz i : Nat) (es : List AV) (ps : List (Nat × IArg)) (k : List AV → Prop) : aElem1 x F esz i es ps k = ((x.cells.length = esz ∧ i < es.length) ∧ aElemsK F esz (es.set i x) ps k) := by simp [aElem1, h]
end Go.Proofs.YtmlckdffkbbbhaaGreat

namespace Go.Proofs.YtmlckdffkbbbhaaGreat
open Go.RowKit Go.Proofs.YtmlckdffkbbbhaaGreat.Av Go.Proofs.YtmlckdffkbbbhaaGreat.Ml
open Go.Proofs.YtmlckdffkbbbhaaGreat.Av.AVal (av)

theorem l09Sub_ok (p : Program) (hk : ∀ i, i < p.nodes.length → ∀ k ∈ nkids p.nodes i, (i : Int) < k ∧ k < p.nodes.length) (hx : Bulk.bulk p.nodes ≤ 1048576) : ∀ (f i : Nat), i < p.nodes.length → p.nodes.length - i ≤ f → CallsF Tryz.prog 22 [av p, .int .i64 i] (av (Sub.mk (growT p.nodes f i))) := by
 intro f
 induction f with
 | zero => intro i hi hf; omega
 | succ f ih =>
  intro i hi hf
  have hl := bulk_length p.nodes
  have e := getD_map av p.nodes i .top hi
  have em := List.getElem_mem hi
  obtain ⟨b1, b2, b3, b4⟩ := node_small hx em
  have hK : nkids p.nodes i = p.nodes[i].kids := by simp [nkids, hi]
  have hg : growT p.nodes (f + 1) i = .mk p.nodes[i] (p.nodes[i].kids.map fun k => growT p.nodes f k.toNat) := by rw [growT, hK]; simp [hi]
  have hks := hk i hi
  rw [hK] at hks
  have hpl := bulk_length p.nodes[i].pats
  refine fun_spec_l09Sub rfl (by simp; exact ⟨AVal.clean p, pint _⟩) (AVal.clean _) ?_
  rw [hg]
  clear hg hK
  generalize p.nodes[i] = n at *
  simp +contextual -dsimp (maxSteps := 2000000) only [↓SD, SU, SB, simprocAttr, ir_spec_l09Sub, rs_spec_l09Sub, map_len, hi, e, av_Node, av_Program]
  intro v4 v5 v6
  refine aLoop_goes (X := Nat × Nat) (fun x => ⟨[(2, .obj [.sl (p.types.map av), .sl (p.nodes.map av)]), (4, .ptr 4 v4 0 0), (5, .ptr 5 v5 0 0), (6, .ptr 6 v6 0 0), (24, .sl (n.pats.map av)), (25, .int .i64 n.pats.length), (26, .int .i64 x.1)], [(4, ⟨v4, false, 48, 7, [.agg [.int .i64 0, .int .i64 0, .int .i64 0, .str (bs []), .nils, .nils, .nils]]⟩), (5, ⟨v5, false, 45, 6, [.agg [.int .i64 n.kind, .int .i64 n.pos, .int .i64 n.n, .str n.s, .sl (n.kids.map av), .sl (n.pats.map av)]]⟩), (6, ⟨v6, false, 48, 7, [.agg [.int .i64 n.kind, .int .i64 n.pos, .int .i64 n.n, .str n.s, .sl (n.kids.map av), .row 54 x.2 x.1, .nils]]⟩), (54, ⟨x.2, false, 88, 1, (n.pats.take x.1).map av⟩)]⟩) (fun x => x.1 ≤ n.pats.length) (fun x => n.pats.length - x.1) (Goes.adoptB 6 0 5 54 88 1 rfl rfl Nat.zero_lt_one rfl (by decide) (fun v => Goes.le ⟨(0, v), Nat.zero_le _, rfl⟩ (by simp +contextual -dsimp only [↓SD, SU, SB, simprocAttr]) (by simp +contextual -dsimp only [↓SD, SU, SB, simprocAttr]))) ?_
  rintro ⟨k, u⟩ hk1
  simp only at hk1
  by_cases hlt : k < n.pats.length
  ·have e2 := getD_map av n.pats k .top hlt
   have hm := bulk_mem (List.getElem_mem hlt)
   have ht : n.pats.take (k + 1) = n.pats.take k ++ [n.pats[k]] := List.take_succ_eq_append_getElem hlt
   have hk2 : (n.pats.take k).length = k := by simp; omega
   have ht2 : List.take k ((n.pats.take k).map av) = (n.pats.take k).map av := List.take_of_length_le (by simp; omega)
   generalize n.pats[k] = q at *
   have hql := bulk_length q.nodes
   have hqb : Bulk.bulk q = Bulk.bulk q.nodes + 1 := rfl
   simp +contextual -dsimp (maxSteps := 2000000) only [↓SD, SU, SB, simprocAttr, map_len, hlt, e2, av_Pat]
   intro v8 v30
   refine aLoop_of (X := Nat × Nat) (fun y => ⟨[(2, .obj [.sl (p.types.map av), .sl (p.nodes.map av)]), (4, .ptr 4 v4 0 0), (5, .ptr 5 v5 0 0), (6, .ptr 6 v6 0 0), (9, .row 30 y.2 y.1), (24, .sl (n.pats.map av)), (25, .int .i64 n.pats.length), (26, .int .i64 k), (32, .sl (q.nodes.map av)), (33, .int .i64 q.nodes.length), (34, .int .i64 y.1)], [(4, ⟨v4, false, 48, 7, [.agg [.int .i64 0, .int .i64 0, .int .i64 0, .str (bs []), .nils, .nils, .nils]]⟩), (5, ⟨v5, false, 45, 6, [.agg [.int .i64 n.kind, .int .i64 n.pos, .int .i64 n.n, .str n.s, .sl (n.kids.map av), .sl (n.pats.map av)]]⟩), (6, ⟨v6, false, 48, 7, [.agg [.int .i64 n.kind, .int .i64 n.pos, .int .i64 n.n, .str n.s, .sl (n.kids.map av), .row 54 u k, .nils]]⟩), (54, ⟨u, false, 88, 1, (n.pats.take k).map av⟩), (30, ⟨y.2, false, 90, 4, (q.nodes.take y.1).map av⟩)]⟩) (fun y => y.1 ≤ q.nodes.length) (fun y => q.nodes.length - y.1) (0, v30) (Nat.zero_le _) (by simp +contextual -dsimp only [↓SD, SU, SB, simprocAttr]) (by simp +contextual -dsimp only [↓SD, SU, SB, simprocAttr]) ?_
   rintro ⟨j, u2⟩ hj
   simp only at hj
   by_cases hlj : j < q.nodes.length
   ·have e3 := getD_map av q.nodes j .top hlj
    have hm3 := bulk_mem (List.getElem_mem hlj)
    have ht3 : q.nodes.take (j + 1) = q.nodes.take j ++ [q.nodes[j]] := List.take_succ_eq_append_getElem hlj
    have hk3 : (q.nodes.take j).length = j := by simp; omega
    have ht4 : List.take j ((q.nodes.take j).map av) = (q.nodes.take j).map av := List.take_of_length_le (by simp; omega)
    generalize q.nodes[j] = a at *
    have hb1 : Bulk.bulk a = Bulk.bulk a.kind + Bulk.bulk a.n + Bulk.bulk a.s + Bulk.bulk a.kids + 1 := rfl
    have hl1 := bulk_length a.kids
    have hint : ∀ y ∈ a.kids.map (av : Int → AV), y.cells.length = 1 := fun y hy => by obtain ⟨x, _, rfl⟩ := List.mem_map.1 hy; rfl
    have hnp : (a.kids.map (av : Int → AV)).map (AV.pur []) = a.kids.map av := map_nop _ _
    simp +contextual -dsimp (maxSteps := 2000000) only [↓SD, SU, SB, simprocAttr, map_len, hlj, e3, av_PNode, map_nop]
    intro v11 v38
    refine ⟨⟨hint, by omega, by unfold maxLen; omega⟩, fun v38' => ghost_of (Goes.frz 38 (Goes.here ?_))⟩
    simp +contextual -dsimp (maxSteps := 2000000) only [↓SD, SU, SB, simprocAttr, map_len, hlj, e3, av_PNode, map_nop, hk3, ht4, take_map, List.take_length]
    refine ⟨⟨by omega, by unfold maxLen; omega⟩, fun u' => ⟨by omega, Goes.le ⟨(j + 1, u'), ⟨hlj, (by first | omega | (simp only; omega))⟩, rfl⟩ (by simp +contextual -dsimp only [↓SD, SU, SB, simprocAttr, Int.natCast_add]) (by simp +contextual -dsimp only [↓SD, SU, SB, simprocAttr, ht3, List.map_append, av_PNode])⟩⟩
   ·obtain rfl : j = q.nodes.length := by omega
    simp +contextual -dsimp (maxSteps := 2000000) only [↓SD, SU, SB, simprocAttr, map_len, Nat.lt_irrefl, List.take_length]
    refine ghost_of (Goes.frz 30 (Goes.here ?_))
    simp +contextual -dsimp (maxSteps := 2000000) only [↓SD, SU, SB, simprocAttr, map_len, map_nop, hk2, ht2, take_map, List.take_length]
    refine ⟨⟨by omega, by unfold maxLen; omega⟩, fun u' => ⟨by omega, Goes.le ⟨(k + 1, u'), ⟨hlt, (by first | omega | (simp only; omega))⟩, rfl⟩ (by simp +contextual -dsimp only [↓SD, SU, SB, simprocAttr, Int.natCast_add]) (by simp +contextual -dsimp only [↓SD, SU, SB, simprocAttr, ht, List.map_append, av_Pat])⟩⟩
  ·obtain rfl : k = n.pats.length := by omega
   simp +contextual -dsimp (maxSteps := 2000000) only [↓SD, SU, SB, simprocAttr, map_len, Nat.lt_irrefl, List.take_length]
   refine aLoop_goes (X := Nat × Nat) (fun x => ⟨[(2, .obj [.sl (p.types.map av), .sl (p.nodes.map av)]), (4, .ptr 4 v4 0 0), (6, .ptr 6 v6 0 0), (59, .sl (n.kids.map av)), (60, .int .i64 n.kids.length), (61, .int .i64 x.1)], [(4, ⟨v4, false, 48, 7, [.agg [.int .i64 0, .int .i64 0, .int .i64 0, .str (bs []), .nils, .nils, .nils]]⟩), (6, ⟨v6, false, 48, 7, [.agg [.int .i64 n.kind, .int .i64 n.pos, .int .i64 n.n, .str n.s, .sl (n.kids.map av), .row 54 u n.pats.length, .row 71 x.2 x.1]]⟩), (54, ⟨u, false, 88, 1, n.pats.map av⟩), (71, ⟨x.2, false, 48, 7, ((n.kids.take x.1).map fun k => Sub.mk (growT p.nodes f k.toNat)).map av⟩)]⟩) (fun x => x.1 ≤ n.kids.length) (fun x => n.kids.length - x.1) (Goes.adoptB 6 0 6 71 48 7 rfl rfl Nat.zero_lt_one rfl (by decide) (fun v => Goes.le ⟨(0, v), Nat.zero_le _, rfl⟩ (by simp +contextual -dsimp only [↓SD, SU, SB, simprocAttr]) (by simp +contextual -dsimp only [↓SD, SU, SB, simprocAttr]))) ?_
   rintro ⟨j, u2⟩ hj
   simp only at hj
   by_cases hlt : j < n.kids.length
   ·have e2 := getD_map av n.kids j .top hlt
    have hkj := hks _ (List.getElem_mem hlt)
    have ht : n.kids.take (j + 1) = n.kids.take j ++ [n.kids[j]] := List.take_succ_eq_append_getElem hlt
    obtain ⟨m, hm⟩ : ∃ m : Nat, n.kids[j] = m := ⟨n.kids[j].toNat, by omega⟩
    rw [hm] at e2 hkj ht
    have C2 := ih m (by omega) (by omega)
    rw [av_Program] at C2
    have hk2 : (n.kids.take j).length = j := by simp; omega
    have ht2 : List.take j (((n.kids.take j).map fun k => Sub.mk (growT p.nodes f k.toNat)).map av) = ((n.kids.take j).map fun k => Sub.mk (growT p.nodes f k.toNat)).map av := List.take_of_length_le (by simp; omega)
    simp +contextual -dsimp (maxSteps := 2000000) only [↓SD, SU, SB, simprocAttr, map_len, hlt, e2, av_int]
    refine aCallK_of _ C2 ?_
    simp +contextual -dsimp (maxSteps := 2000000) only [↓SD, SU, SB, simprocAttr, map_len, hlt, elem1_ok, sub_len, sub_pur, sub_ok, hk2, ht2, map_nop]
    refine ⟨⟨by omega, by unfold maxLen; omega⟩, fun u' => ⟨by omega, Goes.le ⟨(j + 1, u'), ⟨hlt, (by first | omega | (simp only; omega))⟩, rfl⟩ (by simp +contextual -dsimp only [↓SD, SU, SB, simprocAttr, Int.natCast_add]) (by simp +contextual -dsimp only [↓SD, SU, SB, simprocAttr, ht, List.map_append, Int.toNat_natCast])⟩⟩
   ·obtain rfl : j = n.kids.length := by omega
    simp +contextual -dsimp (maxSteps := 2000000) only [↓SD, SU, SB, simprocAttr, map_len, Nat.lt_irrefl, map_nop, List.take_length, take_map]
    rw [av_Sub, List.take_of_length_le (by simp), List.map_map, List.map_map, List.map_map]; rfl

end Go.Proofs.YtmlckdffkbbbhaaGreat

namespace Go.Proofs.YtmlckdffkbbbhaaGreat
open Go.RowKit Go.Proofs.YtmlckdffkbbbhaaGreat.Av Go.Proofs.YtmlckdffkbbbhaaGreat.Ml
open Go.Proofs.YtmlckdffkbbbhaaGreat.Av.AVal (av)

def growM (G : List AV) (x : AV) (hp : Hp) : Prop := (G = [] ∧ x = .nils ∧ hp = []) ∨ ∃ v, x = .row 90 v G.length ∧ hp = [(90, ⟨v, false, 45, 6, G⟩)]
structure LyS where
 j : Nat
 v : Nat
 u : Nat
set_option maxHeartbeats 4000000 in
theorem l03Lay_ok : ∀ (t : Tr) (G : List AV) (x : AV) (hp : Hp), growM G x hp → G.length + t.size ≤ 1048576 → CallsH Tryz.prog 47 [x, av (Sub.mk t)] hp (growM (G ++ (layT G.length t).map av)) := by
 refine Tr.ind fun n ks ih G x hp hx hb => ?_
 have ec : (Tr.mk n ks).size = Tr.sizes ks + 1 := by rw [Tr.size]
 rw [ec] at hb
 have hkl := sizes_len ks
 obtain ⟨Z, hZ⟩ : ∃ Z : AV, Z = .agg [.int .i64 0, .int .i64 0, .int .i64 0, .str (bs []), .nils, .nils] := ⟨_, rfl⟩
 have hml : ((ks.map Sub.mk).map (av : Sub → AV)).length = ks.length := by simp
 refine funH_spec_l03Lay rfl ?_
 rcases hx with ⟨hG0, rfl, rfl⟩ | ⟨v, rfl, rfl⟩
 case' inl =>
  have hG1 : G.length = 0 := by rw [hG0]; rfl
  simp +contextual -dsimp (maxSteps := 2000000) only [↓SD, SU, SB, simprocAttr, ir_spec_l03Lay, rs_spec_l03Lay, av_Sub, map_len, hml]
  refine ⟨by unfold maxLen; omega, fun v1 v6 => ?_⟩
  refine aLoop_goes (X := LyS) (fun x => ⟨[(0, .row 90 x.v (G.length + 1 + Tr.sizes (ks.take x.j))), (3, .obj [.int .i64 n.kind, .int .i64 n.pos, .int .i64 n.n, .str n.s, .sl (n.kids.map av), .sl (n.pats.map av), .sl ((ks.map Sub.mk).map av)]), (5, .int .i64 G.length), (6, .ptr 6 v6 0 0), (19, .int .i64 ks.length), (20, .int .i64 x.j)], [(90, ⟨x.v, false, 45, 6, G ++ [Z] ++ (layTs (G.length + 1) (ks.take x.j)).map av⟩), (6, ⟨v6, false, 45, 6, [.agg [.int .i64 n.kind, .int .i64 n.pos, .int .i64 n.n, .str n.s, .row 28 x.u x.j, .sl (n.pats.map av)]]⟩), (28, ⟨x.u, false, 3, 1, (kidT (G.length + 1) (ks.take x.j)).map av⟩)]⟩) (fun x => x.j ≤ ks.length) (fun x => ks.length - x.j) ?_ ?_
  ·refine Goes.adoptB 6 0 4 28 3 1 rfl rfl Nat.zero_lt_one rfl (by decide) fun z => ?_
   exact Goes.le ⟨⟨0, v1, z⟩, Nat.zero_le _, rfl⟩ (by simp +contextual -dsimp only [↓SD, SU, SB, simprocAttr, List.take_zero, Tr.sizes, hG1]) (by simp +contextual -dsimp only [↓SD, SU, SB, simprocAttr, List.take_zero, layTs, kidT, List.map_nil, List.append_nil, hG0, hZ])
 case' inr =>
  have t0 : List.take G.length G = G := List.take_length
  simp +contextual -dsimp (maxSteps := 2000000) only [↓SD, SU, SB, simprocAttr, ir_spec_l03Lay, rs_spec_l03Lay, av_Sub, map_len, t0, hml]
  refine ⟨⟨by omega, by unfold maxLen; omega⟩, fun v1 v6 => ?_⟩
  refine aLoop_goes (X := LyS) (fun x => ⟨[(0, .row 90 x.v (G.length + 1 + Tr.sizes (ks.take x.j))), (3, .obj [.int .i64 n.kind, .int .i64 n.pos, .int .i64 n.n, .str n.s, .sl (n.kids.map av), .sl (n.pats.map av), .sl ((ks.map Sub.mk).map av)]), (5, .int .i64 G.length), (6, .ptr 6 v6 0 0), (19, .int .i64 ks.length), (20, .int .i64 x.j)], [(90, ⟨x.v, false, 45, 6, G ++ [Z] ++ (layTs (G.length + 1) (ks.take x.j)).map av⟩), (6, ⟨v6, false, 45, 6, [.agg [.int .i64 n.kind, .int .i64 n.pos, .int .i64 n.n, .str n.s, .row 28 x.u x.j, .sl (n.pats.map av)]]⟩), (28, ⟨x.u, false, 3, 1, (kidT (G.length + 1) (ks.take x.j)).map av⟩)]⟩) (fun x => x.j ≤ ks.length) (fun x => ks.length - x.j) ?_ ?_
  ·refine Goes.adoptB 6 0 4 28 3 1 rfl rfl Nat.zero_lt_one rfl (by decide) fun z => ?_
   exact Goes.le ⟨⟨0, v1, z⟩, Nat.zero_le _, rfl⟩ (by simp +contextual -dsimp only [↓SD, SU, SB, simprocAttr, List.take_zero, Tr.sizes]) (by simp +contextual -dsimp only [↓SD, SU, SB, simprocAttr, List.take_zero, layTs, kidT, List.map_nil, List.append_nil, hZ])
 all_goals
  rintro ⟨j, a, b⟩ hj
  dsimp only at hj ⊢
  by_cases hlt : j < ks.length
  ·have hlt3 : j < (ks.map Sub.mk).length := by rw [List.length_map]; exact hlt
   have e1 := getD_map av (ks.map Sub.mk) j .top hlt3
   rw [List.getElem_map] at e1
   have b2 := sizes_take ks j hlt
   have ht : ks.take (j + 1) = ks.take j ++ [ks[j]] := List.take_succ_eq_append_getElem hlt
   have hpx : G.length + 1 + Tr.sizes (ks.take (j + 1)) = G.length + 1 + Tr.sizes (ks.take j) + (ks[j]).size := by rw [ht, sizes_app]; omega
   have hfl := layTs_len' (G.length + 1) (ks.take j)
   have hkp := kidT_len (G.length + 1) (ks.take j)
   rw [List.length_take, Nat.min_eq_left hj] at hkp
   have hL : (G ++ [Z] ++ (layTs (G.length + 1) (ks.take j)).map av).length = G.length + 1 + Tr.sizes (ks.take j) := by simp [hfl]; omega
   have C := ih ks[j] (List.getElem_mem hlt) (G ++ [Z] ++ (layTs (G.length + 1) (ks.take j)).map av) (.row 90 a (G.length + 1 + Tr.sizes (ks.take j))) [(90, ⟨a, false, 45, 6, G ++ [Z] ++ (layTs (G.length + 1) (ks.take j)).map av⟩)] (.inr ⟨a, by rw [hL], rfl⟩) (by rw [hL]; omega)
   rw [hL] at C
   have hsn : G ++ [Z] ++ (layTs (G.length + 1) (ks.take (j + 1))).map av = G ++ [Z] ++ (layTs (G.length + 1) (ks.take j)).map av ++ (layT (G.length + 1 + Tr.sizes (ks.take j)) ks[j]).map av := by rw [ht, layTs_snoc, List.map_append, List.append_assoc, List.append_assoc, List.append_assoc]
   have hks : (kidT (G.length + 1) (ks.take (j + 1))).map (av : Int → AV) = (kidT (G.length + 1) (ks.take j)).map av ++ [.int .i64 ((G.length : Int) + 1 + (Tr.sizes (ks.take j) : Int))] := by rw [ht, kidT_snoc, List.map_append]; rfl
   have hkm : ((kidT (G.length + 1) (ks.take j)).map (av : Int → AV)).length = j := by rw [List.length_map, hkp]
   have hkt : List.take j ((kidT (G.length + 1) (ks.take j)).map (av : Int → AV)) = (kidT (G.length + 1) (ks.take j)).map av := List.take_of_length_le (by rw [hkm]; exact Nat.le_refl _)
   have hYl := layT_len ks[j] (G.length + 1 + Tr.sizes (ks.take j))
   generalize (kidT (G.length + 1) (ks.take j)).map (av : Int → AV) = KP at *
   generalize (layT (G.length + 1 + Tr.sizes (ks.take j)) ks[j]) = Y at *
   generalize G ++ [Z] ++ (layTs (G.length + 1) (ks.take j)).map av = Q at *
   generalize Tr.sizes (ks.take j) = N at *
   generalize ks[j] = k at *
   have hQY : (Q ++ Y.map av).length = G.length + 1 + N + k.size := by rw [List.length_append, List.length_map, hL, hYl]
   generalize Q ++ Y.map av = QY at *
   have hQYn : ¬ QY = [] := fun h => by rw [h] at hQY; simp only [List.length_nil] at hQY; omega
   simp +contextual -dsimp (maxSteps := 2000000) only [↓SD, SU, SB, simprocAttr, hlt, hml, e1, sub_len, sub_agg, sub_pur, sub_purA, sub_ok, hkm, hkt, false_and]
   refine ⟨⟨by omega, by unfold maxLen; omega⟩, fun u' => ?_⟩
   refine aCallH_of [90] C (by simp +contextual -dsimp only [↓SD, SU, SB, simprocAttr]) ?_
   rintro r hp' (⟨h, _, _⟩ | ⟨w, rfl, rfl⟩)
   ·exact absurd h hQYn
   rw [hQY]
   simp +contextual -dsimp (maxSteps := 2000000) only [↓SD, SU, SB, simprocAttr]
   exact ⟨by omega, Goes.le ⟨⟨j + 1, w, u'⟩, ⟨hlt, (by first | omega | (simp only; omega))⟩, rfl⟩ (by simp +contextual -dsimp only [↓SD, SU, SB, simprocAttr, Int.natCast_add, hpx]) (by simp +contextual -dsimp only [↓SD, SU, SB, simprocAttr, hsn, hks, Int.natCast_add])⟩
  ·obtain rfl : j = ks.length := by omega
   rw [List.take_length]
   have hkp := kidT_len (G.length + 1) ks
   have hfl := layTs_len' (G.length + 1) ks
   have hfx : layT G.length (.mk n ks) = { n with kids := kidT (G.length + 1) ks } :: layTs (G.length + 1) ks := by rw [layT]
   have hL : (G ++ [Z] ++ (layTs (G.length + 1) ks).map av).length = G.length + 1 + Tr.sizes ks := by simp [hfl]; omega
   have hG : (G ++ [Z] ++ (layTs (G.length + 1) ks).map av).getD G.length .top = Z := by simp [List.getD_eq_getElem?_getD]
   have hS : (G ++ [Z] ++ (layTs (G.length + 1) ks).map av).set G.length (.agg [.int .i64 n.kind, .int .i64 n.pos, .int .i64 n.n, .str n.s, .sl ((kidT (G.length + 1) ks).map av), .sl (n.pats.map av)]) = G ++ (layT G.length (.mk n ks)).map av := by
    rw [hfx, List.map_cons, av_Node]; simp [List.set_append]
   have hFl : (G ++ (layT G.length (.mk n ks)).map (av : Node → AV)).length = G.length + 1 + Tr.sizes ks := by rw [List.length_append, List.length_map, layT_len, ec]; omega
   have hFn : ¬ G ++ (layT G.length (.mk n ks)).map (av : Node → AV) = [] := fun h => by rw [h] at hFl; simp only [List.length_nil] at hFl; omega
   generalize G ++ (layT G.length (.mk n ks)).map av = F at *
   generalize G ++ [Z] ++ (layTs (G.length + 1) ks).map av = Q at *
   rw [hZ] at hG
   have hkm : ((kidT (G.length + 1) ks).map (av : Int → AV)).length = ks.length := by rw [List.length_map, hkp]
   have hkt : List.take ks.length ((kidT (G.length + 1) ks).map (av : Int → AV)) = (kidT (G.length + 1) ks).map av := List.take_of_length_le (by rw [hkm]; exact Nat.le_refl _)
   have hkq : ∀ hp, ((kidT (G.length + 1) ks).map (av : Int → AV)).map (AV.pur hp) = (kidT (G.length + 1) ks).map av := fun hp => map_nop _ hp
   generalize (kidT (G.length + 1) ks).map (av : Int → AV) = KP at *
   have hlt2 : (G.length : Int) < (G.length : Int) + 1 + (Tr.sizes ks : Int) := by omega
   have hlt3 : G.length < G.length + 1 + Tr.sizes ks := by omega
   simp +contextual -dsimp (maxSteps := 2000000) only [↓SD, SU, SB, simprocAttr, Nat.lt_irrefl]
   refine ghost_of (Goes.frz 28 (Goes.purB 6 (b := ⟨v6, false, 45, 6, [.agg [.int .i64 n.kind, .int .i64 n.pos, .int .i64 n.n, .str n.s, .row 28 b ks.length, .sl (n.pats.map av)]]⟩) rfl (Goes.here ?_)))
   simp +contextual -dsimp (maxSteps := 2000000) only [↓SD, SU, SB, simprocAttr, hkq, hkm, hkt, Nat.le_refl, hL, hG, hS, hlt2, hlt3]
   refine Goes.post [(90, ⟨a, false, 45, 6, F⟩)] ?_
   simp +contextual -dsimp (maxSteps := 2000000) only [↓SD, SU, SB, simprocAttr, false_and]
   exact .inr ⟨a, by rw [hFl], rfl⟩
theorem l03LayF_ok (t : Tr) (hb : t.size ≤ 1048576) : CallsF Tryz.prog 47 [.nils, av (Sub.mk t)] (.sl ((layT 0 t).map av)) := by
 have C := l03Lay_ok t [] .nils [] (.inl ⟨rfl, rfl, rfl⟩) (by simpa using hb)
 rw [List.nil_append, List.length_nil] at C
 refine callsF_frz C (by simp; exact ⟨AvPure.nils, AVal.clean _⟩) (lav_clean _) ?_
 rintro r hp' (⟨h, _, _⟩ | ⟨v, rfl, rfl⟩)
 ·have := layT_len t 0
  have h2 := size_pos t
  rw [List.map_eq_nil_iff] at h
  rw [h] at this
  simp only [List.length_nil] at this
  omega
 ·have hm : ∀ hp, ((layT 0 t).map (av : Node → AV)).map (AV.pur hp) = (layT 0 t).map av := fun hp => map_nop _ hp
  generalize (layT 0 t).map (av : Node → AV) = L at *
  simp [frzAll, hnames, frzL_cons, frzL_nil, hfrz, hget, AV.pur, AV.pur1, hm]
structure TwS where
 k : Nat
 u : Nat
structure TvS where
 j : Nat
 u : Nat
 w : Nat
set_option maxHeartbeats 4000000 in
theorem l15Types_ok (l : List TypeD) (hx : Bulk.bulk l ≤ 1048576) : CallsF Tryz.prog 46 [.sl (l.map av)] (.sl (l.map av)) := by
 have hl := bulk_length l
 refine fun_spec_l15Types rfl (by simp; exact lav_clean l) (lav_clean l) ?_
 simp +contextual -dsimp (maxSteps := 2000000) only [↓SD, SU, SB, simprocAttr, ir_spec_l15Types, rs_spec_l15Types, map_len]
 intro v9
 refine aLoop_of (X := TwS) (fun x => ⟨[(3, .row 9 x.u x.k), (10, .sl (l.map av)), (11, .int .i64 l.length), (12, .int .i64 x.k)], [(9, ⟨x.u, false, 72, 3, (l.take x.k).map av⟩)]⟩) (fun x => x.k ≤ l.length) (fun x => l.length - x.k) ⟨0, v9⟩ (Nat.zero_le _) (by simp +contextual -dsimp only [↓SD, SU, SB, simprocAttr]) (by simp +contextual -dsimp only [↓SD, SU, SB, simprocAttr, List.take_zero, List.map_nil]) ?_
 rintro ⟨k, u⟩ hk
 dsimp only at hk ⊢
 by_cases hlt : k < l.length
 ·have e := getD_map av l k .top hlt
  have hm := bulk_mem (List.getElem_mem hlt)
  have ht : (l.take (k + 1)).map (av : TypeD → AV) = (l.take k).map av ++ [av l[k]] := by rw [List.take_succ_eq_append_getElem hlt, List.map_append]; rfl
  have hkl : ((l.take k).map (av : TypeD → AV)).length = k := by simp; omega
  generalize (l.take k).map (av : TypeD → AV) = T at *
  have hTt : List.take k T = T := List.take_of_length_le (by omega)
  generalize l[k] = t at *
  have hbt : Bulk.bulk t = Bulk.bulk t.name + Bulk.bulk t.params + Bulk.bulk t.cons + 1 := rfl
  have hcl := bulk_length t.cons
  rw [av_TypeD] at e ht
  simp +contextual -dsimp (maxSteps := 2000000) only [↓SD, SU, SB, simprocAttr, map_len, hlt, e]
  intro v5 v16
  refine aLoop_of (X := TvS) (fun x => ⟨[(3, .row 9 u k), (5, .ptr 5 v5 0 0), (6, .row 16 x.u x.j), (10, .sl (l.map av)), (11, .int .i64 l.length), (12, .int .i64 k), (18, .sl (t.cons.map av)), (19, .int .i64 t.cons.length), (20, .int .i64 x.j)], [(9, ⟨u, false, 72, 3, T⟩), (5, ⟨v5, false, 72, 3, [.agg [.str t.name, .int .i64 t.params, .sl (t.cons.map av)]]⟩), (16, ⟨x.u, false, 78, 3, (t.cons.take x.j).map av⟩)]⟩) (fun x => x.j ≤ t.cons.length) (fun x => t.cons.length - x.j) ⟨0, v16, 0⟩ (Nat.zero_le _) (by simp +contextual -dsimp only [↓SD, SU, SB, simprocAttr]) (by simp +contextual -dsimp only [↓SD, SU, SB, simprocAttr, List.take_zero, List.map_nil]) ?_
  rintro ⟨j, w, _⟩ hj
  dsimp only at hj ⊢
  by_cases hlj : j < t.cons.length
  ·have e2 := getD_map av t.cons j .top hlj
   have hmj := bulk_mem (List.getElem_mem hlj)
   have ht2 : (t.cons.take (j + 1)).map (av : Con → AV) = (t.cons.take j).map av ++ [av t.cons[j]] := by rw [List.take_succ_eq_append_getElem hlj, List.map_append]; rfl
   have hjl : ((t.cons.take j).map (av : Con → AV)).length = j := by simp; omega
   generalize (t.cons.take j).map (av : Con → AV) = V at *
   have hVt : List.take j V = V := List.take_of_length_le (by omega)
   generalize t.cons[j] = c at *
   have hb1 : Bulk.bulk c = Bulk.bulk c.name + Bulk.bulk c.has + Bulk.bulk c.arg + 1 := rfl
   have hb2 : Bulk.bulk c.arg = Bulk.bulk c.arg.items + 1 := rfl
   have hl1 := bulk_length c.arg.items
   have hic : ∀ x ∈ c.arg.items.map (av : TyItem → AV), x.cells.length = 3 := fun x hx => by obtain ⟨y, _, rfl⟩ := List.mem_map.1 hx; exact AVal.len y
   have him : ∀ hp, (c.arg.items.map (av : TyItem → AV)).map (AV.pur hp) = c.arg.items.map av := fun hp => map_nop _ hp
   have hit : List.take c.arg.items.length (c.arg.items.map (av : TyItem → AV)) = c.arg.items.map av := List.take_of_length_le (by simp)
   rw [av_Con] at e2 ht2
   simp +contextual -dsimp (maxSteps := 2000000) only [↓SD, SU, SB, simprocAttr, map_len, hlj, e2, him, hit, hjl, hVt]
   intro v8 v24
   refine ⟨⟨hic, by omega, by unfold maxLen; omega⟩, fun v28 => ?_⟩
   refine ⟨⟨by omega, by unfold maxLen; omega⟩, fun w' => ⟨by omega, Goes.le ⟨⟨j + 1, w', 0⟩, ⟨hlj, (by first | omega | (simp only; omega))⟩, rfl⟩ (by simp +contextual -dsimp only [↓SD, SU, SB, simprocAttr, Int.natCast_add]) (by simp +contextual -dsimp only [↓SD, SU, SB, simprocAttr, ht2])⟩⟩
  ·obtain rfl : j = t.cons.length := by omega
   rw [List.take_length]
   have hcm : ∀ hp, (t.cons.map (av : Con → AV)).map (AV.pur hp) = t.cons.map av := fun hp => map_nop _ hp
   have hct : List.take t.cons.length (t.cons.map (av : Con → AV)) = t.cons.map av := List.take_of_length_le (by simp)
   simp +contextual -dsimp (maxSteps := 2000000) only [↓SD, SU, SB, simprocAttr, Nat.lt_irrefl]
   refine ghost_of (Goes.frz 16 (Goes.pur 6 (Goes.here ?_)))
   simp +contextual -dsimp (maxSteps := 2000000) only [↓SD, SU, SB, simprocAttr, hcm, hct, map_len, Nat.le_refl, hkl, hTt]
   refine ⟨⟨by omega, by unfold maxLen; omega⟩, fun u' => ⟨by omega, Goes.le ⟨⟨k + 1, u'⟩, ⟨hlt, (by first | omega | (simp only; omega))⟩, rfl⟩ (by simp +contextual -dsimp only [↓SD, SU, SB, simprocAttr, Int.natCast_add]) (by simp +contextual -dsimp only [↓SD, SU, SB, simprocAttr, ht])⟩⟩
 ·obtain rfl : k = l.length := by omega
  rw [List.take_length]
  have hcm : ∀ hp, (l.map (av : TypeD → AV)).map (AV.pur hp) = l.map av := fun hp => map_nop _ hp
  have hct : List.take l.length (l.map (av : TypeD → AV)) = l.map av := List.take_of_length_le (by simp)
  simp +contextual -dsimp (maxSteps := 2000000) only [↓SD, SU, SB, simprocAttr, Nat.lt_irrefl, hcm, hct, map_len, Nat.le_refl]
end Go.Proofs.YtmlckdffkbbbhaaGreat
