/-
  Occurs, FreeIn, Atom OF THE REFERENCE, by abstract texts. Conditions: none.
-/
import Derived.Test.YtpomnlejlgojaaaGreatOccC
set_option linter.unusedVariables false
set_option linter.unusedSimpArgs false
set_option maxRecDepth 100000
namespace Go.Proofs.YtpomnlejlgojaaaGreat
open Go.RowKit Go.Proofs.YtpomnlejlgojaaaGreat.Av Go.Proofs.YtpomnlejlgojaaaGreat.Ml
open Go.Proofs.YtpomnlejlgojaaaGreat.Av.AVal (av)

theorem sub_ok (t : Sub) : (av t).ok = true := AVal.ok t
theorem elem1_ok (x : AV) (h : x.ok = true) (F : Nat → AV) (esz i : Nat) (es : List AV) (ps : List (Nat × IArg)) (k : List AV → Prop) : aElem1 x F esz i es ps k = ((x.cells.length = esz ∧ i < es.length) ∧ aElemsK F esz (es.set i x) ps k) := by simp [aElem1, h]
theorem l09Sub_ok (p : Program) (hk : ∀ i, i < p.nodes.length → ∀ k ∈ nkids p.nodes i, (i : Int) < k ∧ k < p.nodes.length) (hx : Bulk.bulk p.nodes ≤ 1048576) : ∀ (f i : Nat), i < p.nodes.length → p.nodes.length - i ≤ f → CallsF Tryz.prog 59 [av p, .int .i64 i] (av (Sub.mk (growT p.nodes f i))) := by
  intro f
  induction f with
  | zero => intro i hi hf; omega
  | succ f ih =>
    intro i hi hf
    have hl := bulk_length p.nodes
    have e := getD_map av p.nodes i .top hi
    have em := List.getElem_mem hi
    obtain ⟨b1, b2, b3, b4⟩ := node_small hx em
    have hK : nkids p.nodes i = p.nodes[i].kids := by simp [nkids, hi]
    have hg : growT p.nodes (f + 1) i = .mk p.nodes[i] (p.nodes[i].kids.map fun k => growT p.nodes f k.toNat) := by rw [growT, hK]; simp [hi]
    have hks := hk i hi
    rw [hK] at hks
    have hpl := bulk_length p.nodes[i].pats
    refine fun_spec_l09Sub rfl (by simp; exact ⟨AVal.clean p, pint _⟩) (AVal.clean _) ?_
    rw [hg]
    clear hg hK
    generalize p.nodes[i] = n at *
    simp +contextual -dsimp (maxSteps := 2000000) only [↓SD, SU, SB, Nat.reduceAdd, Nat.reduceBEq, Nat.reduceEqDiff, Nat.reduceLeDiff, Nat.reduceLT, Nat.reduceSub, ↓reduceIte, forall_const, implies_true, ne_eq, reduceCtorEq, Int.reduceToNat, forall_eq, ir_spec_l09Sub, rs_spec_l09Sub, map_len, hi, e, av_Node, av_Program]
    intro v4 v5 v6
    refine aLoop_goes (X := Nat × Nat) (fun x => ⟨[(2, .obj [.sl (p.types.map av), .sl (p.nodes.map av)]), (4, .ptr 4 v4 0 0), (5, .ptr 5 v5 0 0), (6, .ptr 6 v6 0 0), (24, .sl (n.pats.map av)), (25, .int .i64 n.pats.length), (26, .int .i64 x.1)], [(4, ⟨v4, false, 75, 7, [.agg [.int .i64 0, .int .i64 0, .int .i64 0, .str (bs []), .nils, .nils, .nils]]⟩), (5, ⟨v5, false, 56, 6, [.agg [.int .i64 n.kind, .int .i64 n.pos, .int .i64 n.n, .str n.s, .sl (n.kids.map av), .sl (n.pats.map av)]]⟩), (6, ⟨v6, false, 75, 7, [.agg [.int .i64 n.kind, .int .i64 n.pos, .int .i64 n.n, .str n.s, .sl (n.kids.map av), .row 54 x.2 x.1, .nils]]⟩), (54, ⟨x.2, false, 68, 1, (n.pats.take x.1).map av⟩)]⟩) (fun x => x.1 ≤ n.pats.length) (fun x => n.pats.length - x.1) (Goes.adoptB 6 0 5 54 68 1 rfl rfl Nat.zero_lt_one rfl (by decide) (fun v => Goes.le ⟨(0, v), Nat.zero_le _, rfl⟩ (by simp +contextual -dsimp (maxSteps := 2000000) only [↓SD, SU, SB, Nat.reduceAdd, Nat.reduceBEq, Nat.reduceEqDiff, Nat.reduceLeDiff, Nat.reduceLT, Nat.reduceSub, ↓reduceIte, forall_const, implies_true, ne_eq, reduceCtorEq, Int.reduceToNat, forall_eq]) (by simp +contextual -dsimp (maxSteps := 2000000) only [↓SD, SU, SB, Nat.reduceAdd, Nat.reduceBEq, Nat.reduceEqDiff, Nat.reduceLeDiff, Nat.reduceLT, Nat.reduceSub, ↓reduceIte, forall_const, implies_true, ne_eq, reduceCtorEq, Int.reduceToNat, forall_eq]))) ?_
    rintro ⟨k, u⟩ hk1
    simp only at hk1
    by_cases hlt : k < n.pats.length
    · have e2 := getD_map av n.pats k .top hlt
      have hm := bulk_mem (List.getElem_mem hlt)
      have ht : n.pats.take (k + 1) = n.pats.take k ++ [n.pats[k]] := List.take_succ_eq_append_getElem hlt
      have hk2 : (n.pats.take k).length = k := by simp; omega
      have ht2 : List.take k ((n.pats.take k).map av) = (n.pats.take k).map av := List.take_of_length_le (by simp; omega)
      generalize n.pats[k] = q at *
      have hql := bulk_length q.nodes
      have hqb : Bulk.bulk q = Bulk.bulk q.nodes + 1 := rfl
      simp +contextual -dsimp (maxSteps := 2000000) only [↓SD, SU, SB, Nat.reduceAdd, Nat.reduceBEq, Nat.reduceEqDiff, Nat.reduceLeDiff, Nat.reduceLT, Nat.reduceSub, ↓reduceIte, forall_const, implies_true, ne_eq, reduceCtorEq, Int.reduceToNat, forall_eq, map_len, hlt, e2, av_Pat]
      intro v8 v30
      refine aLoop_of (X := Nat × Nat) (fun y => ⟨[(2, .obj [.sl (p.types.map av), .sl (p.nodes.map av)]), (4, .ptr 4 v4 0 0), (5, .ptr 5 v5 0 0), (6, .ptr 6 v6 0 0), (9, .row 30 y.2 y.1), (24, .sl (n.pats.map av)), (25, .int .i64 n.pats.length), (26, .int .i64 k), (32, .sl (q.nodes.map av)), (33, .int .i64 q.nodes.length), (34, .int .i64 y.1)], [(4, ⟨v4, false, 75, 7, [.agg [.int .i64 0, .int .i64 0, .int .i64 0, .str (bs []), .nils, .nils, .nils]]⟩), (5, ⟨v5, false, 56, 6, [.agg [.int .i64 n.kind, .int .i64 n.pos, .int .i64 n.n, .str n.s, .sl (n.kids.map av), .sl (n.pats.map av)]]⟩), (6, ⟨v6, false, 75, 7, [.agg [.int .i64 n.kind, .int .i64 n.pos, .int .i64 n.n, .str n.s, .sl (n.kids.map av), .row 54 u k, .nils]]⟩), (54, ⟨u, false, 68, 1, (n.pats.take k).map av⟩), (30, ⟨y.2, false, 70, 4, (q.nodes.take y.1).map av⟩)]⟩) (fun y => y.1 ≤ q.nodes.length) (fun y => q.nodes.length - y.1) (0, v30) (Nat.zero_le _) (by simp +contextual -dsimp (maxSteps := 2000000) only [↓SD, SU, SB, Nat.reduceAdd, Nat.reduceBEq, Nat.reduceEqDiff, Nat.reduceLeDiff, Nat.reduceLT, Nat.reduceSub, ↓reduceIte, forall_const, implies_true, ne_eq, reduceCtorEq, Int.reduceToNat, forall_eq]) (by simp +contextual -dsimp (maxSteps := 2000000) only [↓SD, SU, SB, Nat.reduceAdd, Nat.reduceBEq, Nat.reduceEqDiff, Nat.reduceLeDiff, Nat.reduceLT, Nat.reduceSub, ↓reduceIte, forall_const, implies_true, ne_eq, reduceCtorEq, Int.reduceToNat, forall_eq]) ?_
      rintro ⟨j, u2⟩ hj
      simp only at hj
      by_cases hlj : j < q.nodes.length
      · have e3 := getD_map av q.nodes j .top hlj
        have hm3 := bulk_mem (List.getElem_mem hlj)
        have ht3 : q.nodes.take (j + 1) = q.nodes.take j ++ [q.nodes[j]] := List.take_succ_eq_append_getElem hlj
        have hk3 : (q.nodes.take j).length = j := by simp; omega
        have ht4 : List.take j ((q.nodes.take j).map av) = (q.nodes.take j).map av := List.take_of_length_le (by simp; omega)
        generalize q.nodes[j] = a at *
        have hb1 : Bulk.bulk a = Bulk.bulk a.kind + Bulk.bulk a.n + Bulk.bulk a.s + Bulk.bulk a.kids + 1 := rfl
        have hl1 := bulk_length a.kids
        have hint : ∀ y ∈ a.kids.map (av : Int → AV), y.cells.length = 1 := fun y hy => by obtain ⟨x, _, rfl⟩ := List.mem_map.1 hy; rfl
        have hnp : (a.kids.map (av : Int → AV)).map (AV.pur []) = a.kids.map av := map_nop _ _
        simp +contextual -dsimp (maxSteps := 2000000) only [↓SD, SU, SB, Nat.reduceAdd, Nat.reduceBEq, Nat.reduceEqDiff, Nat.reduceLeDiff, Nat.reduceLT, Nat.reduceSub, ↓reduceIte, forall_const, implies_true, ne_eq, reduceCtorEq, Int.reduceToNat, forall_eq, map_len, hlj, e3, av_PNode, map_nop]
        intro v11 v38
        refine ⟨⟨hint, by omega, by unfold maxLen; omega⟩, fun v38' => ghost_of (Goes.frz 38 (Goes.here ?_))⟩
        simp +contextual -dsimp (maxSteps := 2000000) only [↓SD, SU, SB, Nat.reduceAdd, Nat.reduceBEq, Nat.reduceEqDiff, Nat.reduceLeDiff, Nat.reduceLT, Nat.reduceSub, ↓reduceIte, forall_const, implies_true, ne_eq, reduceCtorEq, Int.reduceToNat, forall_eq, map_len, hlj, e3, av_PNode, map_nop, hk3, ht4, take_map, List.take_length]
        refine ⟨⟨by omega, by unfold maxLen; omega⟩, fun u' => ⟨by omega, Goes.le ⟨(j + 1, u'), ⟨hlj, (by first | omega | (simp only; omega))⟩, rfl⟩ (by simp +contextual -dsimp (maxSteps := 2000000) only [↓SD, SU, SB, Nat.reduceAdd, Nat.reduceBEq, Nat.reduceEqDiff, Nat.reduceLeDiff, Nat.reduceLT, Nat.reduceSub, ↓reduceIte, forall_const, implies_true, ne_eq, reduceCtorEq, Int.reduceToNat, forall_eq, Int.natCast_add]) (by simp +contextual -dsimp (maxSteps := 2000000) only [↓SD, SU, SB, Nat.reduceAdd, Nat.reduceBEq, Nat.reduceEqDiff, Nat.reduceLeDiff, Nat.reduceLT, Nat.reduceSub, ↓reduceIte, forall_const, implies_true, ne_eq, reduceCtorEq, Int.reduceToNat, forall_eq, ht3, List.map_append, av_PNode])⟩⟩
      · obtain rfl : j = q.nodes.length := by omega
        simp +contextual -dsimp (maxSteps := 2000000) only [↓SD, SU, SB, Nat.reduceAdd, Nat.reduceBEq, Nat.reduceEqDiff, Nat.reduceLeDiff, Nat.reduceLT, Nat.reduceSub, ↓reduceIte, forall_const, implies_true, ne_eq, reduceCtorEq, Int.reduceToNat, forall_eq, map_len, Nat.lt_irrefl, List.take_length]
        refine ghost_of (Goes.frz 30 (Goes.here ?_))
        simp +contextual -dsimp (maxSteps := 2000000) only [↓SD, SU, SB, Nat.reduceAdd, Nat.reduceBEq, Nat.reduceEqDiff, Nat.reduceLeDiff, Nat.reduceLT, Nat.reduceSub, ↓reduceIte, forall_const, implies_true, ne_eq, reduceCtorEq, Int.reduceToNat, forall_eq, map_len, map_nop, hk2, ht2, take_map, List.take_length]
        refine ⟨⟨by omega, by unfold maxLen; omega⟩, fun u' => ⟨by omega, Goes.le ⟨(k + 1, u'), ⟨hlt, (by first | omega | (simp only; omega))⟩, rfl⟩ (by simp +contextual -dsimp (maxSteps := 2000000) only [↓SD, SU, SB, Nat.reduceAdd, Nat.reduceBEq, Nat.reduceEqDiff, Nat.reduceLeDiff, Nat.reduceLT, Nat.reduceSub, ↓reduceIte, forall_const, implies_true, ne_eq, reduceCtorEq, Int.reduceToNat, forall_eq, Int.natCast_add]) (by simp +contextual -dsimp (maxSteps := 2000000) only [↓SD, SU, SB, Nat.reduceAdd, Nat.reduceBEq, Nat.reduceEqDiff, Nat.reduceLeDiff, Nat.reduceLT, Nat.reduceSub, ↓reduceIte, forall_const, implies_true, ne_eq, reduceCtorEq, Int.reduceToNat, forall_eq, ht, List.map_append, av_Pat])⟩⟩
    · obtain rfl : k = n.pats.length := by omega
      simp +contextual -dsimp (maxSteps := 2000000) only [↓SD, SU, SB, Nat.reduceAdd, Nat.reduceBEq, Nat.reduceEqDiff, Nat.reduceLeDiff, Nat.reduceLT, Nat.reduceSub, ↓reduceIte, forall_const, implies_true, ne_eq, reduceCtorEq, Int.reduceToNat, forall_eq, map_len, Nat.lt_irrefl, List.take_length]
      refine aLoop_goes (X := Nat × Nat) (fun x => ⟨[(2, .obj [.sl (p.types.map av), .sl (p.nodes.map av)]), (4, .ptr 4 v4 0 0), (6, .ptr 6 v6 0 0), (59, .sl (n.kids.map av)), (60, .int .i64 n.kids.length), (61, .int .i64 x.1)], [(4, ⟨v4, false, 75, 7, [.agg [.int .i64 0, .int .i64 0, .int .i64 0, .str (bs []), .nils, .nils, .nils]]⟩), (6, ⟨v6, false, 75, 7, [.agg [.int .i64 n.kind, .int .i64 n.pos, .int .i64 n.n, .str n.s, .sl (n.kids.map av), .row 54 u n.pats.length, .row 71 x.2 x.1]]⟩), (54, ⟨u, false, 68, 1, n.pats.map av⟩), (71, ⟨x.2, false, 75, 7, ((n.kids.take x.1).map fun k => Sub.mk (growT p.nodes f k.toNat)).map av⟩)]⟩) (fun x => x.1 ≤ n.kids.length) (fun x => n.kids.length - x.1) (Goes.adoptB 6 0 6 71 75 7 rfl rfl Nat.zero_lt_one rfl (by decide) (fun v => Goes.le ⟨(0, v), Nat.zero_le _, rfl⟩ (by simp +contextual -dsimp (maxSteps := 2000000) only [↓SD, SU, SB, Nat.reduceAdd, Nat.reduceBEq, Nat.reduceEqDiff, Nat.reduceLeDiff, Nat.reduceLT, Nat.reduceSub, ↓reduceIte, forall_const, implies_true, ne_eq, reduceCtorEq, Int.reduceToNat, forall_eq]) (by simp +contextual -dsimp (maxSteps := 2000000) only [↓SD, SU, SB, Nat.reduceAdd, Nat.reduceBEq, Nat.reduceEqDiff, Nat.reduceLeDiff, Nat.reduceLT, Nat.reduceSub, ↓reduceIte, forall_const, implies_true, ne_eq, reduceCtorEq, Int.reduceToNat, forall_eq]))) ?_
      rintro ⟨j, u2⟩ hj
      simp only at hj
      by_cases hlt : j < n.kids.length
      · have e2 := getD_map av n.kids j .top hlt
        have hkj := hks _ (List.getElem_mem hlt)
        have ht : n.kids.take (j + 1) = n.kids.take j ++ [n.kids[j]] := List.take_succ_eq_append_getElem hlt
        obtain ⟨m, hm⟩ : ∃ m : Nat, n.kids[j] = m := ⟨n.kids[j].toNat, by omega⟩
        rw [hm] at e2 hkj ht
        have C2 := ih m (by omega) (by omega)
        rw [av_Program] at C2
        have hk2 : (n.kids.take j).length = j := by simp; omega
        have ht2 : List.take j (((n.kids.take j).map fun k => Sub.mk (growT p.nodes f k.toNat)).map av) = ((n.kids.take j).map fun k => Sub.mk (growT p.nodes f k.toNat)).map av := List.take_of_length_le (by simp; omega)
        simp +contextual -dsimp (maxSteps := 2000000) only [↓SD, SU, SB, Nat.reduceAdd, Nat.reduceBEq, Nat.reduceEqDiff, Nat.reduceLeDiff, Nat.reduceLT, Nat.reduceSub, ↓reduceIte, forall_const, implies_true, ne_eq, reduceCtorEq, Int.reduceToNat, forall_eq, map_len, hlt, e2, av_int]
        refine aCallK_of _ C2 ?_
        simp +contextual -dsimp (maxSteps := 2000000) only [↓SD, SU, SB, Nat.reduceAdd, Nat.reduceBEq, Nat.reduceEqDiff, Nat.reduceLeDiff, Nat.reduceLT, Nat.reduceSub, ↓reduceIte, forall_const, implies_true, ne_eq, reduceCtorEq, Int.reduceToNat, forall_eq, map_len, hlt, elem1_ok, sub_len, sub_pur, sub_ok, hk2, ht2, map_nop]
        refine ⟨⟨by omega, by unfold maxLen; omega⟩, fun u' => ⟨by omega, Goes.le ⟨(j + 1, u'), ⟨hlt, (by first | omega | (simp only; omega))⟩, rfl⟩ (by simp +contextual -dsimp (maxSteps := 2000000) only [↓SD, SU, SB, Nat.reduceAdd, Nat.reduceBEq, Nat.reduceEqDiff, Nat.reduceLeDiff, Nat.reduceLT, Nat.reduceSub, ↓reduceIte, forall_const, implies_true, ne_eq, reduceCtorEq, Int.reduceToNat, forall_eq, Int.natCast_add]) (by simp +contextual -dsimp (maxSteps := 2000000) only [↓SD, SU, SB, Nat.reduceAdd, Nat.reduceBEq, Nat.reduceEqDiff, Nat.reduceLeDiff, Nat.reduceLT, Nat.reduceSub, ↓reduceIte, forall_const, implies_true, ne_eq, reduceCtorEq, Int.reduceToNat, forall_eq, ht, List.map_append, Int.toNat_natCast])⟩⟩
      · obtain rfl : j = n.kids.length := by omega
        simp +contextual -dsimp (maxSteps := 2000000) only [↓SD, SU, SB, Nat.reduceAdd, Nat.reduceBEq, Nat.reduceEqDiff, Nat.reduceLeDiff, Nat.reduceLT, Nat.reduceSub, ↓reduceIte, forall_const, implies_true, ne_eq, reduceCtorEq, Int.reduceToNat, forall_eq, map_len, Nat.lt_irrefl, map_nop, List.take_length, take_map]
        rw [av_Sub, List.take_of_length_le (by simp), List.map_map, List.map_map, List.map_map]; rfl

theorem l09Free_ok (p : Program) (s : ByteArray) (hk : ∀ i, i < p.nodes.length → ∀ k ∈ nkids p.nodes i, (i : Int) < k ∧ k < p.nodes.length) (hn : ∀ n ∈ p.nodes, nodeT n n.kids.length) (hx : Bulk.bulk p.nodes ≤ 1048576) (hs : s.size ≤ 1048576) : ∀ (f i : Nat), i < p.nodes.length → p.nodes.length - i ≤ f → CallsF Tryz.prog 57 [av p, .int .i64 i, .str s] (.bool (decide (0 < cntT s (growT p.nodes f i)))) := by
  intro f
  induction f with
  | zero => intro i hi hf; omega
  | succ f ih =>
    intro i hi hf
    have hl := bulk_length p.nodes
    have e := getD_map av p.nodes i .top hi
    have em := List.getElem_mem hi
    obtain ⟨k3, k13, kb⟩ := hn _ em
    obtain ⟨b1, b2, b3, b4⟩ := node_small hx em
    have hK : nkids p.nodes i = p.nodes[i].kids := by simp [nkids, hi]
    have hg : growT p.nodes (f + 1) i = .mk p.nodes[i] (p.nodes[i].kids.map fun k => growT p.nodes f k.toNat) := by rw [growT, hK]; simp [hi]
    have hks := hk i hi
    rw [hK] at hks
    refine fun_spec_l09Free rfl (by simp; exact ⟨AVal.clean p, pint _, AvPure.str _⟩) (AvPure.bool _) ?_
    rw [hg]
    clear hg hK
    generalize p.nodes[i] = n at *
    by_cases h3 : n.kind = 3
    · simp +contextual -dsimp (maxSteps := 2000000) only [↓SD, SU, SB, Nat.reduceAdd, Nat.reduceBEq, Nat.reduceEqDiff, Nat.reduceLeDiff, Nat.reduceLT, Nat.reduceSub, ↓reduceIte, forall_const, implies_true, ne_eq, reduceCtorEq, Int.reduceToNat, forall_eq, Int.reduceEq, Int.reduceLT, Int.reduceLE, Int.reduceNeg, Int.reduceAdd, Int.reduceSub, ir_spec_l09Free, rs_spec_l09Free, map_len, hi, e, av_Node, av_Program, h3]
      rw [cntT, if_pos h3]
      by_cases hn : n.s = s <;> simp [hn]
    · simp +contextual -dsimp (maxSteps := 2000000) only [↓SD, SU, SB, Nat.reduceAdd, Nat.reduceBEq, Nat.reduceEqDiff, Nat.reduceLeDiff, Nat.reduceLT, Nat.reduceSub, ↓reduceIte, forall_const, implies_true, ne_eq, reduceCtorEq, Int.reduceToNat, forall_eq, Int.reduceEq, Int.reduceLT, Int.reduceLE, Int.reduceNeg, Int.reduceAdd, Int.reduceSub, ir_spec_l09Free, rs_spec_l09Free, map_len, hi, e, av_Node, av_Program, h3]
      intro v7
      have hck : cntT s (.mk n (n.kids.map fun k => growT p.nodes f k.toNat)) = cntTs s n 0 ((n.kids.map fun k => growT p.nodes f k.toNat).drop 0) := by rw [cntT, if_neg h3, List.drop_zero]
      refine aLoop_of (X := Nat) (fun k => ⟨[(2, .str s), (3, .obj [.sl (p.types.map av), .sl (p.nodes.map av)]), (7, .ptr 7 v7 0 0), (24, .sl (n.kids.map av)), (25, .int .i64 n.kids.length), (26, .int .i64 k)], [(7, ⟨v7, false, 56, 6, [.agg [.int .i64 n.kind, .int .i64 n.pos, .int .i64 n.n, .str n.s, .sl (n.kids.map av), .sl (n.pats.map av)]]⟩)]⟩) (fun k => k ≤ n.kids.length ∧ cntT s (.mk n (n.kids.map fun k => growT p.nodes f k.toNat)) = cntTs s n k ((n.kids.map fun k => growT p.nodes f k.toNat).drop k)) (fun k => n.kids.length - k) 0 ⟨Nat.zero_le _, hck⟩ (by simp +contextual -dsimp (maxSteps := 2000000) only [↓SD, SU, SB, Nat.reduceAdd, Nat.reduceBEq, Nat.reduceEqDiff, Nat.reduceLeDiff, Nat.reduceLT, Nat.reduceSub, ↓reduceIte, forall_const, implies_true, ne_eq, reduceCtorEq, Int.reduceToNat, forall_eq]) (by simp +contextual -dsimp (maxSteps := 2000000) only [↓SD, SU, SB, Nat.reduceAdd, Nat.reduceBEq, Nat.reduceEqDiff, Nat.reduceLeDiff, Nat.reduceLT, Nat.reduceSub, ↓reduceIte, forall_const, implies_true, ne_eq, reduceCtorEq, Int.reduceToNat, forall_eq]) ?_
      clear hck
      rintro k ⟨hk1, hc⟩
      by_cases hlt : k < n.kids.length
      · have e2 := getD_map av n.kids k .top hlt
        have hkj := hks _ (List.getElem_mem hlt)
        obtain ⟨m, hm⟩ : ∃ m : Nat, n.kids[k] = m := ⟨n.kids[k].toNat, by omega⟩
        have hd : (n.kids.map fun k => growT p.nodes f k.toNat).drop k = growT p.nodes f m :: (n.kids.map fun k => growT p.nodes f k.toNat).drop (k + 1) := by rw [List.drop_eq_getElem_cons (by simpa using hlt), List.getElem_map, hm, Int.toNat_natCast]
        rw [hm] at e2 hkj
        have C2 := ih m (by omega) (by omega)
        have C1 : n.kind = 13 → ∀ j, k = j + 1 → ∃ (h : j < n.pats.length), boundB n (j + 1) s = hasName n.pats[j] s ∧ CallsF Tryz.prog 100 [av n.pats[j], .str s] (.bool (hasName n.pats[j] s)) := by
          rintro h13 j rfl
          have := k13 h13
          have hl2 : j < n.pats.length := by omega
          have hm2 := bulk_mem (List.getElem_mem hl2)
          exact ⟨hl2, by simp [boundB, h13, hl2], l09Binds_ok n.pats[j] s (by omega)⟩
        have K : n.kind = 5 ∨ n.kind = 8 ∨ n.kind = 7 ∨ n.kind = 15 ∨ (n.kind = 13 ∧ k = 0) ∨ (n.kind = 13 ∧ ∃ j, k = j + 1) ∨ (¬ n.kind = 5 ∧ ¬ n.kind = 8 ∧ ¬ n.kind = 7 ∧ ¬ n.kind = 15 ∧ ¬ n.kind = 13) := by
          by_cases h : n.kind = 13
          · rcases k with _ | j
            · simp [h]
            · simp [h]
          · omega
        rw [hd, cntTs] at hc
        rw [av_Program] at C2
        clear hd hm
        generalize growT p.nodes f m = t at *
        generalize Tr.mk n (n.kids.map fun k => growT p.nodes f k.toNat) = T at *
        have hC2 : boundB n k s = false → ∃ b, b = decide (0 < cntT s t) ∧ CallsF Tryz.prog 57 [.agg [.sl (p.types.map av), .sl (p.nodes.map av)], .int .i64 m, .str s] (.bool b) ∧ (b = true → decide (0 < cntT s T) = true) ∧ (b = false → cntT s T = cntTs s n (k + 1) ((n.kids.map fun k => growT p.nodes f k.toNat).drop (k + 1))) := by
          intro hb
          rw [hb, if_neg Bool.false_ne_true] at hc
          refine ⟨_, rfl, C2, fun h => ?_, fun h => ?_⟩
          · simp only [decide_eq_true_eq] at h ⊢; omega
          · simp only [decide_eq_false_iff_not] at h; rw [hc, show cntT s t = 0 by omega, Nat.zero_add]
        have hB : boundB n k s = true → cntT s T = cntTs s n (k + 1) ((n.kids.map fun k => growT p.nodes f k.toNat).drop (k + 1)) := by
          intro hb
          rw [hb, if_pos rfl, Nat.zero_add] at hc
          exact hc
        clear hc C2
        by_cases hbb : boundB n k s = true
        · replace hc := hB hbb
          clear hC2 hB
          rcases K with h5 | h5 | h5 | h5 | ⟨h5, rfl⟩ | ⟨h5, j, rfl⟩ | h5
          · simp [boundB, h5] at hbb
            simp +contextual -dsimp (maxSteps := 2000000) only [↓SD, SU, SB, Nat.reduceAdd, Nat.reduceBEq, Nat.reduceEqDiff, Nat.reduceLeDiff, Nat.reduceLT, Nat.reduceSub, ↓reduceIte, forall_const, implies_true, ne_eq, reduceCtorEq, Int.reduceToNat, forall_eq, Int.reduceEq, Int.reduceLT, Int.reduceLE, Int.reduceNeg, Int.reduceAdd, Int.reduceSub, map_len, hlt, e2, av_int, h5, hbb]
            refine ⟨by omega, ?_⟩; exact Goes.le ⟨k + 1, ⟨⟨hlt, hc⟩, (by first | omega | (simp only; omega))⟩, rfl⟩ (by simp +contextual -dsimp (maxSteps := 2000000) only [↓SD, SU, SB, Nat.reduceAdd, Nat.reduceBEq, Nat.reduceEqDiff, Nat.reduceLeDiff, Nat.reduceLT, Nat.reduceSub, ↓reduceIte, forall_const, implies_true, ne_eq, reduceCtorEq, Int.reduceToNat, forall_eq, Int.reduceEq, Int.reduceLT, Int.reduceLE, Int.reduceNeg, Int.reduceAdd, Int.reduceSub, Int.natCast_add]) (by simp +contextual -dsimp (maxSteps := 2000000) only [↓SD, SU, SB, Nat.reduceAdd, Nat.reduceBEq, Nat.reduceEqDiff, Nat.reduceLeDiff, Nat.reduceLT, Nat.reduceSub, ↓reduceIte, forall_const, implies_true, ne_eq, reduceCtorEq, Int.reduceToNat, forall_eq])
          · simp [boundB, h5] at hbb
            simp +contextual -dsimp (maxSteps := 2000000) only [↓SD, SU, SB, Nat.reduceAdd, Nat.reduceBEq, Nat.reduceEqDiff, Nat.reduceLeDiff, Nat.reduceLT, Nat.reduceSub, ↓reduceIte, forall_const, implies_true, ne_eq, reduceCtorEq, Int.reduceToNat, forall_eq, Int.reduceEq, Int.reduceLT, Int.reduceLE, Int.reduceNeg, Int.reduceAdd, Int.reduceSub, map_len, hlt, e2, av_int, h5, hbb]
            refine ⟨by omega, ?_⟩; exact Goes.le ⟨k + 1, ⟨⟨hlt, hc⟩, (by first | omega | (simp only; omega))⟩, rfl⟩ (by simp +contextual -dsimp (maxSteps := 2000000) only [↓SD, SU, SB, Nat.reduceAdd, Nat.reduceBEq, Nat.reduceEqDiff, Nat.reduceLeDiff, Nat.reduceLT, Nat.reduceSub, ↓reduceIte, forall_const, implies_true, ne_eq, reduceCtorEq, Int.reduceToNat, forall_eq, Int.reduceEq, Int.reduceLT, Int.reduceLE, Int.reduceNeg, Int.reduceAdd, Int.reduceSub, Int.natCast_add]) (by simp +contextual -dsimp (maxSteps := 2000000) only [↓SD, SU, SB, Nat.reduceAdd, Nat.reduceBEq, Nat.reduceEqDiff, Nat.reduceLeDiff, Nat.reduceLT, Nat.reduceSub, ↓reduceIte, forall_const, implies_true, ne_eq, reduceCtorEq, Int.reduceToNat, forall_eq])
          · simp [boundB, h5] at hbb
            obtain ⟨h1, hbb⟩ := hbb
            obtain rfl : k = 1 := by omega
            have hlt1 : (1 : Int) < n.kids.length := by omega
            simp +contextual -dsimp (maxSteps := 2000000) only [↓SD, SU, SB, Nat.reduceAdd, Nat.reduceBEq, Nat.reduceEqDiff, Nat.reduceLeDiff, Nat.reduceLT, Nat.reduceSub, ↓reduceIte, forall_const, implies_true, ne_eq, reduceCtorEq, Int.reduceToNat, forall_eq, Int.reduceEq, Int.reduceLT, Int.reduceLE, Int.reduceNeg, Int.reduceAdd, Int.reduceSub, map_len, hlt, hlt1, e2, av_int, h5, hbb, Int.natCast_one]
            exact Goes.le ⟨2, ⟨⟨hlt, hc⟩, (by first | omega | (simp only; omega))⟩, rfl⟩ (by simp +contextual -dsimp (maxSteps := 2000000) only [↓SD, SU, SB, Nat.reduceAdd, Nat.reduceBEq, Nat.reduceEqDiff, Nat.reduceLeDiff, Nat.reduceLT, Nat.reduceSub, ↓reduceIte, forall_const, implies_true, ne_eq, reduceCtorEq, Int.reduceToNat, forall_eq, Int.reduceEq, Int.reduceLT, Int.reduceLE, Int.reduceNeg, Int.reduceAdd, Int.reduceSub, Int.natCast_add]) (by simp +contextual -dsimp (maxSteps := 2000000) only [↓SD, SU, SB, Nat.reduceAdd, Nat.reduceBEq, Nat.reduceEqDiff, Nat.reduceLeDiff, Nat.reduceLT, Nat.reduceSub, ↓reduceIte, forall_const, implies_true, ne_eq, reduceCtorEq, Int.reduceToNat, forall_eq])
          · simp [boundB, h5] at hbb
            obtain ⟨h1, hbb⟩ := hbb
            obtain rfl : k = 1 := by omega
            have hlt1 : (1 : Int) < n.kids.length := by omega
            simp +contextual -dsimp (maxSteps := 2000000) only [↓SD, SU, SB, Nat.reduceAdd, Nat.reduceBEq, Nat.reduceEqDiff, Nat.reduceLeDiff, Nat.reduceLT, Nat.reduceSub, ↓reduceIte, forall_const, implies_true, ne_eq, reduceCtorEq, Int.reduceToNat, forall_eq, Int.reduceEq, Int.reduceLT, Int.reduceLE, Int.reduceNeg, Int.reduceAdd, Int.reduceSub, map_len, hlt, hlt1, e2, av_int, h5, hbb, Int.natCast_one]
            exact Goes.le ⟨2, ⟨⟨hlt, hc⟩, (by first | omega | (simp only; omega))⟩, rfl⟩ (by simp +contextual -dsimp (maxSteps := 2000000) only [↓SD, SU, SB, Nat.reduceAdd, Nat.reduceBEq, Nat.reduceEqDiff, Nat.reduceLeDiff, Nat.reduceLT, Nat.reduceSub, ↓reduceIte, forall_const, implies_true, ne_eq, reduceCtorEq, Int.reduceToNat, forall_eq, Int.reduceEq, Int.reduceLT, Int.reduceLE, Int.reduceNeg, Int.reduceAdd, Int.reduceSub, Int.natCast_add]) (by simp +contextual -dsimp (maxSteps := 2000000) only [↓SD, SU, SB, Nat.reduceAdd, Nat.reduceBEq, Nat.reduceEqDiff, Nat.reduceLeDiff, Nat.reduceLT, Nat.reduceSub, ↓reduceIte, forall_const, implies_true, ne_eq, reduceCtorEq, Int.reduceToNat, forall_eq])
          · simp [boundB, h5] at hbb
          · obtain ⟨hlp, hv, C1⟩ := C1 h5 j rfl
            rw [← hv, hbb] at C1
            have hq := getD_map av n.pats j .top hlp
            have hj : ((j + 1 : Nat) : Int) - 1 = j := by omega
            have hj0 : (0 : Int) < ((j + 1 : Nat) : Int) := by omega
            generalize n.pats[j] = q at *
            rw [av_Pat] at C1
            simp +contextual -dsimp (maxSteps := 2000000) only [↓SD, SU, SB, Nat.reduceAdd, Nat.reduceBEq, Nat.reduceEqDiff, Nat.reduceLeDiff, Nat.reduceLT, Nat.reduceSub, ↓reduceIte, forall_const, implies_true, ne_eq, reduceCtorEq, Int.reduceToNat, forall_eq, Int.reduceEq, Int.reduceLT, Int.reduceLE, Int.reduceNeg, Int.reduceAdd, Int.reduceSub, map_len, hlt, e2, av_int, h5, hj, hj0, hlp, hq, av_Pat]
            refine ⟨by omega, ?_⟩
            refine aCallK_of _ C1 ?_
            simp +contextual -dsimp (maxSteps := 2000000) only [↓SD, SU, SB, Nat.reduceAdd, Nat.reduceBEq, Nat.reduceEqDiff, Nat.reduceLeDiff, Nat.reduceLT, Nat.reduceSub, ↓reduceIte, forall_const, implies_true, ne_eq, reduceCtorEq, Int.reduceToNat, forall_eq]
            refine ⟨by omega, ?_⟩; exact Goes.le ⟨j + 1 + 1, ⟨⟨hlt, hc⟩, (by first | omega | (simp only; omega))⟩, rfl⟩ (by simp +contextual -dsimp (maxSteps := 2000000) only [↓SD, SU, SB, Nat.reduceAdd, Nat.reduceBEq, Nat.reduceEqDiff, Nat.reduceLeDiff, Nat.reduceLT, Nat.reduceSub, ↓reduceIte, forall_const, implies_true, ne_eq, reduceCtorEq, Int.reduceToNat, forall_eq, Int.reduceEq, Int.reduceLT, Int.reduceLE, Int.reduceNeg, Int.reduceAdd, Int.reduceSub, Int.natCast_add]) (by simp +contextual -dsimp (maxSteps := 2000000) only [↓SD, SU, SB, Nat.reduceAdd, Nat.reduceBEq, Nat.reduceEqDiff, Nat.reduceLeDiff, Nat.reduceLT, Nat.reduceSub, ↓reduceIte, forall_const, implies_true, ne_eq, reduceCtorEq, Int.reduceToNat, forall_eq])
          · simp [boundB, h5] at hbb
        · have hb : boundB n k s = false := by simpa using hbb
          obtain ⟨b, -, C2, hT, hc⟩ := hC2 hb
          clear hB hbb
          rcases K with h5 | h5 | h5 | h5 | ⟨h5, rfl⟩ | ⟨h5, j, rfl⟩ | h5
          · simp [boundB, h5] at hb
            simp +contextual -dsimp (maxSteps := 2000000) only [↓SD, SU, SB, Nat.reduceAdd, Nat.reduceBEq, Nat.reduceEqDiff, Nat.reduceLeDiff, Nat.reduceLT, Nat.reduceSub, ↓reduceIte, forall_const, implies_true, ne_eq, reduceCtorEq, Int.reduceToNat, forall_eq, Int.reduceEq, Int.reduceLT, Int.reduceLE, Int.reduceNeg, Int.reduceAdd, Int.reduceSub, map_len, hlt, e2, av_int, h5, hb]
            refine aCallK_of _ C2 ?_
            cases b with
            | true => simp +contextual -dsimp (maxSteps := 2000000) only [↓SD, SU, SB, Nat.reduceAdd, Nat.reduceBEq, Nat.reduceEqDiff, Nat.reduceLeDiff, Nat.reduceLT, Nat.reduceSub, ↓reduceIte, forall_const, implies_true, ne_eq, reduceCtorEq, Int.reduceToNat, forall_eq, hT]
            | false =>
              replace hc := hc rfl
              simp +contextual -dsimp (maxSteps := 2000000) only [↓SD, SU, SB, Nat.reduceAdd, Nat.reduceBEq, Nat.reduceEqDiff, Nat.reduceLeDiff, Nat.reduceLT, Nat.reduceSub, ↓reduceIte, forall_const, implies_true, ne_eq, reduceCtorEq, Int.reduceToNat, forall_eq]
              refine ⟨by omega, ?_⟩; exact Goes.le ⟨k + 1, ⟨⟨hlt, hc⟩, (by first | omega | (simp only; omega))⟩, rfl⟩ (by simp +contextual -dsimp (maxSteps := 2000000) only [↓SD, SU, SB, Nat.reduceAdd, Nat.reduceBEq, Nat.reduceEqDiff, Nat.reduceLeDiff, Nat.reduceLT, Nat.reduceSub, ↓reduceIte, forall_const, implies_true, ne_eq, reduceCtorEq, Int.reduceToNat, forall_eq, Int.reduceEq, Int.reduceLT, Int.reduceLE, Int.reduceNeg, Int.reduceAdd, Int.reduceSub, Int.natCast_add]) (by simp +contextual -dsimp (maxSteps := 2000000) only [↓SD, SU, SB, Nat.reduceAdd, Nat.reduceBEq, Nat.reduceEqDiff, Nat.reduceLeDiff, Nat.reduceLT, Nat.reduceSub, ↓reduceIte, forall_const, implies_true, ne_eq, reduceCtorEq, Int.reduceToNat, forall_eq])
          · simp [boundB, h5] at hb
            simp +contextual -dsimp (maxSteps := 2000000) only [↓SD, SU, SB, Nat.reduceAdd, Nat.reduceBEq, Nat.reduceEqDiff, Nat.reduceLeDiff, Nat.reduceLT, Nat.reduceSub, ↓reduceIte, forall_const, implies_true, ne_eq, reduceCtorEq, Int.reduceToNat, forall_eq, Int.reduceEq, Int.reduceLT, Int.reduceLE, Int.reduceNeg, Int.reduceAdd, Int.reduceSub, map_len, hlt, e2, av_int, h5, hb]
            refine aCallK_of _ C2 ?_
            cases b with
            | true => simp +contextual -dsimp (maxSteps := 2000000) only [↓SD, SU, SB, Nat.reduceAdd, Nat.reduceBEq, Nat.reduceEqDiff, Nat.reduceLeDiff, Nat.reduceLT, Nat.reduceSub, ↓reduceIte, forall_const, implies_true, ne_eq, reduceCtorEq, Int.reduceToNat, forall_eq, hT]
            | false =>
              replace hc := hc rfl
              simp +contextual -dsimp (maxSteps := 2000000) only [↓SD, SU, SB, Nat.reduceAdd, Nat.reduceBEq, Nat.reduceEqDiff, Nat.reduceLeDiff, Nat.reduceLT, Nat.reduceSub, ↓reduceIte, forall_const, implies_true, ne_eq, reduceCtorEq, Int.reduceToNat, forall_eq]
              refine ⟨by omega, ?_⟩; exact Goes.le ⟨k + 1, ⟨⟨hlt, hc⟩, (by first | omega | (simp only; omega))⟩, rfl⟩ (by simp +contextual -dsimp (maxSteps := 2000000) only [↓SD, SU, SB, Nat.reduceAdd, Nat.reduceBEq, Nat.reduceEqDiff, Nat.reduceLeDiff, Nat.reduceLT, Nat.reduceSub, ↓reduceIte, forall_const, implies_true, ne_eq, reduceCtorEq, Int.reduceToNat, forall_eq, Int.reduceEq, Int.reduceLT, Int.reduceLE, Int.reduceNeg, Int.reduceAdd, Int.reduceSub, Int.natCast_add]) (by simp +contextual -dsimp (maxSteps := 2000000) only [↓SD, SU, SB, Nat.reduceAdd, Nat.reduceBEq, Nat.reduceEqDiff, Nat.reduceLeDiff, Nat.reduceLT, Nat.reduceSub, ↓reduceIte, forall_const, implies_true, ne_eq, reduceCtorEq, Int.reduceToNat, forall_eq])
          · by_cases h1 : k = 1
            · subst h1
              simp [boundB, h5] at hb
              have hlt1 : (1 : Int) < n.kids.length := by omega
              simp +contextual -dsimp (maxSteps := 2000000) only [↓SD, SU, SB, Nat.reduceAdd, Nat.reduceBEq, Nat.reduceEqDiff, Nat.reduceLeDiff, Nat.reduceLT, Nat.reduceSub, ↓reduceIte, forall_const, implies_true, ne_eq, reduceCtorEq, Int.reduceToNat, forall_eq, Int.reduceEq, Int.reduceLT, Int.reduceLE, Int.reduceNeg, Int.reduceAdd, Int.reduceSub, map_len, hlt, hlt1, e2, av_int, h5, hb, Int.natCast_one]
              refine aCallK_of _ C2 ?_
              cases b with
              | true => simp +contextual -dsimp (maxSteps := 2000000) only [↓SD, SU, SB, Nat.reduceAdd, Nat.reduceBEq, Nat.reduceEqDiff, Nat.reduceLeDiff, Nat.reduceLT, Nat.reduceSub, ↓reduceIte, forall_const, implies_true, ne_eq, reduceCtorEq, Int.reduceToNat, forall_eq, hT]
              | false =>
                replace hc := hc rfl
                simp +contextual -dsimp (maxSteps := 2000000) only [↓SD, SU, SB, Nat.reduceAdd, Nat.reduceBEq, Nat.reduceEqDiff, Nat.reduceLeDiff, Nat.reduceLT, Nat.reduceSub, ↓reduceIte, forall_const, implies_true, ne_eq, reduceCtorEq, Int.reduceToNat, forall_eq]
                refine ⟨by omega, ?_⟩; exact Goes.le ⟨2, ⟨⟨hlt, hc⟩, (by first | omega | (simp only; omega))⟩, rfl⟩ (by simp +contextual -dsimp (maxSteps := 2000000) only [↓SD, SU, SB, Nat.reduceAdd, Nat.reduceBEq, Nat.reduceEqDiff, Nat.reduceLeDiff, Nat.reduceLT, Nat.reduceSub, ↓reduceIte, forall_const, implies_true, ne_eq, reduceCtorEq, Int.reduceToNat, forall_eq, Int.reduceEq, Int.reduceLT, Int.reduceLE, Int.reduceNeg, Int.reduceAdd, Int.reduceSub, Int.natCast_add]) (by simp +contextual -dsimp (maxSteps := 2000000) only [↓SD, SU, SB, Nat.reduceAdd, Nat.reduceBEq, Nat.reduceEqDiff, Nat.reduceLeDiff, Nat.reduceLT, Nat.reduceSub, ↓reduceIte, forall_const, implies_true, ne_eq, reduceCtorEq, Int.reduceToNat, forall_eq])
            · have h1' : ¬ (k : Int) = 1 := by omega
              simp +contextual -dsimp (maxSteps := 2000000) only [↓SD, SU, SB, Nat.reduceAdd, Nat.reduceBEq, Nat.reduceEqDiff, Nat.reduceLeDiff, Nat.reduceLT, Nat.reduceSub, ↓reduceIte, forall_const, implies_true, ne_eq, reduceCtorEq, Int.reduceToNat, forall_eq, Int.reduceEq, Int.reduceLT, Int.reduceLE, Int.reduceNeg, Int.reduceAdd, Int.reduceSub, map_len, hlt, e2, av_int, h5, h1']
              refine aCallK_of _ C2 ?_
              cases b with
              | true => simp +contextual -dsimp (maxSteps := 2000000) only [↓SD, SU, SB, Nat.reduceAdd, Nat.reduceBEq, Nat.reduceEqDiff, Nat.reduceLeDiff, Nat.reduceLT, Nat.reduceSub, ↓reduceIte, forall_const, implies_true, ne_eq, reduceCtorEq, Int.reduceToNat, forall_eq, hT]
              | false =>
                replace hc := hc rfl
                simp +contextual -dsimp (maxSteps := 2000000) only [↓SD, SU, SB, Nat.reduceAdd, Nat.reduceBEq, Nat.reduceEqDiff, Nat.reduceLeDiff, Nat.reduceLT, Nat.reduceSub, ↓reduceIte, forall_const, implies_true, ne_eq, reduceCtorEq, Int.reduceToNat, forall_eq]
                refine ⟨by omega, ?_⟩; exact Goes.le ⟨k + 1, ⟨⟨hlt, hc⟩, (by first | omega | (simp only; omega))⟩, rfl⟩ (by simp +contextual -dsimp (maxSteps := 2000000) only [↓SD, SU, SB, Nat.reduceAdd, Nat.reduceBEq, Nat.reduceEqDiff, Nat.reduceLeDiff, Nat.reduceLT, Nat.reduceSub, ↓reduceIte, forall_const, implies_true, ne_eq, reduceCtorEq, Int.reduceToNat, forall_eq, Int.reduceEq, Int.reduceLT, Int.reduceLE, Int.reduceNeg, Int.reduceAdd, Int.reduceSub, Int.natCast_add]) (by simp +contextual -dsimp (maxSteps := 2000000) only [↓SD, SU, SB, Nat.reduceAdd, Nat.reduceBEq, Nat.reduceEqDiff, Nat.reduceLeDiff, Nat.reduceLT, Nat.reduceSub, ↓reduceIte, forall_const, implies_true, ne_eq, reduceCtorEq, Int.reduceToNat, forall_eq])
          · by_cases h1 : k = 1
            · subst h1
              simp [boundB, h5] at hb
              have hlt1 : (1 : Int) < n.kids.length := by omega
              simp +contextual -dsimp (maxSteps := 2000000) only [↓SD, SU, SB, Nat.reduceAdd, Nat.reduceBEq, Nat.reduceEqDiff, Nat.reduceLeDiff, Nat.reduceLT, Nat.reduceSub, ↓reduceIte, forall_const, implies_true, ne_eq, reduceCtorEq, Int.reduceToNat, forall_eq, Int.reduceEq, Int.reduceLT, Int.reduceLE, Int.reduceNeg, Int.reduceAdd, Int.reduceSub, map_len, hlt, hlt1, e2, av_int, h5, hb, Int.natCast_one]
              refine aCallK_of _ C2 ?_
              cases b with
              | true => simp +contextual -dsimp (maxSteps := 2000000) only [↓SD, SU, SB, Nat.reduceAdd, Nat.reduceBEq, Nat.reduceEqDiff, Nat.reduceLeDiff, Nat.reduceLT, Nat.reduceSub, ↓reduceIte, forall_const, implies_true, ne_eq, reduceCtorEq, Int.reduceToNat, forall_eq, hT]
              | false =>
                replace hc := hc rfl
                simp +contextual -dsimp (maxSteps := 2000000) only [↓SD, SU, SB, Nat.reduceAdd, Nat.reduceBEq, Nat.reduceEqDiff, Nat.reduceLeDiff, Nat.reduceLT, Nat.reduceSub, ↓reduceIte, forall_const, implies_true, ne_eq, reduceCtorEq, Int.reduceToNat, forall_eq]
                refine ⟨by omega, ?_⟩; exact Goes.le ⟨2, ⟨⟨hlt, hc⟩, (by first | omega | (simp only; omega))⟩, rfl⟩ (by simp +contextual -dsimp (maxSteps := 2000000) only [↓SD, SU, SB, Nat.reduceAdd, Nat.reduceBEq, Nat.reduceEqDiff, Nat.reduceLeDiff, Nat.reduceLT, Nat.reduceSub, ↓reduceIte, forall_const, implies_true, ne_eq, reduceCtorEq, Int.reduceToNat, forall_eq, Int.reduceEq, Int.reduceLT, Int.reduceLE, Int.reduceNeg, Int.reduceAdd, Int.reduceSub, Int.natCast_add]) (by simp +contextual -dsimp (maxSteps := 2000000) only [↓SD, SU, SB, Nat.reduceAdd, Nat.reduceBEq, Nat.reduceEqDiff, Nat.reduceLeDiff, Nat.reduceLT, Nat.reduceSub, ↓reduceIte, forall_const, implies_true, ne_eq, reduceCtorEq, Int.reduceToNat, forall_eq])
            · have h1' : ¬ (k : Int) = 1 := by omega
              simp +contextual -dsimp (maxSteps := 2000000) only [↓SD, SU, SB, Nat.reduceAdd, Nat.reduceBEq, Nat.reduceEqDiff, Nat.reduceLeDiff, Nat.reduceLT, Nat.reduceSub, ↓reduceIte, forall_const, implies_true, ne_eq, reduceCtorEq, Int.reduceToNat, forall_eq, Int.reduceEq, Int.reduceLT, Int.reduceLE, Int.reduceNeg, Int.reduceAdd, Int.reduceSub, map_len, hlt, e2, av_int, h5, h1']
              refine aCallK_of _ C2 ?_
              cases b with
              | true => simp +contextual -dsimp (maxSteps := 2000000) only [↓SD, SU, SB, Nat.reduceAdd, Nat.reduceBEq, Nat.reduceEqDiff, Nat.reduceLeDiff, Nat.reduceLT, Nat.reduceSub, ↓reduceIte, forall_const, implies_true, ne_eq, reduceCtorEq, Int.reduceToNat, forall_eq, hT]
              | false =>
                replace hc := hc rfl
                simp +contextual -dsimp (maxSteps := 2000000) only [↓SD, SU, SB, Nat.reduceAdd, Nat.reduceBEq, Nat.reduceEqDiff, Nat.reduceLeDiff, Nat.reduceLT, Nat.reduceSub, ↓reduceIte, forall_const, implies_true, ne_eq, reduceCtorEq, Int.reduceToNat, forall_eq]
                refine ⟨by omega, ?_⟩; exact Goes.le ⟨k + 1, ⟨⟨hlt, hc⟩, (by first | omega | (simp only; omega))⟩, rfl⟩ (by simp +contextual -dsimp (maxSteps := 2000000) only [↓SD, SU, SB, Nat.reduceAdd, Nat.reduceBEq, Nat.reduceEqDiff, Nat.reduceLeDiff, Nat.reduceLT, Nat.reduceSub, ↓reduceIte, forall_const, implies_true, ne_eq, reduceCtorEq, Int.reduceToNat, forall_eq, Int.reduceEq, Int.reduceLT, Int.reduceLE, Int.reduceNeg, Int.reduceAdd, Int.reduceSub, Int.natCast_add]) (by simp +contextual -dsimp (maxSteps := 2000000) only [↓SD, SU, SB, Nat.reduceAdd, Nat.reduceBEq, Nat.reduceEqDiff, Nat.reduceLeDiff, Nat.reduceLT, Nat.reduceSub, ↓reduceIte, forall_const, implies_true, ne_eq, reduceCtorEq, Int.reduceToNat, forall_eq])
          · have hlt1 : (0 : Int) < n.kids.length := by omega
            simp +contextual -dsimp (maxSteps := 2000000) only [↓SD, SU, SB, Nat.reduceAdd, Nat.reduceBEq, Nat.reduceEqDiff, Nat.reduceLeDiff, Nat.reduceLT, Nat.reduceSub, ↓reduceIte, forall_const, implies_true, ne_eq, reduceCtorEq, Int.reduceToNat, forall_eq, Int.reduceEq, Int.reduceLT, Int.reduceLE, Int.reduceNeg, Int.reduceAdd, Int.reduceSub, map_len, hlt, hlt1, e2, av_int, h5, Int.natCast_zero]
            refine aCallK_of _ C2 ?_
            cases b with
            | true => simp +contextual -dsimp (maxSteps := 2000000) only [↓SD, SU, SB, Nat.reduceAdd, Nat.reduceBEq, Nat.reduceEqDiff, Nat.reduceLeDiff, Nat.reduceLT, Nat.reduceSub, ↓reduceIte, forall_const, implies_true, ne_eq, reduceCtorEq, Int.reduceToNat, forall_eq, hT]
            | false =>
              replace hc := hc rfl
              simp +contextual -dsimp (maxSteps := 2000000) only [↓SD, SU, SB, Nat.reduceAdd, Nat.reduceBEq, Nat.reduceEqDiff, Nat.reduceLeDiff, Nat.reduceLT, Nat.reduceSub, ↓reduceIte, forall_const, implies_true, ne_eq, reduceCtorEq, Int.reduceToNat, forall_eq]
              refine ⟨by omega, ?_⟩; exact Goes.le ⟨1, ⟨⟨hlt, hc⟩, (by first | omega | (simp only; omega))⟩, rfl⟩ (by simp +contextual -dsimp (maxSteps := 2000000) only [↓SD, SU, SB, Nat.reduceAdd, Nat.reduceBEq, Nat.reduceEqDiff, Nat.reduceLeDiff, Nat.reduceLT, Nat.reduceSub, ↓reduceIte, forall_const, implies_true, ne_eq, reduceCtorEq, Int.reduceToNat, forall_eq, Int.reduceEq, Int.reduceLT, Int.reduceLE, Int.reduceNeg, Int.reduceAdd, Int.reduceSub, Int.natCast_add]) (by simp +contextual -dsimp (maxSteps := 2000000) only [↓SD, SU, SB, Nat.reduceAdd, Nat.reduceBEq, Nat.reduceEqDiff, Nat.reduceLeDiff, Nat.reduceLT, Nat.reduceSub, ↓reduceIte, forall_const, implies_true, ne_eq, reduceCtorEq, Int.reduceToNat, forall_eq])
          · obtain ⟨hlp, hv, C1⟩ := C1 h5 j rfl
            rw [← hv, hb] at C1
            have hq := getD_map av n.pats j .top hlp
            have hj : ((j + 1 : Nat) : Int) - 1 = j := by omega
            have hj0 : (0 : Int) < ((j + 1 : Nat) : Int) := by omega
            generalize n.pats[j] = q at *
            rw [av_Pat] at C1
            simp +contextual -dsimp (maxSteps := 2000000) only [↓SD, SU, SB, Nat.reduceAdd, Nat.reduceBEq, Nat.reduceEqDiff, Nat.reduceLeDiff, Nat.reduceLT, Nat.reduceSub, ↓reduceIte, forall_const, implies_true, ne_eq, reduceCtorEq, Int.reduceToNat, forall_eq, Int.reduceEq, Int.reduceLT, Int.reduceLE, Int.reduceNeg, Int.reduceAdd, Int.reduceSub, map_len, hlt, e2, av_int, h5, hj, hj0, hlp, hq, av_Pat]
            refine ⟨by omega, ?_⟩
            refine aCallK_of _ C1 ?_
            simp +contextual -dsimp (maxSteps := 2000000) only [↓SD, SU, SB, Nat.reduceAdd, Nat.reduceBEq, Nat.reduceEqDiff, Nat.reduceLeDiff, Nat.reduceLT, Nat.reduceSub, ↓reduceIte, forall_const, implies_true, ne_eq, reduceCtorEq, Int.reduceToNat, forall_eq]
            refine aCallK_of _ C2 ?_
            cases b with
            | true => simp +contextual -dsimp (maxSteps := 2000000) only [↓SD, SU, SB, Nat.reduceAdd, Nat.reduceBEq, Nat.reduceEqDiff, Nat.reduceLeDiff, Nat.reduceLT, Nat.reduceSub, ↓reduceIte, forall_const, implies_true, ne_eq, reduceCtorEq, Int.reduceToNat, forall_eq, hT]
            | false =>
              replace hc := hc rfl
              simp +contextual -dsimp (maxSteps := 2000000) only [↓SD, SU, SB, Nat.reduceAdd, Nat.reduceBEq, Nat.reduceEqDiff, Nat.reduceLeDiff, Nat.reduceLT, Nat.reduceSub, ↓reduceIte, forall_const, implies_true, ne_eq, reduceCtorEq, Int.reduceToNat, forall_eq]
              refine ⟨by omega, ?_⟩; exact Goes.le ⟨j + 1 + 1, ⟨⟨hlt, hc⟩, (by first | omega | (simp only; omega))⟩, rfl⟩ (by simp +contextual -dsimp (maxSteps := 2000000) only [↓SD, SU, SB, Nat.reduceAdd, Nat.reduceBEq, Nat.reduceEqDiff, Nat.reduceLeDiff, Nat.reduceLT, Nat.reduceSub, ↓reduceIte, forall_const, implies_true, ne_eq, reduceCtorEq, Int.reduceToNat, forall_eq, Int.reduceEq, Int.reduceLT, Int.reduceLE, Int.reduceNeg, Int.reduceAdd, Int.reduceSub, Int.natCast_add]) (by simp +contextual -dsimp (maxSteps := 2000000) only [↓SD, SU, SB, Nat.reduceAdd, Nat.reduceBEq, Nat.reduceEqDiff, Nat.reduceLeDiff, Nat.reduceLT, Nat.reduceSub, ↓reduceIte, forall_const, implies_true, ne_eq, reduceCtorEq, Int.reduceToNat, forall_eq])
          · obtain ⟨x1, x2, x3, x4, x5⟩ := h5
            simp +contextual -dsimp (maxSteps := 2000000) only [↓SD, SU, SB, Nat.reduceAdd, Nat.reduceBEq, Nat.reduceEqDiff, Nat.reduceLeDiff, Nat.reduceLT, Nat.reduceSub, ↓reduceIte, forall_const, implies_true, ne_eq, reduceCtorEq, Int.reduceToNat, forall_eq, Int.reduceEq, Int.reduceLT, Int.reduceLE, Int.reduceNeg, Int.reduceAdd, Int.reduceSub, map_len, hlt, e2, av_int, x1, x2, x3, x4, x5]
            refine aCallK_of _ C2 ?_
            cases b with
            | true => simp +contextual -dsimp (maxSteps := 2000000) only [↓SD, SU, SB, Nat.reduceAdd, Nat.reduceBEq, Nat.reduceEqDiff, Nat.reduceLeDiff, Nat.reduceLT, Nat.reduceSub, ↓reduceIte, forall_const, implies_true, ne_eq, reduceCtorEq, Int.reduceToNat, forall_eq, hT]
            | false =>
              replace hc := hc rfl
              simp +contextual -dsimp (maxSteps := 2000000) only [↓SD, SU, SB, Nat.reduceAdd, Nat.reduceBEq, Nat.reduceEqDiff, Nat.reduceLeDiff, Nat.reduceLT, Nat.reduceSub, ↓reduceIte, forall_const, implies_true, ne_eq, reduceCtorEq, Int.reduceToNat, forall_eq]
              refine ⟨by omega, ?_⟩; exact Goes.le ⟨k + 1, ⟨⟨hlt, hc⟩, (by first | omega | (simp only; omega))⟩, rfl⟩ (by simp +contextual -dsimp (maxSteps := 2000000) only [↓SD, SU, SB, Nat.reduceAdd, Nat.reduceBEq, Nat.reduceEqDiff, Nat.reduceLeDiff, Nat.reduceLT, Nat.reduceSub, ↓reduceIte, forall_const, implies_true, ne_eq, reduceCtorEq, Int.reduceToNat, forall_eq, Int.reduceEq, Int.reduceLT, Int.reduceLE, Int.reduceNeg, Int.reduceAdd, Int.reduceSub, Int.natCast_add]) (by simp +contextual -dsimp (maxSteps := 2000000) only [↓SD, SU, SB, Nat.reduceAdd, Nat.reduceBEq, Nat.reduceEqDiff, Nat.reduceLeDiff, Nat.reduceLT, Nat.reduceSub, ↓reduceIte, forall_const, implies_true, ne_eq, reduceCtorEq, Int.reduceToNat, forall_eq])
      · obtain rfl : k = n.kids.length := by omega
        rw [List.drop_of_length_le (by simp), cntTs] at hc
        simp +contextual -dsimp (maxSteps := 2000000) only [↓SD, SU, SB, Nat.reduceAdd, Nat.reduceBEq, Nat.reduceEqDiff, Nat.reduceLeDiff, Nat.reduceLT, Nat.reduceSub, ↓reduceIte, forall_const, implies_true, ne_eq, reduceCtorEq, Int.reduceToNat, forall_eq, map_len, Nat.lt_irrefl]
        rw [hc]; rfl

theorem l16Place_ok (p : Program) (i : Int) (hx : Bulk.bulk p ≤ 1048576) : CallsF Tryz.prog 43 [av p, .int .i64 i] (.bool (placeB p i)) := by
  obtain ⟨q1, q2, q3, q4⟩ := prog_small hx
  refine fun_spec_l16Place rfl (by simp; exact ⟨AVal.clean p, pint _⟩) (AvPure.bool _) ?_
  have C := specProgramOk_ok p hx
  rw [av_Program] at C
  simp +contextual -dsimp (maxSteps := 2000000) only [↓SD, SU, SB, Nat.reduceAdd, Nat.reduceBEq, Nat.reduceEqDiff, Nat.reduceLeDiff, Nat.reduceLT, Nat.reduceSub, ↓reduceIte, forall_const, implies_true, ne_eq, reduceCtorEq, Int.reduceToNat, forall_eq, ir_spec_l16Place, rs_spec_l16Place, av_Program, map_len]
  cases hb : progB p with
  | false =>
    rw [hb] at C
    refine aCallK_of _ C ?_
    simp +contextual -dsimp (maxSteps := 2000000) only [↓SD, SU, SB, Nat.reduceAdd, Nat.reduceBEq, Nat.reduceEqDiff, Nat.reduceLeDiff, Nat.reduceLT, Nat.reduceSub, ↓reduceIte, forall_const, implies_true, ne_eq, reduceCtorEq, Int.reduceToNat, forall_eq]
    simp [placeB, hb]
  | true =>
    rw [hb] at C
    refine aCallK_of _ C ?_
    simp +contextual -dsimp (maxSteps := 2000000) only [↓SD, SU, SB, Nat.reduceAdd, Nat.reduceBEq, Nat.reduceEqDiff, Nat.reduceLeDiff, Nat.reduceLT, Nat.reduceSub, ↓reduceIte, forall_const, implies_true, ne_eq, reduceCtorEq, Int.reduceToNat, forall_eq, map_len]
    (repeat' (first | intro _ | refine And.intro ?_ ?_))
    all_goals first | omega | (simp [placeB, hb, *]; done) | (simp [placeB, hb]; omega)
theorem specOccurs_ok (p : Program) (i : Int) (s : ByteArray) (hx : Bulk.bulk p ≤ 1048576) (hs : s.size ≤ 1048576) : CallsF Tryz.prog 22 [av p, .int .i64 i, .str s] (.int .i64 (occI p i s)) := by
  obtain ⟨q1, q2, q3, q4⟩ := prog_small hx
  refine fun_spec_Occurs rfl (by simp; exact ⟨AVal.clean p, pint _, AvPure.str _⟩) (pint _) ?_
  have C := l16Place_ok p i hx
  rw [av_Program] at C
  simp +contextual -dsimp (maxSteps := 2000000) only [↓SD, SU, SB, Nat.reduceAdd, Nat.reduceBEq, Nat.reduceEqDiff, Nat.reduceLeDiff, Nat.reduceLT, Nat.reduceSub, ↓reduceIte, forall_const, implies_true, ne_eq, reduceCtorEq, Int.reduceToNat, forall_eq, ir_spec_Occurs, rs_spec_Occurs, av_Program, map_len]
  cases hb : placeB p i with
  | false =>
    rw [hb] at C
    refine aCallK_of _ C ?_
    simp +contextual -dsimp (maxSteps := 2000000) only [↓SD, SU, SB, Nat.reduceAdd, Nat.reduceBEq, Nat.reduceEqDiff, Nat.reduceLeDiff, Nat.reduceLT, Nat.reduceSub, ↓reduceIte, forall_const, implies_true, ne_eq, reduceCtorEq, Int.reduceToNat, forall_eq]
    simp [occI, hb]
  | true =>
    rw [hb] at C
    have hb' := hb
    simp only [placeB, Bool.and_eq_true, decide_eq_true_eq] at hb'
    obtain ⟨hp, hi0, hi1⟩ := hb'
    obtain ⟨f1, f2, f3, f4, f5⟩ := prog_facts hx hp
    obtain ⟨j, rfl⟩ : ∃ j : Nat, i = j := ⟨i.toNat, by omega⟩
    have hk : ∀ i, i < p.nodes.length → ∀ k ∈ nkids p.nodes i, (i : Int) < k ∧ k < p.nodes.length := fun i hi k hk => tree_in f3 hi hk
    have C2 := l09Sub_ok p hk q2 p.nodes.length j (by omega) (by omega)
    have C3 := l16Count_ok s hs (growT p.nodes p.nodes.length j) (treeAt_ok hk f4 _ _ (by omega) (by omega)) (by have := treeAt_size f3 (i := j) (by omega); unfold treeAt at this; omega)
    have ho : occI p j s = cntT s (growT p.nodes p.nodes.length j) := by simp [occI, hb, treeAt]
    rw [ho]
    rw [av_Program] at C2
    generalize growT p.nodes p.nodes.length j = t at *
    refine aCallK_of _ C ?_
    simp +contextual -dsimp (maxSteps := 2000000) only [↓SD, SU, SB, Nat.reduceAdd, Nat.reduceBEq, Nat.reduceEqDiff, Nat.reduceLeDiff, Nat.reduceLT, Nat.reduceSub, ↓reduceIte, forall_const, implies_true, ne_eq, reduceCtorEq, Int.reduceToNat, forall_eq, map_len]
    refine aCallK_of _ C2 ?_
    simp +contextual -dsimp (maxSteps := 2000000) only [↓SD, SU, SB, Nat.reduceAdd, Nat.reduceBEq, Nat.reduceEqDiff, Nat.reduceLeDiff, Nat.reduceLT, Nat.reduceSub, ↓reduceIte, forall_const, implies_true, ne_eq, reduceCtorEq, Int.reduceToNat, forall_eq, tr_purA]
    refine aCallK_of _ C3 ?_
    simp +contextual -dsimp (maxSteps := 2000000) only [↓SD, SU, SB, Nat.reduceAdd, Nat.reduceBEq, Nat.reduceEqDiff, Nat.reduceLeDiff, Nat.reduceLT, Nat.reduceSub, ↓reduceIte, forall_const, implies_true, ne_eq, reduceCtorEq, Int.reduceToNat, forall_eq]
theorem specFreeIn_ok (p : Program) (i : Int) (s : ByteArray) (hx : Bulk.bulk p ≤ 1048576) (hs : s.size ≤ 1048576) : CallsF Tryz.prog 20 [av p, .int .i64 i, .str s] (.bool (decide (0 < occI p i s))) := by
  obtain ⟨q1, q2, q3, q4⟩ := prog_small hx
  refine fun_spec_FreeIn rfl (by simp; exact ⟨AVal.clean p, pint _, AvPure.str _⟩) (AvPure.bool _) ?_
  have C := specProgramOk_ok p hx
  rw [av_Program] at C
  simp +contextual -dsimp (maxSteps := 2000000) only [↓SD, SU, SB, Nat.reduceAdd, Nat.reduceBEq, Nat.reduceEqDiff, Nat.reduceLeDiff, Nat.reduceLT, Nat.reduceSub, ↓reduceIte, forall_const, implies_true, ne_eq, reduceCtorEq, Int.reduceToNat, forall_eq, ir_spec_FreeIn, rs_spec_FreeIn, av_Program, map_len]
  cases hp : progB p with
  | false =>
    rw [hp] at C
    refine aCallK_of _ C ?_
    simp +contextual -dsimp (maxSteps := 2000000) only [↓SD, SU, SB, Nat.reduceAdd, Nat.reduceBEq, Nat.reduceEqDiff, Nat.reduceLeDiff, Nat.reduceLT, Nat.reduceSub, ↓reduceIte, forall_const, implies_true, ne_eq, reduceCtorEq, Int.reduceToNat, forall_eq]
    simp [occI, placeB, hp]
  | true =>
    rw [hp] at C
    obtain ⟨f1, f2, f3, f4, f5⟩ := prog_facts hx hp
    refine aCallK_of _ C ?_
    by_cases hi0 : i < 0
    · simp +contextual -dsimp (maxSteps := 2000000) only [↓SD, SU, SB, Nat.reduceAdd, Nat.reduceBEq, Nat.reduceEqDiff, Nat.reduceLeDiff, Nat.reduceLT, Nat.reduceSub, ↓reduceIte, forall_const, implies_true, ne_eq, reduceCtorEq, Int.reduceToNat, forall_eq, map_len, hi0]
      have : placeB p i = false := by simp [placeB, hp]; omega
      simp [occI, this]
    by_cases hi1 : (p.nodes.length : Int) ≤ i
    · simp +contextual -dsimp (maxSteps := 2000000) only [↓SD, SU, SB, Nat.reduceAdd, Nat.reduceBEq, Nat.reduceEqDiff, Nat.reduceLeDiff, Nat.reduceLT, Nat.reduceSub, ↓reduceIte, forall_const, implies_true, ne_eq, reduceCtorEq, Int.reduceToNat, forall_eq, map_len, hi0, hi1]
      have : placeB p i = false := by simp [placeB, hp]; omega
      simp [occI, this]
    have hb : placeB p i = true := by simp [placeB, hp]; omega
    obtain ⟨j, rfl⟩ : ∃ j : Nat, i = j := ⟨i.toNat, by omega⟩
    have hk : ∀ i, i < p.nodes.length → ∀ k ∈ nkids p.nodes i, (i : Int) < k ∧ k < p.nodes.length := fun i hi k hk => tree_in f3 hi hk
    have C2 := l09Free_ok p s hk f4 q2 hs p.nodes.length j (by omega) (by omega)
    have ho : occI p j s = cntT s (growT p.nodes p.nodes.length j) := by simp [occI, hb, treeAt]
    rw [ho]
    rw [av_Program] at C2
    generalize growT p.nodes p.nodes.length j = t at *
    simp +contextual -dsimp (maxSteps := 2000000) only [↓SD, SU, SB, Nat.reduceAdd, Nat.reduceBEq, Nat.reduceEqDiff, Nat.reduceLeDiff, Nat.reduceLT, Nat.reduceSub, ↓reduceIte, forall_const, implies_true, ne_eq, reduceCtorEq, Int.reduceToNat, forall_eq, map_len, hi0, hi1]
    refine aCallK_of _ C2 ?_
    simp +contextual -dsimp (maxSteps := 2000000) only [↓SD, SU, SB, Nat.reduceAdd, Nat.reduceBEq, Nat.reduceEqDiff, Nat.reduceLeDiff, Nat.reduceLT, Nat.reduceSub, ↓reduceIte, forall_const, implies_true, ne_eq, reduceCtorEq, Int.reduceToNat, forall_eq]
    simp
theorem specAtom_ok (p : Program) (i : Int) (hx : Bulk.bulk p ≤ 1048576) : CallsF Tryz.prog 14 [av p, .int .i64 i] (.bool (atomB p i)) := by
  obtain ⟨q1, q2, q3, q4⟩ := prog_small hx
  refine fun_spec_Atom rfl (by simp; exact ⟨AVal.clean p, pint _⟩) (AvPure.bool _) ?_
  have C := l16Place_ok p i hx
  rw [av_Program] at C
  simp +contextual -dsimp (maxSteps := 2000000) only [↓SD, SU, SB, Nat.reduceAdd, Nat.reduceBEq, Nat.reduceEqDiff, Nat.reduceLeDiff, Nat.reduceLT, Nat.reduceSub, ↓reduceIte, forall_const, implies_true, ne_eq, reduceCtorEq, Int.reduceToNat, forall_eq, ir_spec_Atom, rs_spec_Atom, av_Program, map_len]
  cases hb : placeB p i with
  | false =>
    rw [hb] at C
    refine aCallK_of _ C ?_
    simp +contextual -dsimp (maxSteps := 2000000) only [↓SD, SU, SB, Nat.reduceAdd, Nat.reduceBEq, Nat.reduceEqDiff, Nat.reduceLeDiff, Nat.reduceLT, Nat.reduceSub, ↓reduceIte, forall_const, implies_true, ne_eq, reduceCtorEq, Int.reduceToNat, forall_eq]
    simp [atomB, hb]
  | true =>
    rw [hb] at C
    have hb' := hb
    simp only [placeB, Bool.and_eq_true, decide_eq_true_eq] at hb'
    obtain ⟨hp, hi0, hi1⟩ := hb'
    obtain ⟨f1, f2, f3, f4, f5⟩ := prog_facts hx hp
    obtain ⟨j, rfl⟩ : ∃ j : Nat, i = j := ⟨i.toNat, by omega⟩
    have hj : j < p.nodes.length := by omega
    have hg : p.nodes.getD j default = p.nodes[j] := by simp [List.getD_eq_getElem?_getD, hj]
    have e := getD_map av p.nodes j .top hj
    obtain ⟨b1, b2, b3, b4⟩ := node_small q2 (List.getElem_mem hj)
    have C2 := l16Atom_ok p.nodes[j] b1
    have ho : atomB p j = plainB p.nodes[j] p.nodes[j].kids.length := by simp only [atomB, hb, Int.toNat_natCast, hg, Bool.true_and]
    rw [ho]
    generalize p.nodes[j] = n at *
    rw [av_Node] at C2
    refine aCallK_of _ C ?_
    simp +contextual -dsimp (maxSteps := 2000000) only [↓SD, SU, SB, Nat.reduceAdd, Nat.reduceBEq, Nat.reduceEqDiff, Nat.reduceLeDiff, Nat.reduceLT, Nat.reduceSub, ↓reduceIte, forall_const, implies_true, ne_eq, reduceCtorEq, Int.reduceToNat, forall_eq, map_len, hj, e, av_Node]
    refine aCallK_of _ C2 ?_
    simp +contextual -dsimp (maxSteps := 2000000) only [↓SD, SU, SB, Nat.reduceAdd, Nat.reduceBEq, Nat.reduceEqDiff, Nat.reduceLeDiff, Nat.reduceLT, Nat.reduceSub, ↓reduceIte, forall_const, implies_true, ne_eq, reduceCtorEq, Int.reduceToNat, forall_eq]
end Go.Proofs.YtpomnlejlgojaaaGreat
