/-
  Names AND Fresh, of the program and of the reference, by abstract texts. Conditions: none.
-/
import Derived.Test.YtpomnlejlgojaaaGreatNameP
import Derived.Test.YtpomnlejlgojaaaGreatNumA
import Derived.Test.YtpomnlejlgojaaaGreatSortH
import Derived.Test.YtpomnlejlgojaaaGreatIrFresh
set_option linter.unusedVariables false
set_option linter.unusedSimpArgs false
set_option maxRecDepth 100000
namespace Go.Proofs.YtpomnlejlgojaaaGreat
open Go.RowKit Go.Proofs.YtpomnlejlgojaaaGreat.Av Go.Proofs.YtpomnlejlgojaaaGreat.Ml
open Go.Proofs.YtpomnlejlgojaaaGreat.Av.AVal (av)

theorem pats_take {l : List Pat} {k : Nat} (h : k < l.length) : (l.take (k + 1)).flatMap (fun q => varsOf q.nodes) = (l.take k).flatMap (fun q => varsOf q.nodes) ++ varsOf l[k].nodes := flat_take _ h
theorem names_take {l : List Node} {k : Nat} (h : k < l.length) : allNames (l.take (k + 1)) = allNames (l.take k) ++ nodeNames l[k] := flat_take _ h

def namesL (p : Program) : List ByteArray := dedS (sortS (allNames p.nodes))
def NamesPost (p : Program) (r : AV) (hp' : Hp) : Prop := ∃ v, r = .row 11 v (namesL p).length ∧ hp' = [(11, ⟨v, false, 9, 1, (namesL p ++ restS (sortS (allNames p.nodes))).map av⟩)]
theorem implNames_ok (p : Program) (hx : Bulk.bulk p ≤ 1048576) (hb : progB p = true) : CallsH Tryz.prog 35 [av p] [] (NamesPost p) := by
  obtain ⟨q1, q2, q3, q4⟩ := prog_small hx
  refine funH_impl_Names rfl ?_
  have C := implProgramOk_ok p hx
  rw [av_Program, hb] at C
  simp +contextual -dsimp (maxSteps := 2000000) only [↓SD, SU, SB, Nat.reduceAdd, Nat.reduceBEq, Nat.reduceEqDiff, Nat.reduceLeDiff, Nat.reduceLT, Nat.reduceSub, ↓reduceIte, forall_const, implies_true, ne_eq, reduceCtorEq, Int.reduceToNat, forall_eq, ir_impl_Names, rs_impl_Names, av_Program, map_len]
  refine aCallK_of _ C ?_
  simp +contextual -dsimp (maxSteps := 2000000) only [↓SD, SU, SB, Nat.reduceAdd, Nat.reduceBEq, Nat.reduceEqDiff, Nat.reduceLeDiff, Nat.reduceLT, Nat.reduceSub, ↓reduceIte, forall_const, implies_true, ne_eq, reduceCtorEq, Int.reduceToNat, forall_eq, map_len]
  intro v
  refine aLoop_of (X := Nat × Nat) (fun x => ⟨[(3, .row 11 x.2 (allNames (p.nodes.take x.1)).length), (13, .sl (p.nodes.map av)), (14, .int .i64 p.nodes.length), (15, .int .i64 x.1)], [(11, ⟨x.2, false, 9, 1, (allNames (p.nodes.take x.1)).map av⟩)]⟩) (fun x => x.1 ≤ p.nodes.length) (fun x => p.nodes.length - x.1) (0, v) (Nat.zero_le _) (by simp +contextual -dsimp (maxSteps := 2000000) only [↓SD, SU, SB, Nat.reduceAdd, Nat.reduceBEq, Nat.reduceEqDiff, Nat.reduceLeDiff, Nat.reduceLT, Nat.reduceSub, ↓reduceIte, forall_const, implies_true, ne_eq, reduceCtorEq, Int.reduceToNat, forall_eq, allNames, List.flatMap_nil]) (by simp +contextual -dsimp (maxSteps := 2000000) only [↓SD, SU, SB, Nat.reduceAdd, Nat.reduceBEq, Nat.reduceEqDiff, Nat.reduceLeDiff, Nat.reduceLT, Nat.reduceSub, ↓reduceIte, forall_const, implies_true, ne_eq, reduceCtorEq, Int.reduceToNat, forall_eq, allNames, List.flatMap_nil]) ?_
  rintro ⟨k, u⟩ hk
  simp only at hk
  by_cases hlt : k < p.nodes.length
  · have e := getD_map av p.nodes k .top hlt
    have hn1 := names_take hlt
    have hb0 := all_names p.nodes k
    have hb1 := all_names p.nodes (k + 1)
    obtain ⟨b1, b2, b3, b4⟩ := node_small q2 (List.getElem_mem hlt)
    rw [hn1, List.length_append] at hb1
    have C2 := bindsName_ok p.nodes[k]
    rw [av_Node] at C2
    have ht2 : List.take (allNames (p.nodes.take k)).length ((allNames (p.nodes.take k)).map (av : ByteArray → AV)) = (allNames (p.nodes.take k)).map av := List.take_of_length_le (by simp)
    generalize p.nodes[k] = n at *
    generalize allNames (p.nodes.take k) = L at *
    by_cases h3 : n.kind = 3
    · simp +contextual -dsimp (maxSteps := 2000000) only [↓SD, SU, SB, Nat.reduceAdd, Nat.reduceBEq, Nat.reduceEqDiff, Nat.reduceLeDiff, Nat.reduceLT, Nat.reduceSub, ↓reduceIte, forall_const, implies_true, ne_eq, reduceCtorEq, Int.reduceToNat, forall_eq, Int.reduceEq, Int.reduceLT, Int.reduceLE, Int.reduceNeg, Int.reduceAdd, Int.reduceSub, map_len, hlt, e, av_Node, h3, ht2]
      intro v5
      refine ⟨⟨by omega, by unfold maxLen; omega⟩, fun u1 => ?_⟩
      obtain ⟨M, hM⟩ : ∃ M, M = L ++ [n.s] := ⟨_, rfl⟩
      have hMn : nodeNames n = [n.s] ++ n.pats.flatMap (fun q => varsOf q.nodes) := by simp [nodeNames, *]
      have hMl : M.length + (n.pats.flatMap (fun q => varsOf q.nodes)).length ≤ Bulk.bulk p.nodes := by
        rw [hMn, List.length_append] at hb1; rw [hM, List.length_append]; omega
      have hfin : allNames (p.nodes.take (k + 1)) = M ++ n.pats.flatMap (fun q => varsOf q.nodes) := by rw [hn1, hMn, hM, List.append_assoc]
      refine aLoop_of (X := Nat × Nat) (fun x => ⟨[(3, .row 11 x.2 (M ++ (n.pats.take x.1).flatMap (fun q => varsOf q.nodes)).length), (13, .sl (p.nodes.map av)), (14, .int .i64 p.nodes.length), (15, .int .i64 k), (32, .sl (n.pats.map av)), (33, .int .i64 n.pats.length), (34, .int .i64 x.1)], [(11, ⟨x.2, false, 9, 1, (M ++ (n.pats.take x.1).flatMap (fun q => varsOf q.nodes)).map av⟩)]⟩) (fun x => x.1 ≤ n.pats.length) (fun x => n.pats.length - x.1) (0, u1) (Nat.zero_le _) (by simp +contextual -dsimp (maxSteps := 2000000) only [↓SD, SU, SB, Nat.reduceAdd, Nat.reduceBEq, Nat.reduceEqDiff, Nat.reduceLeDiff, Nat.reduceLT, Nat.reduceSub, ↓reduceIte, forall_const, implies_true, ne_eq, reduceCtorEq, Int.reduceToNat, forall_eq, List.flatMap_nil, hM, List.length_append]) (by simp +contextual -dsimp (maxSteps := 2000000) only [↓SD, SU, SB, Nat.reduceAdd, Nat.reduceBEq, Nat.reduceEqDiff, Nat.reduceLeDiff, Nat.reduceLT, Nat.reduceSub, ↓reduceIte, forall_const, implies_true, ne_eq, reduceCtorEq, Int.reduceToNat, forall_eq, List.flatMap_nil, hM, List.map_append, av_str]) ?_
      rintro ⟨j, u2⟩ hj
      simp only at hj
      by_cases hlj : j < n.pats.length
      · have e3 := getD_map av n.pats j .top hlj
        have hp1 := pats_take hlj
        have hp2 := pats_names n.pats j
        have hp3 := pats_names n.pats (j + 1)
        have hm3 := bulk_mem (List.getElem_mem hlj)
        rw [hp1, List.length_append] at hp3
        have hqn : Bulk.bulk n.pats[j] = Bulk.bulk n.pats[j].nodes + 1 := rfl
        have C3 := patNames_ok n.pats[j].nodes (by omega)
        generalize n.pats[j] = q at *
        obtain ⟨K, hK⟩ : ∃ K, K = M ++ (n.pats.take j).flatMap (fun q => varsOf q.nodes) := ⟨_, rfl⟩
        have hKl : K.length ≤ 2097152 := by rw [hK, List.length_append]; omega
        have hint : ∀ y ∈ (varsOf q.nodes).map (av : ByteArray → AV), y.cells.length = 1 := fun y hy => by obtain ⟨x, _, rfl⟩ := List.mem_map.1 hy; rfl
        have ht3 : List.take K.length (K.map (av : ByteArray → AV)) = K.map av := List.take_of_length_le (by simp)
        rw [← hK]
        simp +contextual -dsimp (maxSteps := 2000000) only [↓SD, SU, SB, Nat.reduceAdd, Nat.reduceBEq, Nat.reduceEqDiff, Nat.reduceLeDiff, Nat.reduceLT, Nat.reduceSub, ↓reduceIte, forall_const, implies_true, ne_eq, reduceCtorEq, Int.reduceToNat, forall_eq, Int.reduceEq, Int.reduceLT, Int.reduceLE, Int.reduceNeg, Int.reduceAdd, Int.reduceSub, map_len, hlj, e3, av_Pat]
        intro v7
        refine aCallK_of _ C3 ?_
        simp +contextual -dsimp (maxSteps := 2000000) only [↓SD, SU, SB, Nat.reduceAdd, Nat.reduceBEq, Nat.reduceEqDiff, Nat.reduceLeDiff, Nat.reduceLT, Nat.reduceSub, ↓reduceIte, forall_const, implies_true, ne_eq, reduceCtorEq, Int.reduceToNat, forall_eq, Int.reduceEq, Int.reduceLT, Int.reduceLE, Int.reduceNeg, Int.reduceAdd, Int.reduceSub, map_len, map_nop, ht3]
        refine ⟨⟨hint, by omega, by unfold maxLen; omega⟩, fun u3 => ⟨by omega, Goes.le ⟨(j + 1, u3), ⟨hlj, (by first | omega | (simp only; omega))⟩, rfl⟩ (by simp +contextual -dsimp (maxSteps := 2000000) only [↓SD, SU, SB, Nat.reduceAdd, Nat.reduceBEq, Nat.reduceEqDiff, Nat.reduceLeDiff, Nat.reduceLT, Nat.reduceSub, ↓reduceIte, forall_const, implies_true, ne_eq, reduceCtorEq, Int.reduceToNat, forall_eq, Int.natCast_add, hp1, hK, List.length_append, ← List.append_assoc, Nat.add_assoc]) (by simp +contextual -dsimp (maxSteps := 2000000) only [↓SD, SU, SB, Nat.reduceAdd, Nat.reduceBEq, Nat.reduceEqDiff, Nat.reduceLeDiff, Nat.reduceLT, Nat.reduceSub, ↓reduceIte, forall_const, implies_true, ne_eq, reduceCtorEq, Int.reduceToNat, forall_eq, hp1, hK, List.map_append, ← List.append_assoc])⟩⟩
      · obtain rfl : j = n.pats.length := by omega
        rw [List.take_length]
        simp +contextual -dsimp (maxSteps := 2000000) only [↓SD, SU, SB, Nat.reduceAdd, Nat.reduceBEq, Nat.reduceEqDiff, Nat.reduceLeDiff, Nat.reduceLT, Nat.reduceSub, ↓reduceIte, forall_const, implies_true, ne_eq, reduceCtorEq, Int.reduceToNat, forall_eq, Int.reduceEq, Int.reduceLT, Int.reduceLE, Int.reduceNeg, Int.reduceAdd, Int.reduceSub, map_len, Nat.lt_irrefl]
        exact ⟨by omega, Goes.le ⟨(k + 1, u2), ⟨hlt, (by first | omega | (simp only; omega))⟩, rfl⟩ (by simp +contextual -dsimp (maxSteps := 2000000) only [↓SD, SU, SB, Nat.reduceAdd, Nat.reduceBEq, Nat.reduceEqDiff, Nat.reduceLeDiff, Nat.reduceLT, Nat.reduceSub, ↓reduceIte, forall_const, implies_true, ne_eq, reduceCtorEq, Int.reduceToNat, forall_eq, Int.natCast_add, hfin]) (by simp +contextual -dsimp (maxSteps := 2000000) only [↓SD, SU, SB, Nat.reduceAdd, Nat.reduceBEq, Nat.reduceEqDiff, Nat.reduceLeDiff, Nat.reduceLT, Nat.reduceSub, ↓reduceIte, forall_const, implies_true, ne_eq, reduceCtorEq, Int.reduceToNat, forall_eq, hfin])⟩
    cases hbd : bindB n.kind with
    | true =>
      rw [hbd] at C2
      simp +contextual -dsimp (maxSteps := 2000000) only [↓SD, SU, SB, Nat.reduceAdd, Nat.reduceBEq, Nat.reduceEqDiff, Nat.reduceLeDiff, Nat.reduceLT, Nat.reduceSub, ↓reduceIte, forall_const, implies_true, ne_eq, reduceCtorEq, Int.reduceToNat, forall_eq, Int.reduceEq, Int.reduceLT, Int.reduceLE, Int.reduceNeg, Int.reduceAdd, Int.reduceSub, map_len, hlt, e, av_Node, h3, ht2]
      intro v5
      refine aCallK_of _ C2 ?_
      simp +contextual -dsimp (maxSteps := 2000000) only [↓SD, SU, SB, Nat.reduceAdd, Nat.reduceBEq, Nat.reduceEqDiff, Nat.reduceLeDiff, Nat.reduceLT, Nat.reduceSub, ↓reduceIte, forall_const, implies_true, ne_eq, reduceCtorEq, Int.reduceToNat, forall_eq, Int.reduceEq, Int.reduceLT, Int.reduceLE, Int.reduceNeg, Int.reduceAdd, Int.reduceSub, map_len, ht2]
      refine ⟨⟨by omega, by unfold maxLen; omega⟩, fun u1 => ?_⟩
      obtain ⟨M, hM⟩ : ∃ M, M = L ++ [n.s] := ⟨_, rfl⟩
      have hMn : nodeNames n = [n.s] ++ n.pats.flatMap (fun q => varsOf q.nodes) := by simp [nodeNames, *]
      have hMl : M.length + (n.pats.flatMap (fun q => varsOf q.nodes)).length ≤ Bulk.bulk p.nodes := by
        rw [hMn, List.length_append] at hb1; rw [hM, List.length_append]; omega
      have hfin : allNames (p.nodes.take (k + 1)) = M ++ n.pats.flatMap (fun q => varsOf q.nodes) := by rw [hn1, hMn, hM, List.append_assoc]
      refine aLoop_of (X := Nat × Nat) (fun x => ⟨[(3, .row 11 x.2 (M ++ (n.pats.take x.1).flatMap (fun q => varsOf q.nodes)).length), (13, .sl (p.nodes.map av)), (14, .int .i64 p.nodes.length), (15, .int .i64 k), (32, .sl (n.pats.map av)), (33, .int .i64 n.pats.length), (34, .int .i64 x.1)], [(11, ⟨x.2, false, 9, 1, (M ++ (n.pats.take x.1).flatMap (fun q => varsOf q.nodes)).map av⟩)]⟩) (fun x => x.1 ≤ n.pats.length) (fun x => n.pats.length - x.1) (0, u1) (Nat.zero_le _) (by simp +contextual -dsimp (maxSteps := 2000000) only [↓SD, SU, SB, Nat.reduceAdd, Nat.reduceBEq, Nat.reduceEqDiff, Nat.reduceLeDiff, Nat.reduceLT, Nat.reduceSub, ↓reduceIte, forall_const, implies_true, ne_eq, reduceCtorEq, Int.reduceToNat, forall_eq, List.flatMap_nil, hM, List.length_append]) (by simp +contextual -dsimp (maxSteps := 2000000) only [↓SD, SU, SB, Nat.reduceAdd, Nat.reduceBEq, Nat.reduceEqDiff, Nat.reduceLeDiff, Nat.reduceLT, Nat.reduceSub, ↓reduceIte, forall_const, implies_true, ne_eq, reduceCtorEq, Int.reduceToNat, forall_eq, List.flatMap_nil, hM, List.map_append, av_str]) ?_
      rintro ⟨j, u2⟩ hj
      simp only at hj
      by_cases hlj : j < n.pats.length
      · have e3 := getD_map av n.pats j .top hlj
        have hp1 := pats_take hlj
        have hp2 := pats_names n.pats j
        have hp3 := pats_names n.pats (j + 1)
        have hm3 := bulk_mem (List.getElem_mem hlj)
        rw [hp1, List.length_append] at hp3
        have hqn : Bulk.bulk n.pats[j] = Bulk.bulk n.pats[j].nodes + 1 := rfl
        have C3 := patNames_ok n.pats[j].nodes (by omega)
        generalize n.pats[j] = q at *
        obtain ⟨K, hK⟩ : ∃ K, K = M ++ (n.pats.take j).flatMap (fun q => varsOf q.nodes) := ⟨_, rfl⟩
        have hKl : K.length ≤ 2097152 := by rw [hK, List.length_append]; omega
        have hint : ∀ y ∈ (varsOf q.nodes).map (av : ByteArray → AV), y.cells.length = 1 := fun y hy => by obtain ⟨x, _, rfl⟩ := List.mem_map.1 hy; rfl
        have ht3 : List.take K.length (K.map (av : ByteArray → AV)) = K.map av := List.take_of_length_le (by simp)
        rw [← hK]
        simp +contextual -dsimp (maxSteps := 2000000) only [↓SD, SU, SB, Nat.reduceAdd, Nat.reduceBEq, Nat.reduceEqDiff, Nat.reduceLeDiff, Nat.reduceLT, Nat.reduceSub, ↓reduceIte, forall_const, implies_true, ne_eq, reduceCtorEq, Int.reduceToNat, forall_eq, Int.reduceEq, Int.reduceLT, Int.reduceLE, Int.reduceNeg, Int.reduceAdd, Int.reduceSub, map_len, hlj, e3, av_Pat]
        intro v7
        refine aCallK_of _ C3 ?_
        simp +contextual -dsimp (maxSteps := 2000000) only [↓SD, SU, SB, Nat.reduceAdd, Nat.reduceBEq, Nat.reduceEqDiff, Nat.reduceLeDiff, Nat.reduceLT, Nat.reduceSub, ↓reduceIte, forall_const, implies_true, ne_eq, reduceCtorEq, Int.reduceToNat, forall_eq, Int.reduceEq, Int.reduceLT, Int.reduceLE, Int.reduceNeg, Int.reduceAdd, Int.reduceSub, map_len, map_nop, ht3]
        refine ⟨⟨hint, by omega, by unfold maxLen; omega⟩, fun u3 => ⟨by omega, Goes.le ⟨(j + 1, u3), ⟨hlj, (by first | omega | (simp only; omega))⟩, rfl⟩ (by simp +contextual -dsimp (maxSteps := 2000000) only [↓SD, SU, SB, Nat.reduceAdd, Nat.reduceBEq, Nat.reduceEqDiff, Nat.reduceLeDiff, Nat.reduceLT, Nat.reduceSub, ↓reduceIte, forall_const, implies_true, ne_eq, reduceCtorEq, Int.reduceToNat, forall_eq, Int.natCast_add, hp1, hK, List.length_append, ← List.append_assoc, Nat.add_assoc]) (by simp +contextual -dsimp (maxSteps := 2000000) only [↓SD, SU, SB, Nat.reduceAdd, Nat.reduceBEq, Nat.reduceEqDiff, Nat.reduceLeDiff, Nat.reduceLT, Nat.reduceSub, ↓reduceIte, forall_const, implies_true, ne_eq, reduceCtorEq, Int.reduceToNat, forall_eq, hp1, hK, List.map_append, ← List.append_assoc])⟩⟩
      · obtain rfl : j = n.pats.length := by omega
        rw [List.take_length]
        simp +contextual -dsimp (maxSteps := 2000000) only [↓SD, SU, SB, Nat.reduceAdd, Nat.reduceBEq, Nat.reduceEqDiff, Nat.reduceLeDiff, Nat.reduceLT, Nat.reduceSub, ↓reduceIte, forall_const, implies_true, ne_eq, reduceCtorEq, Int.reduceToNat, forall_eq, Int.reduceEq, Int.reduceLT, Int.reduceLE, Int.reduceNeg, Int.reduceAdd, Int.reduceSub, map_len, Nat.lt_irrefl]
        exact ⟨by omega, Goes.le ⟨(k + 1, u2), ⟨hlt, (by first | omega | (simp only; omega))⟩, rfl⟩ (by simp +contextual -dsimp (maxSteps := 2000000) only [↓SD, SU, SB, Nat.reduceAdd, Nat.reduceBEq, Nat.reduceEqDiff, Nat.reduceLeDiff, Nat.reduceLT, Nat.reduceSub, ↓reduceIte, forall_const, implies_true, ne_eq, reduceCtorEq, Int.reduceToNat, forall_eq, Int.natCast_add, hfin]) (by simp +contextual -dsimp (maxSteps := 2000000) only [↓SD, SU, SB, Nat.reduceAdd, Nat.reduceBEq, Nat.reduceEqDiff, Nat.reduceLeDiff, Nat.reduceLT, Nat.reduceSub, ↓reduceIte, forall_const, implies_true, ne_eq, reduceCtorEq, Int.reduceToNat, forall_eq, hfin])⟩
    | false =>
      rw [hbd] at C2
      simp +contextual -dsimp (maxSteps := 2000000) only [↓SD, SU, SB, Nat.reduceAdd, Nat.reduceBEq, Nat.reduceEqDiff, Nat.reduceLeDiff, Nat.reduceLT, Nat.reduceSub, ↓reduceIte, forall_const, implies_true, ne_eq, reduceCtorEq, Int.reduceToNat, forall_eq, Int.reduceEq, Int.reduceLT, Int.reduceLE, Int.reduceNeg, Int.reduceAdd, Int.reduceSub, map_len, hlt, e, av_Node, h3]
      intro v5
      refine aCallK_of _ C2 ?_
      simp +contextual -dsimp (maxSteps := 2000000) only [↓SD, SU, SB, Nat.reduceAdd, Nat.reduceBEq, Nat.reduceEqDiff, Nat.reduceLeDiff, Nat.reduceLT, Nat.reduceSub, ↓reduceIte, forall_const, implies_true, ne_eq, reduceCtorEq, Int.reduceToNat, forall_eq, Int.reduceEq, Int.reduceLT, Int.reduceLE, Int.reduceNeg, Int.reduceAdd, Int.reduceSub, map_len]
      obtain ⟨M, hM⟩ : ∃ M, M = L ++ ([] : List ByteArray) := ⟨_, rfl⟩
      have hMn : nodeNames n = ([] : List ByteArray) ++ n.pats.flatMap (fun q => varsOf q.nodes) := by simp [nodeNames, *]
      have hMl : M.length + (n.pats.flatMap (fun q => varsOf q.nodes)).length ≤ Bulk.bulk p.nodes := by
        rw [hMn, List.length_append] at hb1; rw [hM, List.length_append]; omega
      have hfin : allNames (p.nodes.take (k + 1)) = M ++ n.pats.flatMap (fun q => varsOf q.nodes) := by rw [hn1, hMn, hM, List.append_assoc]
      refine aLoop_of (X := Nat × Nat) (fun x => ⟨[(3, .row 11 x.2 (M ++ (n.pats.take x.1).flatMap (fun q => varsOf q.nodes)).length), (13, .sl (p.nodes.map av)), (14, .int .i64 p.nodes.length), (15, .int .i64 k), (32, .sl (n.pats.map av)), (33, .int .i64 n.pats.length), (34, .int .i64 x.1)], [(11, ⟨x.2, false, 9, 1, (M ++ (n.pats.take x.1).flatMap (fun q => varsOf q.nodes)).map av⟩)]⟩) (fun x => x.1 ≤ n.pats.length) (fun x => n.pats.length - x.1) (0, u) (Nat.zero_le _) (by simp +contextual -dsimp (maxSteps := 2000000) only [↓SD, SU, SB, Nat.reduceAdd, Nat.reduceBEq, Nat.reduceEqDiff, Nat.reduceLeDiff, Nat.reduceLT, Nat.reduceSub, ↓reduceIte, forall_const, implies_true, ne_eq, reduceCtorEq, Int.reduceToNat, forall_eq, List.flatMap_nil, hM, List.length_append]) (by simp +contextual -dsimp (maxSteps := 2000000) only [↓SD, SU, SB, Nat.reduceAdd, Nat.reduceBEq, Nat.reduceEqDiff, Nat.reduceLeDiff, Nat.reduceLT, Nat.reduceSub, ↓reduceIte, forall_const, implies_true, ne_eq, reduceCtorEq, Int.reduceToNat, forall_eq, List.flatMap_nil, hM, List.map_append, av_str]) ?_
      rintro ⟨j, u2⟩ hj
      simp only at hj
      by_cases hlj : j < n.pats.length
      · have e3 := getD_map av n.pats j .top hlj
        have hp1 := pats_take hlj
        have hp2 := pats_names n.pats j
        have hp3 := pats_names n.pats (j + 1)
        have hm3 := bulk_mem (List.getElem_mem hlj)
        rw [hp1, List.length_append] at hp3
        have hqn : Bulk.bulk n.pats[j] = Bulk.bulk n.pats[j].nodes + 1 := rfl
        have C3 := patNames_ok n.pats[j].nodes (by omega)
        generalize n.pats[j] = q at *
        obtain ⟨K, hK⟩ : ∃ K, K = M ++ (n.pats.take j).flatMap (fun q => varsOf q.nodes) := ⟨_, rfl⟩
        have hKl : K.length ≤ 2097152 := by rw [hK, List.length_append]; omega
        have hint : ∀ y ∈ (varsOf q.nodes).map (av : ByteArray → AV), y.cells.length = 1 := fun y hy => by obtain ⟨x, _, rfl⟩ := List.mem_map.1 hy; rfl
        have ht3 : List.take K.length (K.map (av : ByteArray → AV)) = K.map av := List.take_of_length_le (by simp)
        rw [← hK]
        simp +contextual -dsimp (maxSteps := 2000000) only [↓SD, SU, SB, Nat.reduceAdd, Nat.reduceBEq, Nat.reduceEqDiff, Nat.reduceLeDiff, Nat.reduceLT, Nat.reduceSub, ↓reduceIte, forall_const, implies_true, ne_eq, reduceCtorEq, Int.reduceToNat, forall_eq, Int.reduceEq, Int.reduceLT, Int.reduceLE, Int.reduceNeg, Int.reduceAdd, Int.reduceSub, map_len, hlj, e3, av_Pat]
        intro v7
        refine aCallK_of _ C3 ?_
        simp +contextual -dsimp (maxSteps := 2000000) only [↓SD, SU, SB, Nat.reduceAdd, Nat.reduceBEq, Nat.reduceEqDiff, Nat.reduceLeDiff, Nat.reduceLT, Nat.reduceSub, ↓reduceIte, forall_const, implies_true, ne_eq, reduceCtorEq, Int.reduceToNat, forall_eq, Int.reduceEq, Int.reduceLT, Int.reduceLE, Int.reduceNeg, Int.reduceAdd, Int.reduceSub, map_len, map_nop, ht3]
        refine ⟨⟨hint, by omega, by unfold maxLen; omega⟩, fun u3 => ⟨by omega, Goes.le ⟨(j + 1, u3), ⟨hlj, (by first | omega | (simp only; omega))⟩, rfl⟩ (by simp +contextual -dsimp (maxSteps := 2000000) only [↓SD, SU, SB, Nat.reduceAdd, Nat.reduceBEq, Nat.reduceEqDiff, Nat.reduceLeDiff, Nat.reduceLT, Nat.reduceSub, ↓reduceIte, forall_const, implies_true, ne_eq, reduceCtorEq, Int.reduceToNat, forall_eq, Int.natCast_add, hp1, hK, List.length_append, ← List.append_assoc, Nat.add_assoc]) (by simp +contextual -dsimp (maxSteps := 2000000) only [↓SD, SU, SB, Nat.reduceAdd, Nat.reduceBEq, Nat.reduceEqDiff, Nat.reduceLeDiff, Nat.reduceLT, Nat.reduceSub, ↓reduceIte, forall_const, implies_true, ne_eq, reduceCtorEq, Int.reduceToNat, forall_eq, hp1, hK, List.map_append, ← List.append_assoc])⟩⟩
      · obtain rfl : j = n.pats.length := by omega
        rw [List.take_length]
        simp +contextual -dsimp (maxSteps := 2000000) only [↓SD, SU, SB, Nat.reduceAdd, Nat.reduceBEq, Nat.reduceEqDiff, Nat.reduceLeDiff, Nat.reduceLT, Nat.reduceSub, ↓reduceIte, forall_const, implies_true, ne_eq, reduceCtorEq, Int.reduceToNat, forall_eq, Int.reduceEq, Int.reduceLT, Int.reduceLE, Int.reduceNeg, Int.reduceAdd, Int.reduceSub, map_len, Nat.lt_irrefl]
        exact ⟨by omega, Goes.le ⟨(k + 1, u2), ⟨hlt, (by first | omega | (simp only; omega))⟩, rfl⟩ (by simp +contextual -dsimp (maxSteps := 2000000) only [↓SD, SU, SB, Nat.reduceAdd, Nat.reduceBEq, Nat.reduceEqDiff, Nat.reduceLeDiff, Nat.reduceLT, Nat.reduceSub, ↓reduceIte, forall_const, implies_true, ne_eq, reduceCtorEq, Int.reduceToNat, forall_eq, Int.natCast_add, hfin]) (by simp +contextual -dsimp (maxSteps := 2000000) only [↓SD, SU, SB, Nat.reduceAdd, Nat.reduceBEq, Nat.reduceEqDiff, Nat.reduceLeDiff, Nat.reduceLT, Nat.reduceSub, ↓reduceIte, forall_const, implies_true, ne_eq, reduceCtorEq, Int.reduceToNat, forall_eq, hfin])⟩
  · obtain rfl : k = p.nodes.length := by omega
    have hb1 := all_names p.nodes p.nodes.length
    rw [List.take_length] at hb1
    simp +contextual -dsimp (maxSteps := 2000000) only [↓SD, SU, SB, Nat.reduceAdd, Nat.reduceBEq, Nat.reduceEqDiff, Nat.reduceLeDiff, Nat.reduceLT, Nat.reduceSub, ↓reduceIte, forall_const, implies_true, ne_eq, reduceCtorEq, Int.reduceToNat, forall_eq, map_len, Nat.lt_irrefl, List.take_length]
    refine aCallH_of [11] (SortStr_ok 11 u (allNames p.nodes) (by omega)) (by simp +contextual -dsimp (maxSteps := 2000000) only [↓SD, SU, SB, Nat.reduceAdd, Nat.reduceBEq, Nat.reduceEqDiff, Nat.reduceLeDiff, Nat.reduceLT, Nat.reduceSub, ↓reduceIte, forall_const, implies_true, ne_eq, reduceCtorEq, Int.reduceToNat, forall_eq]) ?_
    rintro r hp' ⟨rfl, rfl⟩
    simp +contextual -dsimp (maxSteps := 2000000) only [↓SD, SU, SB, Nat.reduceAdd, Nat.reduceBEq, Nat.reduceEqDiff, Nat.reduceLeDiff, Nat.reduceLT, Nat.reduceSub, ↓reduceIte, forall_const, implies_true, ne_eq, reduceCtorEq, Int.reduceToNat, forall_eq, map_len, sortS_len, Nat.le_refl, List.take_length]
    have CC := CompactStr_ok 11 u (sortS (allNames p.nodes)) (by rw [sortS_len]; omega)
    rw [sortS_len] at CC
    refine aCallH_of [11] CC (by simp +contextual -dsimp (maxSteps := 2000000) only [↓SD, SU, SB, Nat.reduceAdd, Nat.reduceBEq, Nat.reduceEqDiff, Nat.reduceLeDiff, Nat.reduceLT, Nat.reduceSub, ↓reduceIte, forall_const, implies_true, ne_eq, reduceCtorEq, Int.reduceToNat, forall_eq]) ?_
    rintro r hp' ⟨rfl, rfl⟩
    simp +contextual -dsimp (maxSteps := 2000000) only [↓SD, SU, SB, Nat.reduceAdd, Nat.reduceBEq, Nat.reduceEqDiff, Nat.reduceLeDiff, Nat.reduceLT, Nat.reduceSub, ↓reduceIte, forall_const, implies_true, ne_eq, reduceCtorEq, Int.reduceToNat, forall_eq]
    refine Goes.post [(11, ⟨u, false, 9, 1, (namesL p ++ restS (sortS (allNames p.nodes))).map av⟩)] ?_
    have hN : dedS (sortS (allNames p.nodes)) = namesL p := rfl
    have hle : (namesL p).length ≤ (namesL p ++ restS (sortS (allNames p.nodes))).length := by rw [List.length_append]; omega
    simp +contextual -dsimp (maxSteps := 2000000) only [↓SD, SU, SB, Nat.reduceAdd, Nat.reduceBEq, Nat.reduceEqDiff, Nat.reduceLeDiff, Nat.reduceLT, Nat.reduceSub, ↓reduceIte, forall_const, implies_true, ne_eq, reduceCtorEq, Int.reduceToNat, forall_eq, map_len, hN, hle]
    exact ⟨u, rfl, rfl⟩

theorem bs_v : bs [118] = (⟨#[118]⟩ : ByteArray) := rfl
theorem depthName_ok (k : Nat) (hk : k ≤ 4611686018427387903) : CallsF Tryz.prog 63 [.int .i64 (k : Int)] (.str (nmK k)) := by
  refine fun_impl_depthName rfl (by simp; exact pint _) (AvPure.str _) ?_
  have hs := digS_le k (by omega)
  simp +contextual -dsimp (maxSteps := 2000000) only [↓SD, SU, SB, Nat.reduceAdd, Nat.reduceBEq, Nat.reduceEqDiff, Nat.reduceLeDiff, Nat.reduceLT, Nat.reduceSub, ↓reduceIte, forall_const, implies_true, ne_eq, reduceCtorEq, Int.reduceToNat, forall_eq, Int.reduceEq, Int.reduceLT, Int.reduceLE, Int.reduceNeg, Int.reduceAdd, Int.reduceSub, ir_impl_depthName, rs_impl_depthName]
  refine aCallK_of _ (digits_ok k (by omega)) ?_
  simp +contextual -dsimp (maxSteps := 2000000) only [↓SD, SU, SB, Nat.reduceAdd, Nat.reduceBEq, Nat.reduceEqDiff, Nat.reduceLeDiff, Nat.reduceLT, Nat.reduceSub, ↓reduceIte, forall_const, implies_true, ne_eq, reduceCtorEq, Int.reduceToNat, forall_eq, Int.reduceEq, Int.reduceLT, Int.reduceLE, Int.reduceNeg, Int.reduceAdd, Int.reduceSub, bs_v]
  refine ⟨?_, rfl⟩
  have h1 : (⟨#[118]⟩ : ByteArray).size = 1 := rfl
  unfold maxLen; omega
theorem l15Name_ok (k : Nat) (hk : k ≤ 4611686018427387903) : CallsF Tryz.prog 61 [.int .i64 (k : Int)] (.str (nmK k)) := by
  refine fun_spec_l15Name rfl (by simp; exact pint _) (AvPure.str _) ?_
  have hs := digS_le k (by omega)
  have hn : numS (k : Int) = digS k := by unfold numS; rw [if_pos (by omega), if_neg (by omega), Int.toNat_natCast]
  have C := specNumText_ok (k : Int) (by omega)
  rw [hn] at C
  simp +contextual -dsimp (maxSteps := 2000000) only [↓SD, SU, SB, Nat.reduceAdd, Nat.reduceBEq, Nat.reduceEqDiff, Nat.reduceLeDiff, Nat.reduceLT, Nat.reduceSub, ↓reduceIte, forall_const, implies_true, ne_eq, reduceCtorEq, Int.reduceToNat, forall_eq, Int.reduceEq, Int.reduceLT, Int.reduceLE, Int.reduceNeg, Int.reduceAdd, Int.reduceSub, ir_spec_l15Name, rs_spec_l15Name]
  refine aCallK_of _ C ?_
  simp +contextual -dsimp (maxSteps := 2000000) only [↓SD, SU, SB, Nat.reduceAdd, Nat.reduceBEq, Nat.reduceEqDiff, Nat.reduceLeDiff, Nat.reduceLT, Nat.reduceSub, ↓reduceIte, forall_const, implies_true, ne_eq, reduceCtorEq, Int.reduceToNat, forall_eq, Int.reduceEq, Int.reduceLT, Int.reduceLE, Int.reduceNeg, Int.reduceAdd, Int.reduceSub, bs_v]
  refine ⟨?_, rfl⟩
  have h1 : (⟨#[118]⟩ : ByteArray).size = 1 := rfl
  unfold maxLen; omega
theorem namesL_mem (p : Program) (s : ByteArray) : s ∈ namesL p ↔ s ∈ allNames p.nodes := by
  unfold namesL dedS
  rw [ofL, List.mem_map]
  constructor
  · rintro ⟨x, hx, rfl⟩
    rw [compact_mem, toL, List.mem_map] at hx
    obtain ⟨y, hy, rfl⟩ := hx
    exact (sortS_mem _ _).1 hy
  · intro h
    refine ⟨s.data.toList, ?_, by rfl⟩
    rw [compact_mem, toL, List.mem_map]
    exact ⟨s, (sortS_mem _ _).2 h, rfl⟩
theorem namesL_len (p : Program) : (namesL p).length ≤ (allNames p.nodes).length := by
  unfold namesL dedS
  rw [ofL_len]
  have := Lib.compact_length_le (toL (sortS (allNames p.nodes)))
  rwa [toL_len, sortS_len] at this
/-- the first free name -/
def freshS (p : Program) (s : ByteArray) : Prop := if progB p then ∃ K, FirstK (allNames p.nodes) K ∧ s = nmK K else s = ⟨#[]⟩
theorem fresh_ex (p : Program) : ∃ s, freshS p s := by
  unfold freshS
  split
  · obtain ⟨K, h⟩ := firstK_ex (allNames p.nodes); exact ⟨_, K, h, rfl⟩
  · exact ⟨_, rfl⟩
theorem any_yes {l : List ByteArray} {s : ByteArray} (h : s ∈ l) : (l.any fun x => decide (s = x)) = true := by
  simp only [List.any_eq_true, decide_eq_true_eq]
  exact ⟨s, h, rfl⟩
theorem any_no {l : List ByteArray} {s : ByteArray} (h : ¬ s ∈ l) : (l.any fun x => decide (s = x)) = false := by
  rw [List.any_eq_false]
  intro x hx
  simp only [decide_eq_true_eq]
  rintro rfl
  exact h hx
theorem implFresh_ok (p : Program) (s : ByteArray) (hx : Bulk.bulk p ≤ 1048576) (hs : freshS p s) : CallsF Tryz.prog 25 [av p] (.str s) := by
  obtain ⟨q1, q2, q3, q4⟩ := prog_small hx
  refine fun_impl_Fresh rfl (by simp; exact AVal.clean p) (AvPure.str _) ?_
  have C := implProgramOk_ok p hx
  rw [av_Program] at C
  simp +contextual -dsimp (maxSteps := 2000000) only [↓SD, SU, SB, Nat.reduceAdd, Nat.reduceBEq, Nat.reduceEqDiff, Nat.reduceLeDiff, Nat.reduceLT, Nat.reduceSub, ↓reduceIte, forall_const, implies_true, ne_eq, reduceCtorEq, Int.reduceToNat, forall_eq, ir_impl_Fresh, rs_impl_Fresh, av_Program, map_len]
  cases hb : progB p with
  | false =>
    rw [hb] at C
    rw [freshS, hb, if_neg Bool.false_ne_true] at hs
    subst hs
    refine aCallK_of _ C ?_
    simp +contextual -dsimp (maxSteps := 2000000) only [↓SD, SU, SB, Nat.reduceAdd, Nat.reduceBEq, Nat.reduceEqDiff, Nat.reduceLeDiff, Nat.reduceLT, Nat.reduceSub, ↓reduceIte, forall_const, implies_true, ne_eq, reduceCtorEq, Int.reduceToNat, forall_eq]
    rfl
  | true =>
    rw [hb] at C
    rw [freshS, hb, if_pos rfl] at hs
    obtain ⟨K, hK, rfl⟩ := hs
    have hKl := hK.le
    have hal := all_names p.nodes p.nodes.length
    rw [List.take_length] at hal
    have hnl := namesL_len p
    have CN := implNames_ok p hx hb
    rw [av_Program] at CN
    refine aCallK_of _ C ?_
    simp +contextual -dsimp (maxSteps := 2000000) only [↓SD, SU, SB, Nat.reduceAdd, Nat.reduceBEq, Nat.reduceEqDiff, Nat.reduceLeDiff, Nat.reduceLT, Nat.reduceSub, ↓reduceIte, forall_const, implies_true, ne_eq, reduceCtorEq, Int.reduceToNat, forall_eq]
    refine aCallH_of [] CN (by simp +contextual -dsimp (maxSteps := 2000000) only [↓SD, SU, SB, Nat.reduceAdd, Nat.reduceBEq, Nat.reduceEqDiff, Nat.reduceLeDiff, Nat.reduceLT, Nat.reduceSub, ↓reduceIte, forall_const, implies_true, ne_eq, reduceCtorEq, Int.reduceToNat, forall_eq]) ?_
    rintro r hp' ⟨v, rfl, rfl⟩
    obtain ⟨E, hE⟩ : ∃ E, E = namesL p ++ restS (sortS (allNames p.nodes)) := ⟨_, rfl⟩
    have hEt : List.take (namesL p).length (E.map (av : ByteArray → AV)) = (namesL p).map av := by rw [hE, List.map_append, List.take_append_of_le_length (by simp), List.take_of_length_le (by simp)]
    have hEl : (namesL p).length ≤ E.length := by rw [hE, List.length_append]; omega
    rw [← hE]
    simp +contextual -dsimp (maxSteps := 2000000) only [↓SD, SU, SB, Nat.reduceAdd, Nat.reduceBEq, Nat.reduceEqDiff, Nat.reduceLeDiff, Nat.reduceLT, Nat.reduceSub, ↓reduceIte, forall_const, implies_true, ne_eq, reduceCtorEq, Int.reduceToNat, forall_eq, map_len]
    refine aLoop_of (X := Nat) (fun k => ⟨[(3, .row 11 v (namesL p).length), (4, .int .i64 (k : Int))], [(11, ⟨v, false, 9, 1, E.map av⟩)]⟩) (fun k => k ≤ K) (fun k => K - k) 0 (Nat.zero_le _) (by simp +contextual -dsimp (maxSteps := 2000000) only [↓SD, SU, SB, Nat.reduceAdd, Nat.reduceBEq, Nat.reduceEqDiff, Nat.reduceLeDiff, Nat.reduceLT, Nat.reduceSub, ↓reduceIte, forall_const, implies_true, ne_eq, reduceCtorEq, Int.reduceToNat, forall_eq]) (by simp +contextual -dsimp (maxSteps := 2000000) only [↓SD, SU, SB, Nat.reduceAdd, Nat.reduceBEq, Nat.reduceEqDiff, Nat.reduceLeDiff, Nat.reduceLT, Nat.reduceSub, ↓reduceIte, forall_const, implies_true, ne_eq, reduceCtorEq, Int.reduceToNat, forall_eq]) ?_
    rintro k hk
    simp +contextual -dsimp (maxSteps := 2000000) only [↓SD, SU, SB, Nat.reduceAdd, Nat.reduceBEq, Nat.reduceEqDiff, Nat.reduceLeDiff, Nat.reduceLT, Nat.reduceSub, ↓reduceIte, forall_const, implies_true, ne_eq, reduceCtorEq, Int.reduceToNat, forall_eq, map_len]
    refine aCallK_of _ (depthName_ok k (by omega)) ?_
    have CC := ContainsStr_ok (namesL p) (nmK k) (by omega)
    simp +contextual -dsimp (maxSteps := 2000000) only [↓SD, SU, SB, Nat.reduceAdd, Nat.reduceBEq, Nat.reduceEqDiff, Nat.reduceLeDiff, Nat.reduceLT, Nat.reduceSub, ↓reduceIte, forall_const, implies_true, ne_eq, reduceCtorEq, Int.reduceToNat, forall_eq, map_len, hEl]
    by_cases hlt : k < K
    · have hm : nmK k ∈ namesL p := (namesL_mem _ _).2 (hK.1 k hlt)
      rw [any_yes hm] at CC
      refine aCallL_of [11] CC rfl (by simp +contextual -dsimp (maxSteps := 2000000) only [↓SD, SU, SB, Nat.reduceAdd, Nat.reduceBEq, Nat.reduceEqDiff, Nat.reduceLeDiff, Nat.reduceLT, Nat.reduceSub, ↓reduceIte, forall_const, implies_true, ne_eq, reduceCtorEq, Int.reduceToNat, forall_eq, map_nop, hEt, hEl, map_len]) ?_
      simp +contextual -dsimp (maxSteps := 2000000) only [↓SD, SU, SB, Nat.reduceAdd, Nat.reduceBEq, Nat.reduceEqDiff, Nat.reduceLeDiff, Nat.reduceLT, Nat.reduceSub, ↓reduceIte, forall_const, implies_true, ne_eq, reduceCtorEq, Int.reduceToNat, forall_eq]
      exact ⟨by omega, Goes.le ⟨k + 1, ⟨hlt, (by first | omega | (simp only; omega))⟩, rfl⟩ (by simp +contextual -dsimp (maxSteps := 2000000) only [↓SD, SU, SB, Nat.reduceAdd, Nat.reduceBEq, Nat.reduceEqDiff, Nat.reduceLeDiff, Nat.reduceLT, Nat.reduceSub, ↓reduceIte, forall_const, implies_true, ne_eq, reduceCtorEq, Int.reduceToNat, forall_eq, Int.natCast_add]) (by simp +contextual -dsimp (maxSteps := 2000000) only [↓SD, SU, SB, Nat.reduceAdd, Nat.reduceBEq, Nat.reduceEqDiff, Nat.reduceLeDiff, Nat.reduceLT, Nat.reduceSub, ↓reduceIte, forall_const, implies_true, ne_eq, reduceCtorEq, Int.reduceToNat, forall_eq])⟩
    · obtain rfl : k = K := by omega
      have hm : ¬ nmK k ∈ namesL p := fun h => hK.2 ((namesL_mem _ _).1 h)
      rw [any_no hm] at CC
      refine aCallL_of [11] CC rfl (by simp +contextual -dsimp (maxSteps := 2000000) only [↓SD, SU, SB, Nat.reduceAdd, Nat.reduceBEq, Nat.reduceEqDiff, Nat.reduceLeDiff, Nat.reduceLT, Nat.reduceSub, ↓reduceIte, forall_const, implies_true, ne_eq, reduceCtorEq, Int.reduceToNat, forall_eq, map_nop, hEt, hEl, map_len]) ?_
      simp +contextual -dsimp (maxSteps := 2000000) only [↓SD, SU, SB, Nat.reduceAdd, Nat.reduceBEq, Nat.reduceEqDiff, Nat.reduceLeDiff, Nat.reduceLT, Nat.reduceSub, ↓reduceIte, forall_const, implies_true, ne_eq, reduceCtorEq, Int.reduceToNat, forall_eq]
      refine aCallK_of _ (depthName_ok k (by omega)) ?_
      simp +contextual -dsimp (maxSteps := 2000000) only [↓SD, SU, SB, Nat.reduceAdd, Nat.reduceBEq, Nat.reduceEqDiff, Nat.reduceLeDiff, Nat.reduceLT, Nat.reduceSub, ↓reduceIte, forall_const, implies_true, ne_eq, reduceCtorEq, Int.reduceToNat, forall_eq]
end Go.Proofs.YtpomnlejlgojaaaGreat
