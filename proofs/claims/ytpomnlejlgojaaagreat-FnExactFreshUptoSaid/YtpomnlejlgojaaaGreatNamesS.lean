/-
  Names AND Fresh OF THE REFERENCE, by abstract texts. Conditions: none.
-/
import Derived.Test.YtpomnlejlgojaaaGreatNamesW
set_option linter.unusedVariables false
set_option linter.unusedSimpArgs false
set_option maxRecDepth 100000
namespace Go.Proofs.YtpomnlejlgojaaaGreat
open Go.RowKit Go.Proofs.YtpomnlejlgojaaaGreat.Av Go.Proofs.YtpomnlejlgojaaaGreat.Ml
open Go.Proofs.YtpomnlejlgojaaaGreat.Av.AVal (av)

theorem less_as (a b : ByteArray) : Op.bytesLess a.toList b.toList = lessS a b := rfl
theorem l15Put_ok (l : List ByteArray) (s : ByteArray) (hl : l.length ≤ 2097152) : CallsF Tryz.prog 78 [.sl (l.map av), .str s] (.sl ((putS l s).map av)) := by
  refine fun_spec_l15Put rfl (by simp; exact ⟨lav_clean l, AvPure.str _⟩) (lav_clean _) ?_
  simp +contextual -dsimp (maxSteps := 2000000) only [↓SD, SU, SB, Nat.reduceAdd, Nat.reduceBEq, Nat.reduceEqDiff, Nat.reduceLeDiff, Nat.reduceLT, Nat.reduceSub, ↓reduceIte, forall_const, implies_true, ne_eq, reduceCtorEq, Int.reduceToNat, forall_eq, Int.reduceEq, Int.reduceLT, Int.reduceLE, Int.reduceNeg, Int.reduceAdd, Int.reduceSub, ir_spec_l15Put, rs_spec_l15Put, map_len]
  intro v
  refine aLoop_of (X := Nat × Nat) (fun x => ⟨[(0, .sl (l.map av)), (1, .str s), (5, .row 9 x.2 (insG s (l.take x.1)).length), (6, .bool ((l.take x.1).any (lessS s))), (10, .sl (l.map av)), (11, .int .i64 l.length), (12, .int .i64 x.1)], [(9, ⟨x.2, false, 9, 1, (insG s (l.take x.1)).map av⟩)]⟩) (fun x => x.1 ≤ l.length ∧ (l.take x.1).any (fun x => decide (x = s)) = false) (fun x => l.length - x.1) (0, v) ⟨Nat.zero_le _, rfl⟩ (by simp +contextual -dsimp (maxSteps := 2000000) only [↓SD, SU, SB, Nat.reduceAdd, Nat.reduceBEq, Nat.reduceEqDiff, Nat.reduceLeDiff, Nat.reduceLT, Nat.reduceSub, ↓reduceIte, forall_const, implies_true, ne_eq, reduceCtorEq, Int.reduceToNat, forall_eq, List.any_nil, insG]) (by simp +contextual -dsimp (maxSteps := 2000000) only [↓SD, SU, SB, Nat.reduceAdd, Nat.reduceBEq, Nat.reduceEqDiff, Nat.reduceLeDiff, Nat.reduceLT, Nat.reduceSub, ↓reduceIte, forall_const, implies_true, ne_eq, reduceCtorEq, Int.reduceToNat, forall_eq, insG]) ?_
  rintro ⟨k, u⟩ ⟨hk, ha⟩
  simp only at hk ha
  have hL := insG_len s (l.take k)
  rw [List.length_take] at hL
  by_cases hlt : k < l.length
  · have e := getD_map av l k .top hlt
    have ht : l.take (k + 1) = l.take k ++ [l[k]] := List.take_succ_eq_append_getElem hlt
    have hm := List.getElem_mem hlt
    have hsn := insG_snoc s l[k] (l.take k)
    rw [← ht] at hsn
    have han : (l.take (k + 1)).any (lessS s) = ((l.take k).any (lessS s) || lessS s l[k]) := by rw [ht, List.any_append]; simp
    have haq : (l.take (k + 1)).any (fun x => decide (x = s)) = decide (l[k] = s) := by rw [ht, List.any_append, ha]; simp
    have hput : l[k] = s → putS l s = l := fun h => by
      unfold putS
      rw [if_pos]
      simp only [List.any_eq_true, decide_eq_true_eq]
      exact ⟨l[k], hm, h⟩
    generalize l[k] = a at *
    obtain ⟨G, hG⟩ : ∃ G, G = insG s (l.take k) := ⟨_, rfl⟩
    have hGt : List.take G.length (G.map (av : ByteArray → AV)) = G.map av := List.take_of_length_le (by simp)
    rw [← hG] at hL hsn
    have hGl : G.length ≤ l.length + 1 := by rw [hL]; split <;> omega
    rw [← hG]
    by_cases hq : a = s
    · simp +contextual -dsimp (maxSteps := 2000000) only [↓SD, SU, SB, Nat.reduceAdd, Nat.reduceBEq, Nat.reduceEqDiff, Nat.reduceLeDiff, Nat.reduceLT, Nat.reduceSub, ↓reduceIte, forall_const, implies_true, ne_eq, reduceCtorEq, Int.reduceToNat, forall_eq, Int.reduceEq, Int.reduceLT, Int.reduceLE, Int.reduceNeg, Int.reduceAdd, Int.reduceSub, map_len, hlt, e, av_str, hq]
      rw [hput hq]
    · rw [decide_eq_false hq] at haq
      cases hd : (l.take k).any (lessS s)
      · cases hls : lessS s a
        · rw [hd, hls] at han hsn
          simp only [Bool.false_or] at han
          simp only [Bool.false_eq_true, and_false, if_false] at hsn
          simp +contextual -dsimp (maxSteps := 2000000) only [↓SD, SU, SB, Nat.reduceAdd, Nat.reduceBEq, Nat.reduceEqDiff, Nat.reduceLeDiff, Nat.reduceLT, Nat.reduceSub, ↓reduceIte, forall_const, implies_true, ne_eq, reduceCtorEq, Int.reduceToNat, forall_eq, Int.reduceEq, Int.reduceLT, Int.reduceLE, Int.reduceNeg, Int.reduceAdd, Int.reduceSub, map_len, hlt, e, av_str, hq, hd, less_as, hls, hGt]
          refine ⟨⟨by omega, by unfold maxLen; omega⟩, fun u' => ⟨by omega, Goes.le ⟨(k + 1, u'), ⟨⟨hlt, haq⟩, (by first | omega | (simp only; omega))⟩, rfl⟩ (by simp +contextual -dsimp (maxSteps := 2000000) only [↓SD, SU, SB, Nat.reduceAdd, Nat.reduceBEq, Nat.reduceEqDiff, Nat.reduceLeDiff, Nat.reduceLT, Nat.reduceSub, ↓reduceIte, forall_const, implies_true, ne_eq, reduceCtorEq, Int.reduceToNat, forall_eq, Int.natCast_add, hsn, han, List.length_append]) (by simp +contextual -dsimp (maxSteps := 2000000) only [↓SD, SU, SB, Nat.reduceAdd, Nat.reduceBEq, Nat.reduceEqDiff, Nat.reduceLeDiff, Nat.reduceLT, Nat.reduceSub, ↓reduceIte, forall_const, implies_true, ne_eq, reduceCtorEq, Int.reduceToNat, forall_eq, hsn, List.map_append, av_str])⟩⟩
        · rw [hd, hls] at han hsn
          simp only [Bool.false_or] at han
          simp only [and_self, if_true] at hsn
          have hG1 : (G.map (av : ByteArray → AV) ++ [AV.str s]).length = G.length + 1 := by simp
          have hG2 : List.take (G.length + 1) (G.map (av : ByteArray → AV) ++ [AV.str s]) = G.map av ++ [AV.str s] := List.take_of_length_le (by simp)
          simp +contextual -dsimp (maxSteps := 2000000) only [↓SD, SU, SB, Nat.reduceAdd, Nat.reduceBEq, Nat.reduceEqDiff, Nat.reduceLeDiff, Nat.reduceLT, Nat.reduceSub, ↓reduceIte, forall_const, implies_true, ne_eq, reduceCtorEq, Int.reduceToNat, forall_eq, Int.reduceEq, Int.reduceLT, Int.reduceLE, Int.reduceNeg, Int.reduceAdd, Int.reduceSub, map_len, hlt, e, av_str, hq, hd, less_as, hls, hGt, hG1, hG2]
          refine ⟨⟨by omega, by unfold maxLen; omega⟩, fun u1 => ⟨⟨by omega, by unfold maxLen; omega⟩, fun u' => ⟨by omega, Goes.le ⟨(k + 1, u'), ⟨⟨hlt, haq⟩, (by first | omega | (simp only; omega))⟩, rfl⟩ (by simp +contextual -dsimp (maxSteps := 2000000) only [↓SD, SU, SB, Nat.reduceAdd, Nat.reduceBEq, Nat.reduceEqDiff, Nat.reduceLeDiff, Nat.reduceLT, Nat.reduceSub, ↓reduceIte, forall_const, implies_true, ne_eq, reduceCtorEq, Int.reduceToNat, forall_eq, Int.natCast_add, hsn, han, List.length_append]) (by simp +contextual -dsimp (maxSteps := 2000000) only [↓SD, SU, SB, Nat.reduceAdd, Nat.reduceBEq, Nat.reduceEqDiff, Nat.reduceLeDiff, Nat.reduceLT, Nat.reduceSub, ↓reduceIte, forall_const, implies_true, ne_eq, reduceCtorEq, Int.reduceToNat, forall_eq, hsn, List.map_append, av_str, List.append_assoc])⟩⟩⟩
      · rw [hd] at han hsn
        simp only [Bool.true_or] at han
        simp only [Bool.true_eq_false, false_and, if_false] at hsn
        simp +contextual -dsimp (maxSteps := 2000000) only [↓SD, SU, SB, Nat.reduceAdd, Nat.reduceBEq, Nat.reduceEqDiff, Nat.reduceLeDiff, Nat.reduceLT, Nat.reduceSub, ↓reduceIte, forall_const, implies_true, ne_eq, reduceCtorEq, Int.reduceToNat, forall_eq, Int.reduceEq, Int.reduceLT, Int.reduceLE, Int.reduceNeg, Int.reduceAdd, Int.reduceSub, map_len, hlt, e, av_str, hq, hd, less_as, hGt]
        refine ⟨⟨by omega, by unfold maxLen; omega⟩, fun u' => ⟨by omega, Goes.le ⟨(k + 1, u'), ⟨⟨hlt, haq⟩, (by first | omega | (simp only; omega))⟩, rfl⟩ (by simp +contextual -dsimp (maxSteps := 2000000) only [↓SD, SU, SB, Nat.reduceAdd, Nat.reduceBEq, Nat.reduceEqDiff, Nat.reduceLeDiff, Nat.reduceLT, Nat.reduceSub, ↓reduceIte, forall_const, implies_true, ne_eq, reduceCtorEq, Int.reduceToNat, forall_eq, Int.natCast_add, hsn, han, List.length_append]) (by simp +contextual -dsimp (maxSteps := 2000000) only [↓SD, SU, SB, Nat.reduceAdd, Nat.reduceBEq, Nat.reduceEqDiff, Nat.reduceLeDiff, Nat.reduceLT, Nat.reduceSub, ↓reduceIte, forall_const, implies_true, ne_eq, reduceCtorEq, Int.reduceToNat, forall_eq, hsn, List.map_append, av_str])⟩⟩
  · obtain rfl : k = l.length := by omega
    rw [List.take_length] at ha hL ⊢
    have hGl : (insG s l).length ≤ l.length + 1 := by rw [hL]; split <;> omega
    cases hd : l.any (lessS s)
    · have hp : putS l s = l ++ [s] := by unfold putS; rw [ha, hd]; rfl
      rw [insG_none s hd, hp]
      have h1 : List.take l.length (l.map (av : ByteArray → AV)) = l.map av := List.take_of_length_le (by simp)
      have h2 : l.map (av : ByteArray → AV) ++ [AV.str s] = (l ++ [s]).map av := by simp [av_str]
      have h3 : List.take (l.length + 1) ((l ++ [s]).map (av : ByteArray → AV)) = (l ++ [s]).map av := List.take_of_length_le (by simp)
      have h4 : (l ++ [s]).length = l.length + 1 := by simp
      simp +contextual -dsimp (maxSteps := 2000000) only [↓SD, SU, SB, Nat.reduceAdd, Nat.reduceBEq, Nat.reduceEqDiff, Nat.reduceLeDiff, Nat.reduceLT, Nat.reduceSub, ↓reduceIte, forall_const, implies_true, ne_eq, reduceCtorEq, Int.reduceToNat, forall_eq, Int.reduceEq, Int.reduceLT, Int.reduceLE, Int.reduceNeg, Int.reduceAdd, Int.reduceSub, map_len, Nat.lt_irrefl, hd, h1, h2, map_nop, h3, h4, Nat.le_refl]
      refine ⟨by omega, by unfold maxLen; omega⟩
    · have hp : putS l s = insG s l := by unfold putS; rw [ha, hd]; rfl
      rw [hp]
      have h3 : List.take (insG s l).length ((insG s l).map (av : ByteArray → AV)) = (insG s l).map av := List.take_of_length_le (by simp)
      simp +contextual -dsimp (maxSteps := 2000000) only [↓SD, SU, SB, Nat.reduceAdd, Nat.reduceBEq, Nat.reduceEqDiff, Nat.reduceLeDiff, Nat.reduceLT, Nat.reduceSub, ↓reduceIte, forall_const, implies_true, ne_eq, reduceCtorEq, Int.reduceToNat, forall_eq, Int.reduceEq, Int.reduceLT, Int.reduceLE, Int.reduceNeg, Int.reduceAdd, Int.reduceSub, map_len, Nat.lt_irrefl, hd, map_nop, h3, Nat.le_refl]

/-- the names of the reference -/
def namesR (l : List ByteArray) (m : List ByteArray) : List ByteArray := m.foldl putS l
theorem namesR_app (l a b : List ByteArray) : namesR l (a ++ b) = namesR (namesR l a) b := List.foldl_append
theorem namesR_len (m : List ByteArray) : (namesR [] m).length ≤ m.length := by have := fold_len m []; rw [List.length_nil, Nat.zero_add] at this; exact this
theorem vars_snoc1 {l : List PNode} {k : Nat} (h : k < l.length) : varsOf (l.take (k + 1)) = varsOf (l.take k) ++ (if l[k].kind = 2 then [l[k].s] else []) := varsOf_snoc h
theorem vars_le (l : List PNode) (i : Nat) : (varsOf (l.take i)).length ≤ (varsOf l).length := by
  unfold varsOf
  conv => rhs; rw [← List.take_append_drop i l, List.filterMap_append, List.length_append]
  omega
theorem specNames_ok (p : Program) (hx : Bulk.bulk p ≤ 1048576) (hb : progB p = true) : CallsF Tryz.prog 34 [av p] (.sl ((namesR [] (allNames p.nodes)).map av)) := by
  obtain ⟨q1, q2, q3, q4⟩ := prog_small hx
  refine fun_spec_Names rfl (by simp; exact AVal.clean p) (lav_clean _) ?_
  have C := specProgramOk_ok p hx
  rw [av_Program, hb] at C
  simp +contextual -dsimp (maxSteps := 2000000) only [↓SD, SU, SB, Nat.reduceAdd, Nat.reduceBEq, Nat.reduceEqDiff, Nat.reduceLeDiff, Nat.reduceLT, Nat.reduceSub, ↓reduceIte, forall_const, implies_true, ne_eq, reduceCtorEq, Int.reduceToNat, forall_eq, ir_spec_Names, rs_spec_Names, av_Program, map_len]
  refine aCallK_of _ C ?_
  simp +contextual -dsimp (maxSteps := 2000000) only [↓SD, SU, SB, Nat.reduceAdd, Nat.reduceBEq, Nat.reduceEqDiff, Nat.reduceLeDiff, Nat.reduceLT, Nat.reduceSub, ↓reduceIte, forall_const, implies_true, ne_eq, reduceCtorEq, Int.reduceToNat, forall_eq, map_len]
  refine aLoop_of (X := Nat) (fun k => ⟨[(3, .sl ((namesR [] (allNames (p.nodes.take k))).map av)), (16, .sl (p.nodes.map av)), (17, .int .i64 p.nodes.length), (18, .int .i64 k)], []⟩) (fun k => k ≤ p.nodes.length) (fun k => p.nodes.length - k) 0 (Nat.zero_le _) (by simp +contextual -dsimp (maxSteps := 2000000) only [↓SD, SU, SB, Nat.reduceAdd, Nat.reduceBEq, Nat.reduceEqDiff, Nat.reduceLeDiff, Nat.reduceLT, Nat.reduceSub, ↓reduceIte, forall_const, implies_true, ne_eq, reduceCtorEq, Int.reduceToNat, forall_eq, allNames, List.flatMap_nil, namesR, List.foldl_nil]) trivial ?_
  rintro k hk
  by_cases hlt : k < p.nodes.length
  · have e := getD_map av p.nodes k .top hlt
    have hn1 := names_take hlt
    have hb1 := all_names p.nodes (k + 1)
    obtain ⟨b1, b2, b3, b4⟩ := node_small q2 (List.getElem_mem hlt)
    rw [hn1, List.length_append] at hb1
    have C2 := l15Binds_ok p.nodes[k].kind
    generalize p.nodes[k] = n at *
    generalize allNames (p.nodes.take k) = L at *
    have hb0 : L.length ≤ 1048576 := by omega
    have hnl0 := namesR_len L
    have CP := l15Put_ok (namesR [] L) n.s (by omega)
    by_cases h3 : n.kind = 3
    · simp +contextual -dsimp (maxSteps := 2000000) only [↓SD, SU, SB, Nat.reduceAdd, Nat.reduceBEq, Nat.reduceEqDiff, Nat.reduceLeDiff, Nat.reduceLT, Nat.reduceSub, ↓reduceIte, forall_const, implies_true, ne_eq, reduceCtorEq, Int.reduceToNat, forall_eq, Int.reduceEq, Int.reduceLT, Int.reduceLE, Int.reduceNeg, Int.reduceAdd, Int.reduceSub, map_len, hlt, e, av_Node, h3]
      intro v5
      refine aCallK_of _ CP ?_
      simp +contextual -dsimp (maxSteps := 2000000) only [↓SD, SU, SB, Nat.reduceAdd, Nat.reduceBEq, Nat.reduceEqDiff, Nat.reduceLeDiff, Nat.reduceLT, Nat.reduceSub, ↓reduceIte, forall_const, implies_true, ne_eq, reduceCtorEq, Int.reduceToNat, forall_eq, Int.reduceEq, Int.reduceLT, Int.reduceLE, Int.reduceNeg, Int.reduceAdd, Int.reduceSub, map_len]
      obtain ⟨M, hM⟩ : ∃ M, M = L ++ [n.s] := ⟨_, rfl⟩
      have hMn : nodeNames n = [n.s] ++ n.pats.flatMap (fun q => varsOf q.nodes) := by simp [nodeNames, *]
      have hMl : M.length + (n.pats.flatMap (fun q => varsOf q.nodes)).length ≤ Bulk.bulk p.nodes := by
        rw [hMn, List.length_append] at hb1; rw [hM, List.length_append]; omega
      have hfin : allNames (p.nodes.take (k + 1)) = M ++ n.pats.flatMap (fun q => varsOf q.nodes) := by rw [hn1, hMn, hM, List.append_assoc]
      have hstart : putS (namesR [] L) n.s = namesR [] M := by rw [hM, namesR_app]; rfl
      refine aLoop_of (X := Nat) (fun j => ⟨[(3, .sl ((namesR [] (M ++ (n.pats.take j).flatMap (fun q => varsOf q.nodes))).map av)), (16, .sl (p.nodes.map av)), (17, .int .i64 p.nodes.length), (18, .int .i64 k), (35, .sl (n.pats.map av)), (36, .int .i64 n.pats.length), (37, .int .i64 j)], []⟩) (fun j => j ≤ n.pats.length) (fun j => n.pats.length - j) 0 (Nat.zero_le _) (by simp +contextual -dsimp (maxSteps := 2000000) only [↓SD, SU, SB, Nat.reduceAdd, Nat.reduceBEq, Nat.reduceEqDiff, Nat.reduceLeDiff, Nat.reduceLT, Nat.reduceSub, ↓reduceIte, forall_const, implies_true, ne_eq, reduceCtorEq, Int.reduceToNat, forall_eq, List.flatMap_nil, hstart]) trivial ?_
      rintro j hj
      by_cases hlj : j < n.pats.length
      · have e3 := getD_map av n.pats j .top hlj
        have hp1 := pats_take hlj
        have hp2 := pats_names n.pats j
        have hp3 := pats_names n.pats (j + 1)
        have hm3 := bulk_mem (List.getElem_mem hlj)
        rw [hp1, List.length_append] at hp3
        have hqn : Bulk.bulk n.pats[j] = Bulk.bulk n.pats[j].nodes + 1 := rfl
        have hql := bulk_length n.pats[j].nodes
        generalize n.pats[j] = q at *
        obtain ⟨K, hK⟩ : ∃ K, K = M ++ (n.pats.take j).flatMap (fun q => varsOf q.nodes) := ⟨_, rfl⟩
        have hKl : K.length + (varsOf q.nodes).length ≤ 2097152 := by rw [hK, List.length_append]; omega
        have hKf : namesR [] (M ++ (n.pats.take (j + 1)).flatMap (fun q => varsOf q.nodes)) = namesR [] (K ++ varsOf q.nodes) := by rw [hp1, hK, List.append_assoc]
        rw [← hK]
        simp +contextual -dsimp (maxSteps := 2000000) only [↓SD, SU, SB, Nat.reduceAdd, Nat.reduceBEq, Nat.reduceEqDiff, Nat.reduceLeDiff, Nat.reduceLT, Nat.reduceSub, ↓reduceIte, forall_const, implies_true, ne_eq, reduceCtorEq, Int.reduceToNat, forall_eq, Int.reduceEq, Int.reduceLT, Int.reduceLE, Int.reduceNeg, Int.reduceAdd, Int.reduceSub, map_len, hlj, e3, av_Pat]
        intro v7
        refine aLoop_of (X := Nat) (fun i => ⟨[(3, .sl ((namesR [] (K ++ varsOf (q.nodes.take i))).map av)), (16, .sl (p.nodes.map av)), (17, .int .i64 p.nodes.length), (18, .int .i64 k), (35, .sl (n.pats.map av)), (36, .int .i64 n.pats.length), (37, .int .i64 j), (42, .sl (q.nodes.map av)), (43, .int .i64 q.nodes.length), (44, .int .i64 i)], []⟩) (fun i => i ≤ q.nodes.length) (fun i => q.nodes.length - i) 0 (Nat.zero_le _) (by simp +contextual -dsimp (maxSteps := 2000000) only [↓SD, SU, SB, Nat.reduceAdd, Nat.reduceBEq, Nat.reduceEqDiff, Nat.reduceLeDiff, Nat.reduceLT, Nat.reduceSub, ↓reduceIte, forall_const, implies_true, ne_eq, reduceCtorEq, Int.reduceToNat, forall_eq, varsOf, List.filterMap_nil]) trivial ?_
        rintro i hi
        by_cases hli : i < q.nodes.length
        · have e4 := getD_map av q.nodes i .top hli
          have hv := varsOf_snoc hli
          have hvl := vars_le q.nodes i
          generalize q.nodes[i] = a at *
          have hnl := namesR_len (K ++ varsOf (q.nodes.take i))
          rw [List.length_append] at hnl
          have C4 := l15Put_ok (namesR [] (K ++ varsOf (q.nodes.take i))) a.s (by omega)
          by_cases h2 : a.kind = 2
          · rw [if_pos h2] at hv
            have hst : namesR [] (K ++ varsOf (q.nodes.take (i + 1))) = putS (namesR [] (K ++ varsOf (q.nodes.take i))) a.s := by rw [hv, ← List.append_assoc, namesR_app]; rfl
            simp +contextual -dsimp (maxSteps := 2000000) only [↓SD, SU, SB, Nat.reduceAdd, Nat.reduceBEq, Nat.reduceEqDiff, Nat.reduceLeDiff, Nat.reduceLT, Nat.reduceSub, ↓reduceIte, forall_const, implies_true, ne_eq, reduceCtorEq, Int.reduceToNat, forall_eq, Int.reduceEq, Int.reduceLT, Int.reduceLE, Int.reduceNeg, Int.reduceAdd, Int.reduceSub, map_len, hli, e4, av_PNode, h2]
            intro v9
            refine aCallK_of _ C4 ?_
            simp +contextual -dsimp (maxSteps := 2000000) only [↓SD, SU, SB, Nat.reduceAdd, Nat.reduceBEq, Nat.reduceEqDiff, Nat.reduceLeDiff, Nat.reduceLT, Nat.reduceSub, ↓reduceIte, forall_const, implies_true, ne_eq, reduceCtorEq, Int.reduceToNat, forall_eq, Int.reduceEq, Int.reduceLT, Int.reduceLE, Int.reduceNeg, Int.reduceAdd, Int.reduceSub]
            exact ⟨by omega, Goes.le ⟨i + 1, ⟨hli, (by first | omega | (simp only; omega))⟩, rfl⟩ (by simp +contextual -dsimp (maxSteps := 2000000) only [↓SD, SU, SB, Nat.reduceAdd, Nat.reduceBEq, Nat.reduceEqDiff, Nat.reduceLeDiff, Nat.reduceLT, Nat.reduceSub, ↓reduceIte, forall_const, implies_true, ne_eq, reduceCtorEq, Int.reduceToNat, forall_eq, Int.natCast_add, hst]) trivial⟩
          · rw [if_neg h2, List.append_nil] at hv
            simp +contextual -dsimp (maxSteps := 2000000) only [↓SD, SU, SB, Nat.reduceAdd, Nat.reduceBEq, Nat.reduceEqDiff, Nat.reduceLeDiff, Nat.reduceLT, Nat.reduceSub, ↓reduceIte, forall_const, implies_true, ne_eq, reduceCtorEq, Int.reduceToNat, forall_eq, Int.reduceEq, Int.reduceLT, Int.reduceLE, Int.reduceNeg, Int.reduceAdd, Int.reduceSub, map_len, hli, e4, av_PNode, h2]
            intro v9
            exact ⟨by omega, Goes.le ⟨i + 1, ⟨hli, (by first | omega | (simp only; omega))⟩, rfl⟩ (by simp +contextual -dsimp (maxSteps := 2000000) only [↓SD, SU, SB, Nat.reduceAdd, Nat.reduceBEq, Nat.reduceEqDiff, Nat.reduceLeDiff, Nat.reduceLT, Nat.reduceSub, ↓reduceIte, forall_const, implies_true, ne_eq, reduceCtorEq, Int.reduceToNat, forall_eq, Int.natCast_add, hv]) trivial⟩
        · obtain rfl : i = q.nodes.length := by omega
          simp +contextual -dsimp (maxSteps := 2000000) only [↓SD, SU, SB, Nat.reduceAdd, Nat.reduceBEq, Nat.reduceEqDiff, Nat.reduceLeDiff, Nat.reduceLT, Nat.reduceSub, ↓reduceIte, forall_const, implies_true, ne_eq, reduceCtorEq, Int.reduceToNat, forall_eq, Int.reduceEq, Int.reduceLT, Int.reduceLE, Int.reduceNeg, Int.reduceAdd, Int.reduceSub, map_len, Nat.lt_irrefl, List.take_length]
          exact ⟨by omega, Goes.le ⟨j + 1, ⟨hlj, (by first | omega | (simp only; omega))⟩, rfl⟩ (by simp +contextual -dsimp (maxSteps := 2000000) only [↓SD, SU, SB, Nat.reduceAdd, Nat.reduceBEq, Nat.reduceEqDiff, Nat.reduceLeDiff, Nat.reduceLT, Nat.reduceSub, ↓reduceIte, forall_const, implies_true, ne_eq, reduceCtorEq, Int.reduceToNat, forall_eq, Int.natCast_add, hKf]) trivial⟩
      · obtain rfl : j = n.pats.length := by omega
        simp +contextual -dsimp (maxSteps := 2000000) only [↓SD, SU, SB, Nat.reduceAdd, Nat.reduceBEq, Nat.reduceEqDiff, Nat.reduceLeDiff, Nat.reduceLT, Nat.reduceSub, ↓reduceIte, forall_const, implies_true, ne_eq, reduceCtorEq, Int.reduceToNat, forall_eq, Int.reduceEq, Int.reduceLT, Int.reduceLE, Int.reduceNeg, Int.reduceAdd, Int.reduceSub, map_len, Nat.lt_irrefl, List.take_length]
        exact ⟨by omega, Goes.le ⟨k + 1, ⟨hlt, (by first | omega | (simp only; omega))⟩, rfl⟩ (by simp +contextual -dsimp (maxSteps := 2000000) only [↓SD, SU, SB, Nat.reduceAdd, Nat.reduceBEq, Nat.reduceEqDiff, Nat.reduceLeDiff, Nat.reduceLT, Nat.reduceSub, ↓reduceIte, forall_const, implies_true, ne_eq, reduceCtorEq, Int.reduceToNat, forall_eq, Int.natCast_add, hfin]) trivial⟩
    cases hbd : bindB n.kind with
    | true =>
      rw [hbd] at C2
      simp +contextual -dsimp (maxSteps := 2000000) only [↓SD, SU, SB, Nat.reduceAdd, Nat.reduceBEq, Nat.reduceEqDiff, Nat.reduceLeDiff, Nat.reduceLT, Nat.reduceSub, ↓reduceIte, forall_const, implies_true, ne_eq, reduceCtorEq, Int.reduceToNat, forall_eq, Int.reduceEq, Int.reduceLT, Int.reduceLE, Int.reduceNeg, Int.reduceAdd, Int.reduceSub, map_len, hlt, e, av_Node, h3]
      intro v5
      refine aCallK_of _ C2 ?_
      simp +contextual -dsimp (maxSteps := 2000000) only [↓SD, SU, SB, Nat.reduceAdd, Nat.reduceBEq, Nat.reduceEqDiff, Nat.reduceLeDiff, Nat.reduceLT, Nat.reduceSub, ↓reduceIte, forall_const, implies_true, ne_eq, reduceCtorEq, Int.reduceToNat, forall_eq, Int.reduceEq, Int.reduceLT, Int.reduceLE, Int.reduceNeg, Int.reduceAdd, Int.reduceSub, map_len]
      refine aCallK_of _ CP ?_
      simp +contextual -dsimp (maxSteps := 2000000) only [↓SD, SU, SB, Nat.reduceAdd, Nat.reduceBEq, Nat.reduceEqDiff, Nat.reduceLeDiff, Nat.reduceLT, Nat.reduceSub, ↓reduceIte, forall_const, implies_true, ne_eq, reduceCtorEq, Int.reduceToNat, forall_eq, Int.reduceEq, Int.reduceLT, Int.reduceLE, Int.reduceNeg, Int.reduceAdd, Int.reduceSub, map_len]
      obtain ⟨M, hM⟩ : ∃ M, M = L ++ [n.s] := ⟨_, rfl⟩
      have hMn : nodeNames n = [n.s] ++ n.pats.flatMap (fun q => varsOf q.nodes) := by simp [nodeNames, *]
      have hMl : M.length + (n.pats.flatMap (fun q => varsOf q.nodes)).length ≤ Bulk.bulk p.nodes := by
        rw [hMn, List.length_append] at hb1; rw [hM, List.length_append]; omega
      have hfin : allNames (p.nodes.take (k + 1)) = M ++ n.pats.flatMap (fun q => varsOf q.nodes) := by rw [hn1, hMn, hM, List.append_assoc]
      have hstart : putS (namesR [] L) n.s = namesR [] M := by rw [hM, namesR_app]; rfl
      refine aLoop_of (X := Nat) (fun j => ⟨[(3, .sl ((namesR [] (M ++ (n.pats.take j).flatMap (fun q => varsOf q.nodes))).map av)), (16, .sl (p.nodes.map av)), (17, .int .i64 p.nodes.length), (18, .int .i64 k), (35, .sl (n.pats.map av)), (36, .int .i64 n.pats.length), (37, .int .i64 j)], []⟩) (fun j => j ≤ n.pats.length) (fun j => n.pats.length - j) 0 (Nat.zero_le _) (by simp +contextual -dsimp (maxSteps := 2000000) only [↓SD, SU, SB, Nat.reduceAdd, Nat.reduceBEq, Nat.reduceEqDiff, Nat.reduceLeDiff, Nat.reduceLT, Nat.reduceSub, ↓reduceIte, forall_const, implies_true, ne_eq, reduceCtorEq, Int.reduceToNat, forall_eq, List.flatMap_nil, hstart]) trivial ?_
      rintro j hj
      by_cases hlj : j < n.pats.length
      · have e3 := getD_map av n.pats j .top hlj
        have hp1 := pats_take hlj
        have hp2 := pats_names n.pats j
        have hp3 := pats_names n.pats (j + 1)
        have hm3 := bulk_mem (List.getElem_mem hlj)
        rw [hp1, List.length_append] at hp3
        have hqn : Bulk.bulk n.pats[j] = Bulk.bulk n.pats[j].nodes + 1 := rfl
        have hql := bulk_length n.pats[j].nodes
        generalize n.pats[j] = q at *
        obtain ⟨K, hK⟩ : ∃ K, K = M ++ (n.pats.take j).flatMap (fun q => varsOf q.nodes) := ⟨_, rfl⟩
        have hKl : K.length + (varsOf q.nodes).length ≤ 2097152 := by rw [hK, List.length_append]; omega
        have hKf : namesR [] (M ++ (n.pats.take (j + 1)).flatMap (fun q => varsOf q.nodes)) = namesR [] (K ++ varsOf q.nodes) := by rw [hp1, hK, List.append_assoc]
        rw [← hK]
        simp +contextual -dsimp (maxSteps := 2000000) only [↓SD, SU, SB, Nat.reduceAdd, Nat.reduceBEq, Nat.reduceEqDiff, Nat.reduceLeDiff, Nat.reduceLT, Nat.reduceSub, ↓reduceIte, forall_const, implies_true, ne_eq, reduceCtorEq, Int.reduceToNat, forall_eq, Int.reduceEq, Int.reduceLT, Int.reduceLE, Int.reduceNeg, Int.reduceAdd, Int.reduceSub, map_len, hlj, e3, av_Pat]
        intro v7
        refine aLoop_of (X := Nat) (fun i => ⟨[(3, .sl ((namesR [] (K ++ varsOf (q.nodes.take i))).map av)), (16, .sl (p.nodes.map av)), (17, .int .i64 p.nodes.length), (18, .int .i64 k), (35, .sl (n.pats.map av)), (36, .int .i64 n.pats.length), (37, .int .i64 j), (42, .sl (q.nodes.map av)), (43, .int .i64 q.nodes.length), (44, .int .i64 i)], []⟩) (fun i => i ≤ q.nodes.length) (fun i => q.nodes.length - i) 0 (Nat.zero_le _) (by simp +contextual -dsimp (maxSteps := 2000000) only [↓SD, SU, SB, Nat.reduceAdd, Nat.reduceBEq, Nat.reduceEqDiff, Nat.reduceLeDiff, Nat.reduceLT, Nat.reduceSub, ↓reduceIte, forall_const, implies_true, ne_eq, reduceCtorEq, Int.reduceToNat, forall_eq, varsOf, List.filterMap_nil]) trivial ?_
        rintro i hi
        by_cases hli : i < q.nodes.length
        · have e4 := getD_map av q.nodes i .top hli
          have hv := varsOf_snoc hli
          have hvl := vars_le q.nodes i
          generalize q.nodes[i] = a at *
          have hnl := namesR_len (K ++ varsOf (q.nodes.take i))
          rw [List.length_append] at hnl
          have C4 := l15Put_ok (namesR [] (K ++ varsOf (q.nodes.take i))) a.s (by omega)
          by_cases h2 : a.kind = 2
          · rw [if_pos h2] at hv
            have hst : namesR [] (K ++ varsOf (q.nodes.take (i + 1))) = putS (namesR [] (K ++ varsOf (q.nodes.take i))) a.s := by rw [hv, ← List.append_assoc, namesR_app]; rfl
            simp +contextual -dsimp (maxSteps := 2000000) only [↓SD, SU, SB, Nat.reduceAdd, Nat.reduceBEq, Nat.reduceEqDiff, Nat.reduceLeDiff, Nat.reduceLT, Nat.reduceSub, ↓reduceIte, forall_const, implies_true, ne_eq, reduceCtorEq, Int.reduceToNat, forall_eq, Int.reduceEq, Int.reduceLT, Int.reduceLE, Int.reduceNeg, Int.reduceAdd, Int.reduceSub, map_len, hli, e4, av_PNode, h2]
            intro v9
            refine aCallK_of _ C4 ?_
            simp +contextual -dsimp (maxSteps := 2000000) only [↓SD, SU, SB, Nat.reduceAdd, Nat.reduceBEq, Nat.reduceEqDiff, Nat.reduceLeDiff, Nat.reduceLT, Nat.reduceSub, ↓reduceIte, forall_const, implies_true, ne_eq, reduceCtorEq, Int.reduceToNat, forall_eq, Int.reduceEq, Int.reduceLT, Int.reduceLE, Int.reduceNeg, Int.reduceAdd, Int.reduceSub]
            exact ⟨by omega, Goes.le ⟨i + 1, ⟨hli, (by first | omega | (simp only; omega))⟩, rfl⟩ (by simp +contextual -dsimp (maxSteps := 2000000) only [↓SD, SU, SB, Nat.reduceAdd, Nat.reduceBEq, Nat.reduceEqDiff, Nat.reduceLeDiff, Nat.reduceLT, Nat.reduceSub, ↓reduceIte, forall_const, implies_true, ne_eq, reduceCtorEq, Int.reduceToNat, forall_eq, Int.natCast_add, hst]) trivial⟩
          · rw [if_neg h2, List.append_nil] at hv
            simp +contextual -dsimp (maxSteps := 2000000) only [↓SD, SU, SB, Nat.reduceAdd, Nat.reduceBEq, Nat.reduceEqDiff, Nat.reduceLeDiff, Nat.reduceLT, Nat.reduceSub, ↓reduceIte, forall_const, implies_true, ne_eq, reduceCtorEq, Int.reduceToNat, forall_eq, Int.reduceEq, Int.reduceLT, Int.reduceLE, Int.reduceNeg, Int.reduceAdd, Int.reduceSub, map_len, hli, e4, av_PNode, h2]
            intro v9
            exact ⟨by omega, Goes.le ⟨i + 1, ⟨hli, (by first | omega | (simp only; omega))⟩, rfl⟩ (by simp +contextual -dsimp (maxSteps := 2000000) only [↓SD, SU, SB, Nat.reduceAdd, Nat.reduceBEq, Nat.reduceEqDiff, Nat.reduceLeDiff, Nat.reduceLT, Nat.reduceSub, ↓reduceIte, forall_const, implies_true, ne_eq, reduceCtorEq, Int.reduceToNat, forall_eq, Int.natCast_add, hv]) trivial⟩
        · obtain rfl : i = q.nodes.length := by omega
          simp +contextual -dsimp (maxSteps := 2000000) only [↓SD, SU, SB, Nat.reduceAdd, Nat.reduceBEq, Nat.reduceEqDiff, Nat.reduceLeDiff, Nat.reduceLT, Nat.reduceSub, ↓reduceIte, forall_const, implies_true, ne_eq, reduceCtorEq, Int.reduceToNat, forall_eq, Int.reduceEq, Int.reduceLT, Int.reduceLE, Int.reduceNeg, Int.reduceAdd, Int.reduceSub, map_len, Nat.lt_irrefl, List.take_length]
          exact ⟨by omega, Goes.le ⟨j + 1, ⟨hlj, (by first | omega | (simp only; omega))⟩, rfl⟩ (by simp +contextual -dsimp (maxSteps := 2000000) only [↓SD, SU, SB, Nat.reduceAdd, Nat.reduceBEq, Nat.reduceEqDiff, Nat.reduceLeDiff, Nat.reduceLT, Nat.reduceSub, ↓reduceIte, forall_const, implies_true, ne_eq, reduceCtorEq, Int.reduceToNat, forall_eq, Int.natCast_add, hKf]) trivial⟩
      · obtain rfl : j = n.pats.length := by omega
        simp +contextual -dsimp (maxSteps := 2000000) only [↓SD, SU, SB, Nat.reduceAdd, Nat.reduceBEq, Nat.reduceEqDiff, Nat.reduceLeDiff, Nat.reduceLT, Nat.reduceSub, ↓reduceIte, forall_const, implies_true, ne_eq, reduceCtorEq, Int.reduceToNat, forall_eq, Int.reduceEq, Int.reduceLT, Int.reduceLE, Int.reduceNeg, Int.reduceAdd, Int.reduceSub, map_len, Nat.lt_irrefl, List.take_length]
        exact ⟨by omega, Goes.le ⟨k + 1, ⟨hlt, (by first | omega | (simp only; omega))⟩, rfl⟩ (by simp +contextual -dsimp (maxSteps := 2000000) only [↓SD, SU, SB, Nat.reduceAdd, Nat.reduceBEq, Nat.reduceEqDiff, Nat.reduceLeDiff, Nat.reduceLT, Nat.reduceSub, ↓reduceIte, forall_const, implies_true, ne_eq, reduceCtorEq, Int.reduceToNat, forall_eq, Int.natCast_add, hfin]) trivial⟩
    | false =>
      rw [hbd] at C2
      simp +contextual -dsimp (maxSteps := 2000000) only [↓SD, SU, SB, Nat.reduceAdd, Nat.reduceBEq, Nat.reduceEqDiff, Nat.reduceLeDiff, Nat.reduceLT, Nat.reduceSub, ↓reduceIte, forall_const, implies_true, ne_eq, reduceCtorEq, Int.reduceToNat, forall_eq, Int.reduceEq, Int.reduceLT, Int.reduceLE, Int.reduceNeg, Int.reduceAdd, Int.reduceSub, map_len, hlt, e, av_Node, h3]
      intro v5
      refine aCallK_of _ C2 ?_
      simp +contextual -dsimp (maxSteps := 2000000) only [↓SD, SU, SB, Nat.reduceAdd, Nat.reduceBEq, Nat.reduceEqDiff, Nat.reduceLeDiff, Nat.reduceLT, Nat.reduceSub, ↓reduceIte, forall_const, implies_true, ne_eq, reduceCtorEq, Int.reduceToNat, forall_eq, Int.reduceEq, Int.reduceLT, Int.reduceLE, Int.reduceNeg, Int.reduceAdd, Int.reduceSub, map_len]
      obtain ⟨M, hM⟩ : ∃ M, M = L ++ ([] : List ByteArray) := ⟨_, rfl⟩
      have hMn : nodeNames n = ([] : List ByteArray) ++ n.pats.flatMap (fun q => varsOf q.nodes) := by simp [nodeNames, *]
      have hMl : M.length + (n.pats.flatMap (fun q => varsOf q.nodes)).length ≤ Bulk.bulk p.nodes := by
        rw [hMn, List.length_append] at hb1; rw [hM, List.length_append]; omega
      have hfin : allNames (p.nodes.take (k + 1)) = M ++ n.pats.flatMap (fun q => varsOf q.nodes) := by rw [hn1, hMn, hM, List.append_assoc]
      have hstart : namesR [] L = namesR [] M := by rw [hM, List.append_nil]
      refine aLoop_of (X := Nat) (fun j => ⟨[(3, .sl ((namesR [] (M ++ (n.pats.take j).flatMap (fun q => varsOf q.nodes))).map av)), (16, .sl (p.nodes.map av)), (17, .int .i64 p.nodes.length), (18, .int .i64 k), (35, .sl (n.pats.map av)), (36, .int .i64 n.pats.length), (37, .int .i64 j)], []⟩) (fun j => j ≤ n.pats.length) (fun j => n.pats.length - j) 0 (Nat.zero_le _) (by simp +contextual -dsimp (maxSteps := 2000000) only [↓SD, SU, SB, Nat.reduceAdd, Nat.reduceBEq, Nat.reduceEqDiff, Nat.reduceLeDiff, Nat.reduceLT, Nat.reduceSub, ↓reduceIte, forall_const, implies_true, ne_eq, reduceCtorEq, Int.reduceToNat, forall_eq, List.flatMap_nil, hstart]) trivial ?_
      rintro j hj
      by_cases hlj : j < n.pats.length
      · have e3 := getD_map av n.pats j .top hlj
        have hp1 := pats_take hlj
        have hp2 := pats_names n.pats j
        have hp3 := pats_names n.pats (j + 1)
        have hm3 := bulk_mem (List.getElem_mem hlj)
        rw [hp1, List.length_append] at hp3
        have hqn : Bulk.bulk n.pats[j] = Bulk.bulk n.pats[j].nodes + 1 := rfl
        have hql := bulk_length n.pats[j].nodes
        generalize n.pats[j] = q at *
        obtain ⟨K, hK⟩ : ∃ K, K = M ++ (n.pats.take j).flatMap (fun q => varsOf q.nodes) := ⟨_, rfl⟩
        have hKl : K.length + (varsOf q.nodes).length ≤ 2097152 := by rw [hK, List.length_append]; omega
        have hKf : namesR [] (M ++ (n.pats.take (j + 1)).flatMap (fun q => varsOf q.nodes)) = namesR [] (K ++ varsOf q.nodes) := by rw [hp1, hK, List.append_assoc]
        rw [← hK]
        simp +contextual -dsimp (maxSteps := 2000000) only [↓SD, SU, SB, Nat.reduceAdd, Nat.reduceBEq, Nat.reduceEqDiff, Nat.reduceLeDiff, Nat.reduceLT, Nat.reduceSub, ↓reduceIte, forall_const, implies_true, ne_eq, reduceCtorEq, Int.reduceToNat, forall_eq, Int.reduceEq, Int.reduceLT, Int.reduceLE, Int.reduceNeg, Int.reduceAdd, Int.reduceSub, map_len, hlj, e3, av_Pat]
        intro v7
        refine aLoop_of (X := Nat) (fun i => ⟨[(3, .sl ((namesR [] (K ++ varsOf (q.nodes.take i))).map av)), (16, .sl (p.nodes.map av)), (17, .int .i64 p.nodes.length), (18, .int .i64 k), (35, .sl (n.pats.map av)), (36, .int .i64 n.pats.length), (37, .int .i64 j), (42, .sl (q.nodes.map av)), (43, .int .i64 q.nodes.length), (44, .int .i64 i)], []⟩) (fun i => i ≤ q.nodes.length) (fun i => q.nodes.length - i) 0 (Nat.zero_le _) (by simp +contextual -dsimp (maxSteps := 2000000) only [↓SD, SU, SB, Nat.reduceAdd, Nat.reduceBEq, Nat.reduceEqDiff, Nat.reduceLeDiff, Nat.reduceLT, Nat.reduceSub, ↓reduceIte, forall_const, implies_true, ne_eq, reduceCtorEq, Int.reduceToNat, forall_eq, varsOf, List.filterMap_nil]) trivial ?_
        rintro i hi
        by_cases hli : i < q.nodes.length
        · have e4 := getD_map av q.nodes i .top hli
          have hv := varsOf_snoc hli
          have hvl := vars_le q.nodes i
          generalize q.nodes[i] = a at *
          have hnl := namesR_len (K ++ varsOf (q.nodes.take i))
          rw [List.length_append] at hnl
          have C4 := l15Put_ok (namesR [] (K ++ varsOf (q.nodes.take i))) a.s (by omega)
          by_cases h2 : a.kind = 2
          · rw [if_pos h2] at hv
            have hst : namesR [] (K ++ varsOf (q.nodes.take (i + 1))) = putS (namesR [] (K ++ varsOf (q.nodes.take i))) a.s := by rw [hv, ← List.append_assoc, namesR_app]; rfl
            simp +contextual -dsimp (maxSteps := 2000000) only [↓SD, SU, SB, Nat.reduceAdd, Nat.reduceBEq, Nat.reduceEqDiff, Nat.reduceLeDiff, Nat.reduceLT, Nat.reduceSub, ↓reduceIte, forall_const, implies_true, ne_eq, reduceCtorEq, Int.reduceToNat, forall_eq, Int.reduceEq, Int.reduceLT, Int.reduceLE, Int.reduceNeg, Int.reduceAdd, Int.reduceSub, map_len, hli, e4, av_PNode, h2]
            intro v9
            refine aCallK_of _ C4 ?_
            simp +contextual -dsimp (maxSteps := 2000000) only [↓SD, SU, SB, Nat.reduceAdd, Nat.reduceBEq, Nat.reduceEqDiff, Nat.reduceLeDiff, Nat.reduceLT, Nat.reduceSub, ↓reduceIte, forall_const, implies_true, ne_eq, reduceCtorEq, Int.reduceToNat, forall_eq, Int.reduceEq, Int.reduceLT, Int.reduceLE, Int.reduceNeg, Int.reduceAdd, Int.reduceSub]
            exact ⟨by omega, Goes.le ⟨i + 1, ⟨hli, (by first | omega | (simp only; omega))⟩, rfl⟩ (by simp +contextual -dsimp (maxSteps := 2000000) only [↓SD, SU, SB, Nat.reduceAdd, Nat.reduceBEq, Nat.reduceEqDiff, Nat.reduceLeDiff, Nat.reduceLT, Nat.reduceSub, ↓reduceIte, forall_const, implies_true, ne_eq, reduceCtorEq, Int.reduceToNat, forall_eq, Int.natCast_add, hst]) trivial⟩
          · rw [if_neg h2, List.append_nil] at hv
            simp +contextual -dsimp (maxSteps := 2000000) only [↓SD, SU, SB, Nat.reduceAdd, Nat.reduceBEq, Nat.reduceEqDiff, Nat.reduceLeDiff, Nat.reduceLT, Nat.reduceSub, ↓reduceIte, forall_const, implies_true, ne_eq, reduceCtorEq, Int.reduceToNat, forall_eq, Int.reduceEq, Int.reduceLT, Int.reduceLE, Int.reduceNeg, Int.reduceAdd, Int.reduceSub, map_len, hli, e4, av_PNode, h2]
            intro v9
            exact ⟨by omega, Goes.le ⟨i + 1, ⟨hli, (by first | omega | (simp only; omega))⟩, rfl⟩ (by simp +contextual -dsimp (maxSteps := 2000000) only [↓SD, SU, SB, Nat.reduceAdd, Nat.reduceBEq, Nat.reduceEqDiff, Nat.reduceLeDiff, Nat.reduceLT, Nat.reduceSub, ↓reduceIte, forall_const, implies_true, ne_eq, reduceCtorEq, Int.reduceToNat, forall_eq, Int.natCast_add, hv]) trivial⟩
        · obtain rfl : i = q.nodes.length := by omega
          simp +contextual -dsimp (maxSteps := 2000000) only [↓SD, SU, SB, Nat.reduceAdd, Nat.reduceBEq, Nat.reduceEqDiff, Nat.reduceLeDiff, Nat.reduceLT, Nat.reduceSub, ↓reduceIte, forall_const, implies_true, ne_eq, reduceCtorEq, Int.reduceToNat, forall_eq, Int.reduceEq, Int.reduceLT, Int.reduceLE, Int.reduceNeg, Int.reduceAdd, Int.reduceSub, map_len, Nat.lt_irrefl, List.take_length]
          exact ⟨by omega, Goes.le ⟨j + 1, ⟨hlj, (by first | omega | (simp only; omega))⟩, rfl⟩ (by simp +contextual -dsimp (maxSteps := 2000000) only [↓SD, SU, SB, Nat.reduceAdd, Nat.reduceBEq, Nat.reduceEqDiff, Nat.reduceLeDiff, Nat.reduceLT, Nat.reduceSub, ↓reduceIte, forall_const, implies_true, ne_eq, reduceCtorEq, Int.reduceToNat, forall_eq, Int.natCast_add, hKf]) trivial⟩
      · obtain rfl : j = n.pats.length := by omega
        simp +contextual -dsimp (maxSteps := 2000000) only [↓SD, SU, SB, Nat.reduceAdd, Nat.reduceBEq, Nat.reduceEqDiff, Nat.reduceLeDiff, Nat.reduceLT, Nat.reduceSub, ↓reduceIte, forall_const, implies_true, ne_eq, reduceCtorEq, Int.reduceToNat, forall_eq, Int.reduceEq, Int.reduceLT, Int.reduceLE, Int.reduceNeg, Int.reduceAdd, Int.reduceSub, map_len, Nat.lt_irrefl, List.take_length]
        exact ⟨by omega, Goes.le ⟨k + 1, ⟨hlt, (by first | omega | (simp only; omega))⟩, rfl⟩ (by simp +contextual -dsimp (maxSteps := 2000000) only [↓SD, SU, SB, Nat.reduceAdd, Nat.reduceBEq, Nat.reduceEqDiff, Nat.reduceLeDiff, Nat.reduceLT, Nat.reduceSub, ↓reduceIte, forall_const, implies_true, ne_eq, reduceCtorEq, Int.reduceToNat, forall_eq, Int.natCast_add, hfin]) trivial⟩
  · obtain rfl : k = p.nodes.length := by omega
    simp +contextual -dsimp (maxSteps := 2000000) only [↓SD, SU, SB, Nat.reduceAdd, Nat.reduceBEq, Nat.reduceEqDiff, Nat.reduceLeDiff, Nat.reduceLT, Nat.reduceSub, ↓reduceIte, forall_const, implies_true, ne_eq, reduceCtorEq, Int.reduceToNat, forall_eq, map_len, Nat.lt_irrefl, List.take_length]

theorem namesR_mem (m : List ByteArray) (y : ByteArray) : y ∈ namesR [] m ↔ y ∈ m := by
  unfold namesR; rw [fold_put]; simp
theorem specFresh_ok (p : Program) (s : ByteArray) (hx : Bulk.bulk p ≤ 1048576) (hs : freshS p s) : CallsF Tryz.prog 24 [av p] (.str s) := by
  obtain ⟨q1, q2, q3, q4⟩ := prog_small hx
  refine fun_spec_Fresh rfl (by simp; exact AVal.clean p) (AvPure.str _) ?_
  have C := specProgramOk_ok p hx
  rw [av_Program] at C
  simp +contextual -dsimp (maxSteps := 2000000) only [↓SD, SU, SB, Nat.reduceAdd, Nat.reduceBEq, Nat.reduceEqDiff, Nat.reduceLeDiff, Nat.reduceLT, Nat.reduceSub, ↓reduceIte, forall_const, implies_true, ne_eq, reduceCtorEq, Int.reduceToNat, forall_eq, ir_spec_Fresh, rs_spec_Fresh, av_Program, map_len]
  cases hb : progB p with
  | false =>
    rw [hb] at C
    rw [freshS, hb, if_neg Bool.false_ne_true] at hs
    subst hs
    refine aCallK_of _ C ?_
    simp +contextual -dsimp (maxSteps := 2000000) only [↓SD, SU, SB, Nat.reduceAdd, Nat.reduceBEq, Nat.reduceEqDiff, Nat.reduceLeDiff, Nat.reduceLT, Nat.reduceSub, ↓reduceIte, forall_const, implies_true, ne_eq, reduceCtorEq, Int.reduceToNat, forall_eq]
    rfl
  | true =>
    rw [hb] at C
    rw [freshS, hb, if_pos rfl] at hs
    obtain ⟨K, hK, rfl⟩ := hs
    have hKl := hK.le
    have hal := all_names p.nodes p.nodes.length
    rw [List.take_length] at hal
    have hnl := namesR_len (allNames p.nodes)
    have hmem := namesR_mem (allNames p.nodes)
    have CN := specNames_ok p hx hb
    rw [av_Program] at CN
    generalize namesR [] (allNames p.nodes) = R at *
    refine aCallK_of _ C ?_
    simp +contextual -dsimp (maxSteps := 2000000) only [↓SD, SU, SB, Nat.reduceAdd, Nat.reduceBEq, Nat.reduceEqDiff, Nat.reduceLeDiff, Nat.reduceLT, Nat.reduceSub, ↓reduceIte, forall_const, implies_true, ne_eq, reduceCtorEq, Int.reduceToNat, forall_eq]
    refine aCallK_of _ CN ?_
    simp +contextual -dsimp (maxSteps := 2000000) only [↓SD, SU, SB, Nat.reduceAdd, Nat.reduceBEq, Nat.reduceEqDiff, Nat.reduceLeDiff, Nat.reduceLT, Nat.reduceSub, ↓reduceIte, forall_const, implies_true, ne_eq, reduceCtorEq, Int.reduceToNat, forall_eq]
    refine aLoop_of (X := Nat) (fun k => ⟨[(3, .sl (R.map av)), (4, .int .i64 (k : Int))], []⟩) (fun k => k ≤ K) (fun k => K - k) 0 (Nat.zero_le _) (by simp +contextual -dsimp (maxSteps := 2000000) only [↓SD, SU, SB, Nat.reduceAdd, Nat.reduceBEq, Nat.reduceEqDiff, Nat.reduceLeDiff, Nat.reduceLT, Nat.reduceSub, ↓reduceIte, forall_const, implies_true, ne_eq, reduceCtorEq, Int.reduceToNat, forall_eq]) trivial ?_
    rintro k hk
    simp +contextual -dsimp (maxSteps := 2000000) only [↓SD, SU, SB, Nat.reduceAdd, Nat.reduceBEq, Nat.reduceEqDiff, Nat.reduceLeDiff, Nat.reduceLT, Nat.reduceSub, ↓reduceIte, forall_const, implies_true, ne_eq, reduceCtorEq, Int.reduceToNat, forall_eq, Int.reduceEq, Int.reduceLT, Int.reduceLE, Int.reduceNeg, Int.reduceAdd, Int.reduceSub, map_len]
    refine aLoop_of (X := Nat) (fun i => ⟨[(3, .sl (R.map av)), (4, .int .i64 (k : Int)), (5, .bool ((R.take i).any fun x => decide (nmK k = x))), (15, .sl (R.map av)), (16, .int .i64 R.length), (17, .int .i64 i)], []⟩) (fun i => i ≤ R.length) (fun i => R.length - i) 0 (Nat.zero_le _) (by simp +contextual -dsimp (maxSteps := 2000000) only [↓SD, SU, SB, Nat.reduceAdd, Nat.reduceBEq, Nat.reduceEqDiff, Nat.reduceLeDiff, Nat.reduceLT, Nat.reduceSub, ↓reduceIte, forall_const, implies_true, ne_eq, reduceCtorEq, Int.reduceToNat, forall_eq, List.any_nil]) trivial ?_
    rintro i hi
    by_cases hli : i < R.length
    · have e := getD_map av R i .top hli
      have ht : R.take (i + 1) = R.take i ++ [R[i]] := List.take_succ_eq_append_getElem hli
      have han : ((R.take (i + 1)).any fun x => decide (nmK k = x)) = (((R.take i).any fun x => decide (nmK k = x)) || decide (nmK k = R[i])) := by rw [ht, List.any_append]; simp
      generalize R[i] = a at *
      have CL := l15Name_ok k (by omega)
      by_cases ha : a = nmK k
      · rw [decide_eq_true ha.symm, Bool.or_true] at han
        simp +contextual -dsimp (maxSteps := 2000000) only [↓SD, SU, SB, Nat.reduceAdd, Nat.reduceBEq, Nat.reduceEqDiff, Nat.reduceLeDiff, Nat.reduceLT, Nat.reduceSub, ↓reduceIte, forall_const, implies_true, ne_eq, reduceCtorEq, Int.reduceToNat, forall_eq, Int.reduceEq, Int.reduceLT, Int.reduceLE, Int.reduceNeg, Int.reduceAdd, Int.reduceSub, map_len, hli, e, av_str]
        refine aCallK_of _ CL ?_
        simp +contextual -dsimp (maxSteps := 2000000) only [↓SD, SU, SB, Nat.reduceAdd, Nat.reduceBEq, Nat.reduceEqDiff, Nat.reduceLeDiff, Nat.reduceLT, Nat.reduceSub, ↓reduceIte, forall_const, implies_true, ne_eq, reduceCtorEq, Int.reduceToNat, forall_eq, Int.reduceEq, Int.reduceLT, Int.reduceLE, Int.reduceNeg, Int.reduceAdd, Int.reduceSub, ha]
        exact ⟨by omega, Goes.le ⟨i + 1, ⟨hli, (by first | omega | (simp only; omega))⟩, rfl⟩ (by simp +contextual -dsimp (maxSteps := 2000000) only [↓SD, SU, SB, Nat.reduceAdd, Nat.reduceBEq, Nat.reduceEqDiff, Nat.reduceLeDiff, Nat.reduceLT, Nat.reduceSub, ↓reduceIte, forall_const, implies_true, ne_eq, reduceCtorEq, Int.reduceToNat, forall_eq, Int.natCast_add, han]) trivial⟩
      · rw [decide_eq_false (Ne.symm ha), Bool.or_false] at han
        simp +contextual -dsimp (maxSteps := 2000000) only [↓SD, SU, SB, Nat.reduceAdd, Nat.reduceBEq, Nat.reduceEqDiff, Nat.reduceLeDiff, Nat.reduceLT, Nat.reduceSub, ↓reduceIte, forall_const, implies_true, ne_eq, reduceCtorEq, Int.reduceToNat, forall_eq, Int.reduceEq, Int.reduceLT, Int.reduceLE, Int.reduceNeg, Int.reduceAdd, Int.reduceSub, map_len, hli, e, av_str]
        refine aCallK_of _ CL ?_
        simp +contextual -dsimp (maxSteps := 2000000) only [↓SD, SU, SB, Nat.reduceAdd, Nat.reduceBEq, Nat.reduceEqDiff, Nat.reduceLeDiff, Nat.reduceLT, Nat.reduceSub, ↓reduceIte, forall_const, implies_true, ne_eq, reduceCtorEq, Int.reduceToNat, forall_eq, Int.reduceEq, Int.reduceLT, Int.reduceLE, Int.reduceNeg, Int.reduceAdd, Int.reduceSub, ha]
        exact ⟨by omega, Goes.le ⟨i + 1, ⟨hli, (by first | omega | (simp only; omega))⟩, rfl⟩ (by simp +contextual -dsimp (maxSteps := 2000000) only [↓SD, SU, SB, Nat.reduceAdd, Nat.reduceBEq, Nat.reduceEqDiff, Nat.reduceLeDiff, Nat.reduceLT, Nat.reduceSub, ↓reduceIte, forall_const, implies_true, ne_eq, reduceCtorEq, Int.reduceToNat, forall_eq, Int.natCast_add, han]) trivial⟩
    · obtain rfl : i = R.length := by omega
      by_cases hlt : k < K
      · have hm : (R.any fun x => decide (nmK k = x)) = true := any_yes ((hmem _).2 (hK.1 k hlt))
        simp +contextual -dsimp (maxSteps := 2000000) only [↓SD, SU, SB, Nat.reduceAdd, Nat.reduceBEq, Nat.reduceEqDiff, Nat.reduceLeDiff, Nat.reduceLT, Nat.reduceSub, ↓reduceIte, forall_const, implies_true, ne_eq, reduceCtorEq, Int.reduceToNat, forall_eq, Int.reduceEq, Int.reduceLT, Int.reduceLE, Int.reduceNeg, Int.reduceAdd, Int.reduceSub, map_len, Nat.lt_irrefl, List.take_length, hm]
        exact ⟨by omega, Goes.le ⟨k + 1, ⟨hlt, (by first | omega | (simp only; omega))⟩, rfl⟩ (by simp +contextual -dsimp (maxSteps := 2000000) only [↓SD, SU, SB, Nat.reduceAdd, Nat.reduceBEq, Nat.reduceEqDiff, Nat.reduceLeDiff, Nat.reduceLT, Nat.reduceSub, ↓reduceIte, forall_const, implies_true, ne_eq, reduceCtorEq, Int.reduceToNat, forall_eq, Int.natCast_add]) trivial⟩
      · obtain rfl : k = K := by omega
        have hm : (R.any fun x => decide (nmK k = x)) = false := any_no (fun h => hK.2 ((hmem _).1 h))
        simp +contextual -dsimp (maxSteps := 2000000) only [↓SD, SU, SB, Nat.reduceAdd, Nat.reduceBEq, Nat.reduceEqDiff, Nat.reduceLeDiff, Nat.reduceLT, Nat.reduceSub, ↓reduceIte, forall_const, implies_true, ne_eq, reduceCtorEq, Int.reduceToNat, forall_eq, Int.reduceEq, Int.reduceLT, Int.reduceLE, Int.reduceNeg, Int.reduceAdd, Int.reduceSub, map_len, Nat.lt_irrefl, List.take_length, hm]
        refine aCallK_of _ (l15Name_ok k (by omega)) ?_
        simp +contextual -dsimp (maxSteps := 2000000) only [↓SD, SU, SB, Nat.reduceAdd, Nat.reduceBEq, Nat.reduceEqDiff, Nat.reduceLeDiff, Nat.reduceLT, Nat.reduceSub, ↓reduceIte, forall_const, implies_true, ne_eq, reduceCtorEq, Int.reduceToNat, forall_eq]
end Go.Proofs.YtpomnlejlgojaaaGreat
