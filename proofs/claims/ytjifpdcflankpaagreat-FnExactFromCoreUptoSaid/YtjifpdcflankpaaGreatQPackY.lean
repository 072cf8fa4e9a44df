/-
 THE GROUND OF DATA, in one text. Conditions: none.
-/
import Derived.Test.YtjifpdcflankpaaGreatQPackN
import Derived.Test.YtjifpdcflankpaaGreatQIrD
import Derived.Test.YtjifpdcflankpaaGreatQPackX
import Derived.Test.YtjifpdcflankpaaGreatQPackM

set_option linter.unusedVariables false
set_option linter.unusedSimpArgs false
set_option maxRecDepth 100000
namespace Go.Proofs.YtjifpdcflankpaaGreat
open Go.RowKit Go.Proofs.YtjifpdcflankpaaGreat.Av Go.Proofs.YtjifpdcflankpaaGreat.Ml
open Go.Proofs.YtjifpdcflankpaaGreat.Av.AVal (av)
open OVal (ov oh on)

def FromP (nm : Nat) (c : Program) (r : AV) (hp' : Hp) : Prop := (implK c = false → r = .tup [.agg [.nils, .nils], .bool false] ∧ hp' = []) ∧ (implK c = true → ∃ vs, r = .tup [ov nm vs (backP c), .bool true] ∧ hp' = oh nm vs (backP c))
set_option maxHeartbeats 4000000 in
theorem fromCoreH_ok (nm nm2 : Nat) (hm : 1000 ≤ nm ∧ 1000 ≤ nm2 ∧ nm ≠ nm2 ∧ nm < 9500 ∧ nm2 < 9500) (c : Program) (hx : 26 * Bulk.bulk c ≤ 4294967296) : CallsH Tryz.prog 40 [av c] [] (FromP nm c) := by
 refine ir_impl_fromCore_H.H rfl ?_
 have CS := shapeOk_ok nameC c 83 [] (by simp) (fun hp => rfl) (fun n hn => fromCore1_ok n) (by omega)
 have hb : Bulk.bulk c = Bulk.bulk c.types + Bulk.bulk c.nodes + 1 := rfl
 have hnl := bulk_length c.nodes
 have CP := ContainsFunc_Node_ok c.nodes 85 [] (fun n => !decide (n.pos = 0)) (by omega) (by simp) (fun hp => rfl) (fun n hn => fromCore2_ok n)
 rw [av_Program] at CS
 cases hs : shapeP nameC c with
 | false =>
  have hno : implK c = false := by unfold implK; rw [hs]; rfl
  have hK0 : implK c = false := hno
  rw [hs] at CS
  simp +contextual -dsimp (maxSteps := 2000000) only [↓SD, SU, SB, simprocAttr, ir_impl_fromCore_H, av_Program, List.map_nil]
  intro v
  refine aCallK_of _ CS ?_
  simp +contextual -dsimp (maxSteps := 2000000) only [↓SD, SU, SB, simprocAttr, List.map_nil]
  refine Goes.post [] ?_
  simp +contextual -dsimp (maxSteps := 2000000) only [↓SD, SU, SB, simprocAttr, FromP, hK0, List.map_nil]
 | true =>
  rw [hs] at CS
  cases hpos : c.nodes.any (fun n => !decide (n.pos = 0)) with
  | true =>
   have hno : implK c = false := by
    have : c.nodes.all (fun n => decide (n.pos = 0)) = false := by rw [List.all_eq_not_any_not, hpos]; rfl
    unfold implK; rw [this]; simp
   have hK0 : implK c = false := hno
   rw [hpos] at CP
   simp +contextual -dsimp (maxSteps := 2000000) only [↓SD, SU, SB, simprocAttr, ir_impl_fromCore_H, av_Program, List.map_nil]
   intro v
   refine aCallK_of _ CS ?_
   simp +contextual -dsimp (maxSteps := 2000000) only [↓SD, SU, SB, simprocAttr, List.map_nil]
   refine aCallK_of _ CP ?_
   simp +contextual -dsimp (maxSteps := 2000000) only [↓SD, SU, SB, simprocAttr, List.map_nil]
   refine Goes.post [] ?_
   simp +contextual -dsimp (maxSteps := 2000000) only [↓SD, SU, SB, simprocAttr, FromP, hK0, List.map_nil]
  | false =>
   rw [hpos] at CP
   have hpos2 : c.nodes.all (fun n => decide (n.pos = 0)) = true := by rw [List.all_eq_not_any_not, hpos]; rfl
   simp +contextual -dsimp (maxSteps := 2000000) only [↓SD, SU, SB, simprocAttr, ir_impl_fromCore_H, av_Program, List.map_nil]
   intro v
   refine aCallK_of _ CS ?_
   simp +contextual -dsimp (maxSteps := 2000000) only [↓SD, SU, SB, simprocAttr, List.map_nil]
   refine aCallK_of _ CP ?_
   simp +contextual -dsimp (maxSteps := 2000000) only [↓SD, SU, SB, simprocAttr, List.map_nil, map_len]
   refine aLoop_of (X := Nat) (fun i => ⟨[(1, .obj [.sl (c.types.map av), .sl (c.nodes.map av)]), (2, .ptr 2 v 0 0), (24, .sl (c.nodes.map av)), (25, .int .i64 c.nodes.length), (26, .int .i64 i)], [(2, ⟨v, false, 30, 2, [.agg [.nils, .nils]]⟩)]⟩) (fun i => i ≤ c.nodes.length ∧ ∀ j (h : j < c.nodes.length), j < i → c.nodes[j].pats.all patI = true) (fun i => c.nodes.length - i) 0 ⟨Nat.zero_le _, fun j h h' => absurd h' (Nat.not_lt_zero _)⟩ (by simp +contextual -dsimp only [↓SD, SU, SB, simprocAttr, List.map_nil]) (by simp +contextual -dsimp only [↓SD, SU, SB, simprocAttr, List.map_nil]) ?_
   intro i ⟨hi, hin⟩
   by_cases hlt : i < c.nodes.length
   ·have e1 := getD_map av c.nodes i .top hlt
    have hnm := List.getElem_mem hlt
    have hbn := bulk_mem hnm
    have hin2 : c.nodes[i].pats.all patI = true → ∀ j (h : j < c.nodes.length), j < i + 1 → c.nodes[j].pats.all patI = true := fun h j hj hji => by
     by_cases e : j = i
     ·subst e; exact h
     ·exact hin j hj (by omega)
    have hno : c.nodes[i].pats.all patI = false → implK c = false := fun h => by
     have : c.nodes.all (fun n => n.pats.all patI) = false := by
      rw [List.all_eq_false]
      exact ⟨_, hnm, by rw [h]; simp⟩
     unfold implK; rw [this]; simp
    have hbp : Bulk.bulk c.nodes[i] = Bulk.bulk c.nodes[i].kind + Bulk.bulk c.nodes[i].pos + Bulk.bulk c.nodes[i].n + Bulk.bulk c.nodes[i].s + Bulk.bulk c.nodes[i].kids + Bulk.bulk c.nodes[i].pats + 1 := rfl
    have hpl := bulk_length c.nodes[i].pats
    generalize c.nodes[i] = n at *
    rw [av_Node] at e1
    simp +contextual -dsimp (maxSteps := 2000000) only [↓SD, SU, SB, simprocAttr, hlt, e1, map_len, List.map_nil, av_Node]
    intro u
    refine aLoop_of (X := Nat) (fun k => ⟨[(1, .obj [.sl (c.types.map av), .sl (c.nodes.map av)]), (2, .ptr 2 v 0 0), (24, .sl (c.nodes.map av)), (25, .int .i64 c.nodes.length), (26, .int .i64 i), (31, .sl (n.pats.map av)), (32, .int .i64 n.pats.length), (33, .int .i64 k)], [(2, ⟨v, false, 30, 2, [.agg [.nils, .nils]]⟩)]⟩) (fun k => k ≤ n.pats.length ∧ (n.pats.take k).all patI = true) (fun k => n.pats.length - k) 0 ⟨Nat.zero_le _, rfl⟩ (by simp +contextual -dsimp only [↓SD, SU, SB, simprocAttr]) (by simp +contextual -dsimp only [↓SD, SU, SB, simprocAttr]) ?_
    intro k ⟨hk, hpk⟩
    by_cases hlt2 : k < n.pats.length
    ·have e2 := getD_map av n.pats k .top hlt2
     have hqm := List.getElem_mem hlt2
     have hbq := bulk_mem hqm
     have hst : (n.pats.take (k + 1)).all patI = patI n.pats[k] := by rw [List.take_succ_eq_append_getElem hlt2, List.all_append, hpk]; simp
     have hno2 : patI n.pats[k] = false → implK c = false := fun h => hno (by rw [List.all_eq_false]; exact ⟨_, hqm, by rw [h]; simp⟩)
     have hI : patI n.pats[k] = ((decide (1 ≤ (n.pats[k].nodes.length : Int)) && decide ((n.pats[k].nodes.length : Int) ≤ 600)) && patB (renF (fun k => dnN (k : Int)) n.pats[k]).nodes) := by
      unfold patI
      congr 2
      ·exact decide_eq_decide.2 (by omega)
      ·exact decide_eq_decide.2 (by omega)
     have CW := within_ok n.pats[k].nodes.length 1 600
     have hbk : Bulk.bulk n.pats[k] = Bulk.bulk n.pats[k].nodes + 1 := rfl
     have hql := bulk_length n.pats[k].nodes
     have CR : n.pats[k].nodes ≠ [] → CallsF Tryz.prog 67 [av n.pats[k], .fn 87 []] (av (renF (fun k => dnN (k : Int)) n.pats[k])) := fun hq => renamePatG_ok (fun k => dnN (k : Int)) 87 [] (by simp) (fun hp => rfl) n.pats[k] (fun c hc => depthName_ok c (by omega)) hq (by omega)
     have hrb := renF_bulk (f := fun k => dnN (k : Int)) (fun k => dnN_le _) n.pats[k]
     have CB := implPatOk_ok (renF (fun k => dnN (k : Int)) n.pats[k]).nodes (by
      have : Bulk.bulk (renF (fun k => dnN (k : Int)) n.pats[k]) = Bulk.bulk (renF (fun k => dnN (k : Int)) n.pats[k]).nodes + 1 := rfl
      omega)
     rw [hI] at hst hno2
     have hne : decide (1 ≤ (n.pats[k].nodes.length : Int)) = true → n.pats[k].nodes ≠ [] := fun h e => by rw [e] at h; simp at h
     clear hI hrb hbk hql
     generalize renF (fun k => dnN (k : Int)) n.pats[k] = q' at *
     generalize n.pats[k] = q at *
     cases hw : decide (1 ≤ (q.nodes.length : Int)) && decide ((q.nodes.length : Int) ≤ 600) with
     | false =>
      rw [hw] at CW hno2
      have hK0 : implK c = false := (hno2 rfl)
      simp +contextual -dsimp (maxSteps := 2000000) only [↓SD, SU, SB, simprocAttr, hlt2, e2, map_len, av_Pat, List.map_nil]
      intro u8
      refine aCallK_of _ CW ?_
      simp +contextual -dsimp (maxSteps := 2000000) only [↓SD, SU, SB, simprocAttr, List.map_nil]
      refine Goes.post [] ?_
      simp +contextual -dsimp (maxSteps := 2000000) only [↓SD, SU, SB, simprocAttr, FromP, hK0, List.map_nil]
     | true =>
      rw [hw] at CW hno2 hst
      rw [Bool.and_eq_true] at hw
      have CR2 := CR (hne hw.1)
      rw [av_Pat, av_Pat] at CR2
      cases hbB : patB q'.nodes with
      | false =>
       rw [hbB] at CB hno2
       have hK0 : implK c = false := (hno2 rfl)
       simp +contextual -dsimp (maxSteps := 2000000) only [↓SD, SU, SB, simprocAttr, hlt2, e2, map_len, av_Pat, List.map_nil]
       intro u8
       refine aCallK_of _ CW ?_
       simp +contextual -dsimp (maxSteps := 2000000) only [↓SD, SU, SB, simprocAttr, List.map_nil, av_Pat]
       refine aCallK_of _ CR2 ?_
       simp +contextual -dsimp (maxSteps := 2000000) only [↓SD, SU, SB, simprocAttr, List.map_nil]
       refine aCallK_of _ CB ?_
       simp +contextual -dsimp (maxSteps := 2000000) only [↓SD, SU, SB, simprocAttr, List.map_nil]
       refine Goes.post [] ?_
       simp +contextual -dsimp (maxSteps := 2000000) only [↓SD, SU, SB, simprocAttr, FromP, hK0, List.map_nil]
      | true =>
       rw [hbB] at CB hst
       simp +contextual -dsimp (maxSteps := 2000000) only [↓SD, SU, SB, simprocAttr, hlt2, e2, map_len, av_Pat, List.map_nil]
       intro u8
       refine aCallK_of _ CW ?_
       simp +contextual -dsimp (maxSteps := 2000000) only [↓SD, SU, SB, simprocAttr, List.map_nil, av_Pat]
       refine aCallK_of _ CR2 ?_
       simp +contextual -dsimp (maxSteps := 2000000) only [↓SD, SU, SB, simprocAttr, List.map_nil]
       refine aCallK_of _ CB ?_
       simp +contextual -dsimp (maxSteps := 2000000) only [↓SD, SU, SB, simprocAttr, List.map_nil]
       exact ⟨by omega, Goes.le ⟨k + 1, ⟨⟨hlt2, hst⟩, (by first | omega | (simp only; omega))⟩, rfl⟩ (by simp +contextual -dsimp only [↓SD, SU, SB, simprocAttr, Int.natCast_add]) (by simp +contextual -dsimp only [↓SD, SU, SB, simprocAttr])⟩
    ·obtain rfl : k = n.pats.length := by omega
     rw [List.take_length] at hpk
     simp +contextual -dsimp (maxSteps := 2000000) only [↓SD, SU, SB, simprocAttr, Nat.lt_irrefl, map_len, List.map_nil]
     exact ⟨by omega, Goes.le ⟨i + 1, ⟨⟨hlt, hin2 hpk⟩, (by first | omega | (simp only; omega))⟩, rfl⟩ (by simp +contextual -dsimp only [↓SD, SU, SB, simprocAttr, Int.natCast_add, List.map_nil]) (by simp +contextual -dsimp only [↓SD, SU, SB, simprocAttr, List.map_nil])⟩
   ·obtain rfl : i = c.nodes.length := by omega
    have hpI : (c.nodes.all fun n => n.pats.all patI) = true := by
     rw [List.all_eq_true]
     intro n hn
     obtain ⟨j, hj, rfl⟩ := List.getElem_of_mem hn
     exact hin j hj hj
    have hsh := hs
    simp only [shapeP, Bool.and_eq_true, decide_eq_true_eq, List.all_eq_true] at hsh
    obtain ⟨⟨⟨⟨⟨a1, a2⟩, a3⟩, a4⟩, a5⟩, a6⟩ := hsh
    have hpI2 := hpI
    simp only [List.all_eq_true] at hpI2
    have hk : ∀ i, i < c.nodes.length → ∀ k ∈ nkids c.nodes i, (i : Int) < k ∧ k < c.nodes.length := fun i hi k hk => tree_in a4 hi hk
    have hqne : ∀ n ∈ c.nodes, ∀ q ∈ n.pats, q.nodes ≠ [] := fun n hn q hq e => by
     have := hpI2 n hn q hq
     simp [patI, e] at this
    have hsmall : ∀ n ∈ c.nodes, okN n n.kids.length := fun n hn => by
     have h1 := node_T (a5 n hn) (by have := bulk_mem hn; omega)
     exact ⟨h1.1, h1.2.1, by have := bulk_mem hn; omega⟩
    have tok := treeAt_ok hk (fun n hn => node_T (a5 n hn) (by have := bulk_mem hn; omega)) c.nodes.length 0 (by omega) (by omega)
    have tpn := pne_of2 _ (treeAt_all hk hqne c.nodes.length 0 (by omega) (by omega))
    have te3 := e3_of _ (treeAt_all (P := fun n => n.kind = 3 → n.pats = []) hk (fun n hn h3 => by
     have := a5 n hn
     unfold nodeB at this
     split at this
     ·cases this
     rename_i h0
     refine Classical.byContradiction fun hne => h0 (.inr (.inr (.inl ⟨by omega, hne⟩)))) c.nodes.length 0 (by omega) (by omega))
    have tok2 := namedR_ok _ (treeAt_ok2 hk hsmall c.nodes.length 0 (by omega) (by omega)) 0
    have tlb := layT_bulk (treeAt c.nodes 0) 0
    rw [lay_grow a4] at tlb
    have twb := wt_bulk (treeAt c.nodes 0)
    have tsz := treeAt_size a4 (i := 0) (by omega)
    have hbb := backP_bulk a4
    have CG := grow_ok c.nodes hk (by omega) hqne c.nodes.length 0 (by omega) (by omega)
    have CN := named_ok (treeAt c.nodes 0) tok tpn te3 0 (by omega)
    have CO := programOfO_ok nm c.types (namedR (treeAt c.nodes 0) 0) tok2 (by rw [namedR_size]; omega) (by omega)
    have CT := implToCore_ok nm2 (backP c) (by omega)
    have hcb := toCoreR_bulk (p := backP c) (by omega)
    have CE := sameNodes_ok (toCoreR (backP c)).nodes c.nodes (by
     have : Bulk.bulk (toCoreR (backP c)) = Bulk.bulk (toCoreR (backP c)).types + Bulk.bulk (toCoreR (backP c)).nodes + 1 := rfl
     omega) (by omega)
    have hK : implK c = (namedB (treeAt c.nodes 0) 0 && toCoreB (backP c) && decide ((toCoreR (backP c)).nodes.map zpN = c.nodes.map zpN)) := by
     unfold implK; rw [hs, hpos2, hpI]; rfl
    have eP : (⟨c.types, layT 0 (namedR (treeAt c.nodes 0) 0)⟩ : Program) = backP c := rfl
    rw [eP] at CO
    have eT : growT c.nodes c.nodes.length 0 = treeAt c.nodes 0 := rfl
    rw [eT] at CG
    unfold namedW at CN
    clear hk hqne hsmall tok tpn te3 tok2 tlb twb tsz hbb hcb hpI2 a5 a6
    have e0 : ((0 : Nat) : Int) = 0 := rfl
    rw [e0] at CG CN
    generalize treeAt c.nodes 0 = T at *
    cases hB : namedB T 0 with
    | false =>
     rw [hB] at hK
     have hK0 : implK c = false := (by rw [hK]; rfl)
     rw [hB, if_neg (by simp)] at CN
     obtain ⟨n, ks⟩ := T
     dsimp only at CN
     simp +contextual -dsimp (maxSteps := 2000000) only [↓SD, SU, SB, simprocAttr, Nat.lt_irrefl, List.map_nil]
     refine aCallK_of _ CG ?_
     simp +contextual -dsimp (maxSteps := 2000000) only [↓SD, SU, SB, simprocAttr, List.map_nil, tr_cells, tr_pur, tr_pur1, tr_purA, tr_one, tr_ok]
     refine aCallK_of _ CN ?_
     simp +contextual -dsimp (maxSteps := 2000000) only [↓SD, SU, SB, simprocAttr, List.map_nil, tr_cells, tr_pur, tr_pur1, tr_purA, tr_one, tr_ok]
     refine Goes.post [] ?_
     simp +contextual -dsimp (maxSteps := 2000000) only [↓SD, SU, SB, simprocAttr, FromP, hK0, List.map_nil]
    | true =>
     rw [hB, Bool.true_and] at hK
     rw [hB, if_pos rfl] at CN
     simp +contextual -dsimp (maxSteps := 2000000) only [↓SD, SU, SB, simprocAttr, Nat.lt_irrefl, List.map_nil]
     refine aCallK_of _ CG ?_
     simp +contextual -dsimp (maxSteps := 2000000) only [↓SD, SU, SB, simprocAttr, List.map_nil, tr_cells, tr_pur, tr_pur1, tr_purA, tr_one, tr_ok]
     refine aCallK_of _ CN ?_
     simp +contextual -dsimp (maxSteps := 2000000) only [↓SD, SU, SB, simprocAttr, List.map_nil, tr_cells, tr_pur, tr_pur1, tr_purA, tr_one, tr_ok]
     refine aCallH_gen [] CO (by simp +contextual -dsimp only [↓SD, SU, SB, simprocAttr, tr_purA]) ?_
     rintro r hp' ⟨vs, rfl, rfl⟩ H hH
     rw [hrest_no] at hH
     have l0 : hpLe H (oh nm vs (backP c)) := by rw [hH]; exact hpLe_l (OVal.self _ _ _)
     have l0' := l0
     rw [oh_Program, hpLe_app] at l0'
     have r0 := hpLe_root l0'.1
     have r1 := hpLe_root l0'.2
     have o1 := old_app hH (by omega)
     rw [av_Program] at CT
     simp +contextual -dsimp (maxSteps := 2000000) only [↓SD, SU, SB, simprocAttr, ov_Program, r0, r1, low_beq, false_and]
     intro w11
     rw [← av_Program] at CT
     refine aCallHL_gen (on nm (backP c)) CT (map_cons_eq (lend1e (nm := nm) (vs := vs) (y := backP c) (by rw [ov_Program]) (by repeat (first | exact l0 | refine hpLe_skip (fun h => by have := h.le; omega) ?_))) rfl) ?_
     rintro r hp' ⟨v2, rfl, rfl⟩
     refine ⟨⟨by simp only [AV.free, List.all_cons, List.all_nil, ov_free0]; rfl, oh_hfree _ _ _⟩, ?_⟩
     intro H2 hH2
     have l3 : hpLe H2 (oh nm2 v2 (toCoreR (backP c))) := by rw [hH2]; exact hpLe_l (OVal.self _ _ _)
     have l4 : hpLe H2 (oh nm vs (backP c)) := keep_app hH2 (fun k hk => apart_names (by omega) (by omega) (by omega) hk) (by repeat (first | exact l0 | refine hpLe_skip (fun h => by have := h.le; omega) ?_))
     have o2 := old_app hH2 (by omega)
     have l3' := l3
     have l4' := l4
     rw [oh_Program, hpLe_app] at l3' l4'
     have r2 := hpLe_root l3'.1
     have r3 := hpLe_root l3'.2
     have r4 := hpLe_root l4'.1
     have r5 := hpLe_root l4'.2
     cases hT : toCoreB (backP c) with
     | false =>
      rw [hT] at hK
      have hK0 : implK c = false := by rw [hK]; rfl
      simp +contextual -dsimp (maxSteps := 2000000) only [↓SD, SU, SB, simprocAttr, ov_Program, r2, r3, r4, r5, o1, o2, low_beq, false_and]
      intro w12
      refine Goes.post [] ?_
      simp +contextual -dsimp (maxSteps := 2000000) only [↓SD, SU, SB, simprocAttr, FromP, hK0, List.map_nil]
     | true =>
      rw [hT, Bool.true_and] at hK
      simp +contextual -dsimp (maxSteps := 2000000) only [↓SD, SU, SB, simprocAttr, ov_Program, r2, r3, r4, r5, o1, o2, low_beq, false_and]
      intro w12
      refine aCallL_of (on (sub nm2 1) (toCoreR (backP c)).nodes) CE rfl (map_cons_eq (lend1e (nm := sub nm2 1) (vs := v2) (y := (toCoreR (backP c)).nodes) (by rw [ov_list]) (by repeat (first | exact l3'.2 | refine hpLe_skip (fun h => by have := h.ge; omega) ?_))) (map_cons_eq (by simp +contextual -dsimp only [↓SD, SU, SB, simprocAttr, map_nop]) rfl)) ?_
      cases hE : decide ((toCoreR (backP c)).nodes.map zpN = c.nodes.map zpN) with
      | false =>
       have hK0 : implK c = false := by rw [hK]; exact hE
       simp +contextual -dsimp (maxSteps := 2000000) only [↓SD, SU, SB, simprocAttr, ov_Program, r2, r3, r4, r5, o1, o2, low_beq, false_and]
       refine Goes.post [] ?_
       simp +contextual -dsimp (maxSteps := 2000000) only [↓SD, SU, SB, simprocAttr, FromP, hK0, List.map_nil]
      | true =>
       have hK1 : implK c = true := by rw [hK]; exact hE
       simp +contextual -dsimp (maxSteps := 2000000) only [↓SD, SU, SB, simprocAttr, ov_Program, r2, r3, r4, r5, o1, o2, low_beq, false_and]
       refine Goes.post (oh nm vs (backP c)) ?_
       simp +contextual -dsimp (maxSteps := 2000000) only [↓SD, SU, SB, simprocAttr, ov_Program, r2, r3, r4, r5, o1, o2, low_beq, false_and]
       refine ⟨?_, fun h => absurd h (by rw [hK1]; simp), fun _ => ⟨vs, by rw [ov_Program], rfl⟩⟩
       repeat (first | exact l4 | refine hpLe_skip (fun h => by have := h.le; omega) ?_)
end Go.Proofs.YtjifpdcflankpaaGreat

namespace Go.Proofs.YtjifpdcflankpaaGreat
open Go.RowKit Go.Proofs.YtjifpdcflankpaaGreat.Av Go.Proofs.YtjifpdcflankpaaGreat.Ml
open Go.Proofs.YtjifpdcflankpaaGreat.Av.AVal (av)
open OVal (ov oh on)

def fromR (c : Program) : Program := if implK c = true then backP c else ⟨[], []⟩
theorem fromR_bulk (c : Program) : Bulk.bulk (fromR c) ≤ 26 * Bulk.bulk c := by
 unfold fromR
 split
 ·rename_i h
  have ht : treeB (nkids c.nodes) c.nodes.length = true := by
   cases h2 : treeB (nkids c.nodes) c.nodes.length with
   | true => rfl
   | false => unfold implK shapeP at h; rw [h2] at h; simp at h
  exact backP_bulk ht
 ·have e1 : Bulk.bulk c = Bulk.bulk c.types + Bulk.bulk c.nodes + 1 := rfl
  have e2 : Bulk.bulk (⟨[], []⟩ : Program) = 3 := rfl
  have h1 := bulk_length c.types
  have h2 := bulk_length c.nodes
  omega
theorem implFromCore_ok (nm : Nat) (hm : 1000 ≤ nm ∧ nm < 9000) (c : Program) (hx : 26 * Bulk.bulk c ≤ 4294967296) : CallsH Tryz.prog 17 [av c] [] (ToCorePost nm (fromR c) (implK c)) := by
 have C := fromCoreH_ok nm (nm + 1) (by omega) c hx
 have hF : CallsH Tryz.prog 17 [av c] [] (FromP nm c) := by
  refine ir_impl_FromCore_H.H rfl ?_
  simp +contextual -dsimp (maxSteps := 2000000) only [↓SD, SU, SB, simprocAttr, ir_impl_FromCore_H, av_Program, List.map_nil]
  rw [av_Program] at C
  intro v
  refine aCallH_gen [] C (by simp +contextual -dsimp only [↓SD, SU, SB, simprocAttr]) ?_
  rintro r hp' ⟨h0, h1⟩ H hH
  rw [hrest_no] at hH
  cases hk : implK c with
  | false =>
   obtain ⟨rfl, rfl⟩ := h0 hk
   subst hH
   simp +contextual -dsimp (maxSteps := 2000000) only [↓SD, SU, SB, simprocAttr]
   refine Goes.post [] ?_
   simp +contextual -dsimp (maxSteps := 2000000) only [↓SD, SU, SB, simprocAttr, FromP, hk]
  | true =>
   obtain ⟨vs, rfl, rfl⟩ := h1 hk
   have l0 : hpLe H (oh nm vs (backP c)) := by rw [hH]; exact hpLe_l (OVal.self _ _ _)
   have l0' := l0
   rw [oh_Program, hpLe_app] at l0'
   have r0 := hpLe_root l0'.1
   have r1 := hpLe_root l0'.2
   have o1 := old_app hH (by omega)
   simp +contextual -dsimp (maxSteps := 2000000) only [↓SD, SU, SB, simprocAttr, ov_Program, r0, r1, o1, low_beq, false_and]
   refine Goes.post (oh nm vs (backP c)) ?_
   simp +contextual -dsimp (maxSteps := 2000000) only [↓SD, SU, SB, simprocAttr, r0, r1, o1, low_beq, false_and]
   refine ⟨by repeat (first | exact l0 | refine hpLe_skip (fun h => by have := h.le; omega) ?_), ?_⟩
   unfold FromP
   rw [hk]
   exact ⟨fun h => by simp at h, fun _ => ⟨vs, by rw [ov_Program], rfl⟩⟩
 refine callsH_goes hF fun r hp' hr => ?_
 obtain ⟨h0, h1⟩ := hr
 cases hk : implK c with
 | false =>
  obtain ⟨rfl, rfl⟩ := h0 hk
  have e : fromR c = ⟨[], []⟩ := by unfold fromR; rw [hk]; simp
  rw [e]
  refine Goes.newT 0 0 0 (sub nm 0) 74 3 rfl rfl rfl fun u => ?_
  refine Goes.newT 0 0 1 (sub nm 1) 44 6 rfl rfl rfl fun v => ?_
  have hne : sub nm 1 ≠ sub nm 0 := fun e => by have := (sub_inj e).2; omega
  refine Goes.le (t := ⟨[(0, .tup [.agg [.row (sub nm 0) u 0, .row (sub nm 1) v 0], .bool false])], [(sub nm 0, ⟨u, false, 74, 3, []⟩), (sub nm 1, ⟨v, false, 44, 6, []⟩)]⟩) ⟨fun q => if q = sub nm 0 then u else v, ?_, ?_⟩ (by simp +contextual -dsimp only [↓SD, SU, SB, simprocAttr]) ⟨?_, hg_eq, trivial⟩
  ·rw [ov_Program, if_pos rfl, if_neg hne]; rfl
  ·rw [oh_Program, oh_list, oh_list, ohL_nil, lbox, lbox, if_pos rfl, if_neg hne]; rfl
  ·rw [hg_ne hne]; exact hg_eq
 | true =>
  have e : fromR c = backP c := by unfold fromR; rw [hk]; simp
  rw [e]
  exact Goes.here (h1 hk)
theorem specFromCore_ok (c : Program) (hx : 26 * Bulk.bulk c + 100 ≤ 4294967296) : CallsF Tryz.prog 16 [av c] (.tup [av (fromR c), .bool (implK c)]) := by
 have hF : CallsF Tryz.prog 16 [av c] (backVS c) := by
  refine ir_spec_FromCore.F rfl (by simp; exact AVal.clean c) (backVS_pure c) ?_
  have C := l15Back_ok c hx
  unfold backVS at C ⊢
  rw [av_Program c] at C
  cases hK : specK c with
  | false =>
   rw [hK, if_neg (by simp)] at C
   rw [if_neg (by simp)]
   simp +contextual -dsimp (maxSteps := 2000000) only [↓SD, SU, SB, simprocAttr, ir_spec_FromCore, av_Program]
   intro v
   refine aCallK_of _ C ?_
   simp +contextual -dsimp (maxSteps := 2000000) only [↓SD, SU, SB, simprocAttr]
  | true =>
   rw [hK, if_pos rfl] at C
   rw [if_pos rfl]
   rw [av_Program (backP c)] at C ⊢
   generalize (backP c).types = T at *
   generalize (backP c).nodes = L at *
   simp +contextual -dsimp (maxSteps := 2000000) only [↓SD, SU, SB, simprocAttr, ir_spec_FromCore, av_Program]
   intro v
   refine aCallK_of _ C ?_
   simp +contextual -dsimp (maxSteps := 2000000) only [↓SD, SU, SB, simprocAttr, map_nop]
 have hI := implK_specK c (by omega)
 unfold backVS at hF
 rw [← hI] at hF
 cases hk : implK c with
 | true =>
  have e : fromR c = backP c := by unfold fromR; rw [hk]; simp
  rw [e]
  rw [hk, if_pos rfl] at hF
  exact hF
 | false =>
  have e : fromR c = ⟨[], []⟩ := by unfold fromR; rw [hk]; simp
  rw [e, av_Program]
  rw [hk, if_neg (by simp)] at hF
  refine callsF_weaker hF fun S w v h => ?_
  have := Av.VR.tupSet (off := 0) (y := .agg [.sl [], .sl []]) h (fun x u hx hu => by
   cases hx
   have h1 := Av.VR.aggSet (off := 0) (y := .sl []) hu rfl (fun x u hx hu => by cases hx; cases hu; exact .sl0 none 0 (Nat.zero_le _))
   exact Av.VR.aggSet (off := 1) (y := .sl []) h1 rfl (fun x u hx hu => by cases hx; cases hu; exact .sl0 none 0 (Nat.zero_le _)))
  exact this
end Go.Proofs.YtjifpdcflankpaaGreat

namespace Go.Proofs.YtjifpdcflankpaaGreat
open Go.RowKit Go.Proofs.YtjifpdcflankpaaGreat.Av Go.Proofs.YtjifpdcflankpaaGreat.Ml
open Go.Proofs.YtjifpdcflankpaaGreat.Av.AVal (av)
open OVal (ov oh on)
open Mk (mkv cnt)

set_option maxHeartbeats 4000000 in
theorem lawFromCore_ok (y0 : Program) (hq0 : Bulk.bulk y0 ≤ 1048576) : CallsF Tryz.prog 5 [av y0] (.bool true) := by -- 
 have hk0 : Bulk.bulk y0 ≤ 4294967296 := by omega
 have hb0 : Bulk.bulk y0.types + Bulk.bulk y0.nodes + 1 ≤ 4294967296 := hk0
 refine ir_laws_FnExactFromCore.F rfl (by simp; exact AVal.clean y0) (AvPure.bool _) ?_
 have T0 := toProgram_ok y0 hk0
 have E0 := eqProgram_ok y0 hk0
 rw [av_Program] at T0 E0
 have B0 := MkB.le y0
 have CS := specFromCore_ok y0 (by omega)
 have CI := fun nm (hnm : 1000 ≤ nm ∧ nm < 9000) => implFromCore_ok nm hnm y0 (by omega)
 obtain ⟨R0, hR0⟩ : ∃ R, R = fromR y0 := ⟨_, rfl⟩
 have hRb := fromR_bulk y0
 rw [← hR0] at hRb
 rw [← hR0] at CS CI
 have EL0 := eqProgram_ok R0 (by omega)
 have BL0 := MkB.le R0
 rw [av_Program] at EL0
 try simp only [av_Program, av_Program] at CS CI
 simp +contextual -dsimp (maxSteps := 2000000) only [↓SD, SU, SB, simprocAttr, ir_laws_FnExactFromCore, av_Program, map_len, false_and, ov_Program, ov_list]
 have Z0 := fun n h1 h2 => szProgram_ok y0 n hk0 h1 h2
 rw [av_Program] at Z0
 refine aCallH_of [] (Z0 _ (by omega) (by omega)) (by simp +contextual -dsimp only [↓SD, SU, SB, simprocAttr]) ?_
 rintro r hp' ⟨m0, rfl, rfl, a0, b0⟩
 by_cases hm0 : m0 < 0
 ·simp +contextual -dsimp (maxSteps := 2000000) only [↓SD, SU, SB, simprocAttr, hm0]
 simp +contextual -dsimp (maxSteps := 2000000) only [↓SD, SU, SB, simprocAttr, av_Program, map_len, false_and, ov_Program, ov_list, low_beq, hm0]
 repeat intro _
 refine aCallK_of _ T0 ?_
 simp +contextual -dsimp (maxSteps := 2000000) only [↓SD, SU, SB, simprocAttr, av_Program, map_len, false_and, ov_Program, ov_list, low_beq]
 repeat intro _
 refine aCallK_of _ CS ?_
 simp +contextual -dsimp (maxSteps := 2000000) only [↓SD, SU, SB, simprocAttr, av_Program, map_len, false_and, ov_Program, ov_list, low_beq]
 repeat intro _
 have O0 := toProgram_own 1001 y0 hk0
 rw [av_Program] at O0
 refine aCallH_gen [] O0 (by simp +contextual -dsimp only [↓SD, SU, SB, simprocAttr]) ?_
 rintro r hp' ⟨v0, rfl, rfl⟩ H1 hH1
 rw [hrest_no] at hH1
 have l0 : hpLe H1 (oh 1001 v0 y0) := by rw [hH1]; exact hpLe_l (OVal.self _ _ _)
 have o1 := old_app hH1 (by omega)
 have q1 := hpLe_root (hpLe_app.1 (show hpLe _ (oh (sub 1001 0) v0 y0.types ++ oh (sub 1001 1) v0 y0.nodes) from l0)).1
 have q2 := hpLe_root (hpLe_app.1 (show hpLe _ (oh (sub 1001 0) v0 y0.types ++ oh (sub 1001 1) v0 y0.nodes) from l0)).2
 simp +contextual -dsimp (maxSteps := 2000000) only [↓SD, SU, SB, simprocAttr, av_Program, map_len, false_and, ov_Program, ov_list, low_beq, q1, q2, o1]
 repeat intro _
 refine aCallHL_gen (on 1001 y0) (CI 1010 (by omega)) (map_cons_eq (lend1 (nm := 1001) (vs := v0) (y := y0) (by repeat (first | exact l0 | refine hpLe_skip (fun h => by have := h.le; omega) ?_))) (rfl)) ?_
 rintro r hp' ⟨vg, rfl, rfl⟩
 refine ⟨⟨by simp only [AV.free, List.all_cons, List.all_nil, ov_free0]; rfl, oh_hfree _ _ _⟩, ?_⟩
 intro H2 hH2
 have l3 : hpLe H2 (oh 1010 vg R0) := by rw [hH2]; exact hpLe_l (OVal.self _ _ _)
 have l4 : hpLe H2 (oh 1001 v0 y0) := keep_app hH2 (fun k hk => apart_names (by omega) (by omega) (by omega) hk) (by repeat (first | exact l0 | refine hpLe_skip (fun h => by have := h.le; omega) ?_))
 have o2 := old_app hH2 (by omega)
 have q5 := hpLe_root (hpLe_app.1 (show hpLe _ (oh (sub 1001 0) v0 y0.types ++ oh (sub 1001 1) v0 y0.nodes) from l4)).1
 have q6 := hpLe_root (hpLe_app.1 (show hpLe _ (oh (sub 1001 0) v0 y0.types ++ oh (sub 1001 1) v0 y0.nodes) from l4)).2
 have q7 := hpLe_root (hpLe_app.1 (show hpLe _ (oh (sub 1010 0) vg R0.types ++ oh (sub 1010 1) vg R0.nodes) from l3)).1
 have q8 := hpLe_root (hpLe_app.1 (show hpLe _ (oh (sub 1010 0) vg R0.types ++ oh (sub 1010 1) vg R0.nodes) from l3)).2
 simp +contextual -dsimp (maxSteps := 2000000) only [↓SD, SU, SB, simprocAttr, av_Program, map_len, false_and, ov_Program, ov_list, low_beq, q5, q6, q7, q8, o1, o2]
 repeat intro _
 refine aCallL_of (on 1010 R0) EL0 rfl (map_cons_eq (lend1 (nm := 1010) (vs := vg) (y := R0) (by repeat (first | exact l3 | refine hpLe_skip (fun h => by have := h.le; omega) ?_))) (map_cons_eq rfl (rfl))) ?_
 simp +contextual -dsimp (maxSteps := 2000000) only [↓SD, SU, SB, simprocAttr, av_Program, map_len, false_and, ov_Program, ov_list, low_beq, q5, q6, q7, q8, o1, o2, beq_self_eq_true]
 repeat intro _
 refine aCallK_of _ T0 ?_
 simp +contextual -dsimp (maxSteps := 2000000) only [↓SD, SU, SB, simprocAttr, av_Program, map_len, false_and, ov_Program, ov_list, low_beq, q5, q6, q7, q8, o1, o2]
 repeat intro _
 refine aCallL_of (on 1001 y0) E0 rfl (map_cons_eq (lend1 (nm := 1001) (vs := v0) (y := y0) (by repeat (first | exact l4 | refine hpLe_skip (fun h => by have := h.le; omega) ?_))) (map_cons_eq rfl (rfl))) ?_
 simp +contextual -dsimp (maxSteps := 2000000) only [↓SD, SU, SB, simprocAttr, av_Program, map_len, false_and, ov_Program, ov_list, low_beq, q5, q6, q7, q8, o1, o2, beq_self_eq_true]
 repeat intro _
 refine aCallH_gen (on 1001 y0) (markProgram_own 1001 v0 y0 _ (by omega) (by omega)) (hsel_on (by repeat (first | exact l4 | refine hpLe_skip (fun h => by have := h.le; omega) ?_))) ?_
 rintro r hp' ⟨rfl, rfl⟩ H3 hH3
 have l9 : hpLe H3 (oh 1001 v0 (mkv (1) y0)) := part_done hH3
 have l10 : hpLe H3 (oh 1010 vg R0) := part_other hH3 (fun k hk => apart_names (by omega) (by omega) (by omega) hk) (by repeat (first | exact l3 | refine hpLe_skip (fun h => by have := h.le; omega) ?_))
 have o3 := old_part hH3 (by omega)
 have q11 := hpLe_root (hpLe_app.1 (show hpLe _ (oh (sub 1001 0) v0 ((mkv (1) y0)).types ++ oh (sub 1001 1) v0 ((mkv (1) y0)).nodes) from l9)).1
 have q12 := hpLe_root (hpLe_app.1 (show hpLe _ (oh (sub 1001 0) v0 ((mkv (1) y0)).types ++ oh (sub 1001 1) v0 ((mkv (1) y0)).nodes) from l9)).2
 have q13 := hpLe_root (hpLe_app.1 (show hpLe _ (oh (sub 1010 0) vg R0.types ++ oh (sub 1010 1) vg R0.nodes) from l10)).1
 have q14 := hpLe_root (hpLe_app.1 (show hpLe _ (oh (sub 1010 0) vg R0.types ++ oh (sub 1010 1) vg R0.nodes) from l10)).2
 have hg : ¬ 1 + (cnt y0 : Int) < 0 := by omega
 simp +contextual -dsimp (maxSteps := 2000000) only [↓SD, SU, SB, simprocAttr, av_Program, map_len, false_and, ov_Program, ov_list, low_beq, q11, q12, q13, q14, o1, o2, o3, hg]
 repeat intro _
 refine aCallL_of (on 1010 R0) EL0 rfl (map_cons_eq (lend1 (nm := 1010) (vs := vg) (y := R0) (by repeat (first | exact l10 | refine hpLe_skip (fun h => by have := h.le; omega) ?_))) (map_cons_eq rfl (rfl))) ?_
 simp +contextual -dsimp (maxSteps := 2000000) only [↓SD, SU, SB, simprocAttr, av_Program, map_len, false_and, ov_Program, ov_list, low_beq, q11, q12, q13, q14, o1, o2, o3, beq_self_eq_true]
 repeat intro _
 refine aCallH_gen (on 1010 R0) (markProgram_own 1010 vg R0 _ (by omega) (by omega)) (hsel_on (by repeat (first | exact l10 | refine hpLe_skip (fun h => by have := h.le; omega) ?_))) ?_
 rintro r hp' ⟨rfl, rfl⟩ H4 hH4
 have l15 : hpLe H4 (oh 1001 v0 (mkv (1) y0)) := part_other hH4 (fun k hk => apart_names (by omega) (by omega) (by omega) hk) (by repeat (first | exact l9 | refine hpLe_skip (fun h => by have := h.le; omega) ?_))
 have l16 : hpLe H4 (oh 1010 vg (mkv (1) R0)) := part_done hH4
 have o4 := old_part hH4 (by omega)
 have q17 := hpLe_root (hpLe_app.1 (show hpLe _ (oh (sub 1001 0) v0 ((mkv (1) y0)).types ++ oh (sub 1001 1) v0 ((mkv (1) y0)).nodes) from l15)).1
 have q18 := hpLe_root (hpLe_app.1 (show hpLe _ (oh (sub 1001 0) v0 ((mkv (1) y0)).types ++ oh (sub 1001 1) v0 ((mkv (1) y0)).nodes) from l15)).2
 have q19 := hpLe_root (hpLe_app.1 (show hpLe _ (oh (sub 1010 0) vg ((mkv (1) R0)).types ++ oh (sub 1010 1) vg ((mkv (1) R0)).nodes) from l16)).1
 have q20 := hpLe_root (hpLe_app.1 (show hpLe _ (oh (sub 1010 0) vg ((mkv (1) R0)).types ++ oh (sub 1010 1) vg ((mkv (1) R0)).nodes) from l16)).2
 simp +contextual -dsimp (maxSteps := 2000000) only [↓SD, SU, SB, simprocAttr, av_Program, map_len, false_and, ov_Program, ov_list, low_beq, q17, q18, q19, q20, o1, o2, o3, o4]
 repeat intro _
 have hh21 := heldProgram_own R0 (1) (by omega) (by omega)
 have hh21g : ¬ 1 + (cnt R0 : Int) < 0 := by omega
 refine aCallL_of (on 1010 ((mkv (1) R0))) hh21 rfl (map_cons_eq (lend1e (nm := 1010) (vs := vg) (y := ((mkv (1) R0))) (by rw [mk_Program, ov_Program]; simp only [mkL_len]) (by repeat (first | exact l16 | refine hpLe_skip (fun h => by have := h.le; omega) ?_))) (map_cons_eq rfl (rfl))) ?_
 simp +contextual -dsimp (maxSteps := 2000000) only [↓SD, SU, SB, simprocAttr, av_Program, map_len, false_and, ov_Program, ov_list, low_beq, q17, q18, q19, q20, o1, o2, o3, o4, hh21g, beq_self_eq_true]
 repeat intro _
 refine aCallK_of _ T0 ?_
 simp +contextual -dsimp (maxSteps := 2000000) only [↓SD, SU, SB, simprocAttr, av_Program, map_len, false_and, ov_Program, ov_list, low_beq, q17, q18, q19, q20, o1, o2, o3, o4]
 repeat intro _
 refine aCallH_gen [] (CI 1020 (by omega)) (by simp +contextual -dsimp only [↓SD, SU, SB, simprocAttr]) ?_
 rintro r hp' ⟨vh, rfl, rfl⟩ H5 hH5
 rw [hrest_no] at hH5
 have l22 : hpLe H5 (oh 1020 vh R0) := by rw [hH5]; exact hpLe_l (OVal.self _ _ _)
 have l23 : hpLe H5 (oh 1001 v0 (mkv (1) y0)) := keep_app hH5 (fun k hk => apart_names (by omega) (by omega) (by omega) hk) (by repeat (first | exact l15 | refine hpLe_skip (fun h => by have := h.le; omega) ?_))
 have l24 : hpLe H5 (oh 1010 vg (mkv (1) R0)) := keep_app hH5 (fun k hk => apart_names (by omega) (by omega) (by omega) hk) (by repeat (first | exact l16 | refine hpLe_skip (fun h => by have := h.le; omega) ?_))
 have o5 := old_app hH5 (by omega)
 have q25 := hpLe_root (hpLe_app.1 (show hpLe _ (oh (sub 1001 0) v0 ((mkv (1) y0)).types ++ oh (sub 1001 1) v0 ((mkv (1) y0)).nodes) from l23)).1
 have q26 := hpLe_root (hpLe_app.1 (show hpLe _ (oh (sub 1001 0) v0 ((mkv (1) y0)).types ++ oh (sub 1001 1) v0 ((mkv (1) y0)).nodes) from l23)).2
 have q27 := hpLe_root (hpLe_app.1 (show hpLe _ (oh (sub 1010 0) vg ((mkv (1) R0)).types ++ oh (sub 1010 1) vg ((mkv (1) R0)).nodes) from l24)).1
 have q28 := hpLe_root (hpLe_app.1 (show hpLe _ (oh (sub 1010 0) vg ((mkv (1) R0)).types ++ oh (sub 1010 1) vg ((mkv (1) R0)).nodes) from l24)).2
 have q29 := hpLe_root (hpLe_app.1 (show hpLe _ (oh (sub 1020 0) vh R0.types ++ oh (sub 1020 1) vh R0.nodes) from l22)).1
 have q30 := hpLe_root (hpLe_app.1 (show hpLe _ (oh (sub 1020 0) vh R0.types ++ oh (sub 1020 1) vh R0.nodes) from l22)).2
 simp +contextual -dsimp (maxSteps := 2000000) only [↓SD, SU, SB, simprocAttr, av_Program, map_len, false_and, ov_Program, ov_list, low_beq, q25, q26, q27, q28, q29, q30, o1, o2, o3, o4, o5]
 repeat intro _
 refine aCallL_of (on 1020 R0) EL0 rfl (map_cons_eq (lend1 (nm := 1020) (vs := vh) (y := R0) (by repeat (first | exact l22 | refine hpLe_skip (fun h => by have := h.le; omega) ?_))) (map_cons_eq rfl (rfl))) ?_
 simp +contextual -dsimp (maxSteps := 2000000) only [↓SD, SU, SB, simprocAttr, av_Program, map_len, false_and, ov_Program, ov_list, low_beq, q25, q26, q27, q28, q29, q30, o1, o2, o3, o4, o5, beq_self_eq_true]
 repeat intro _
 have hh31 := heldProgram_own R0 (1) (by omega) (by omega)
 have hh31g : ¬ 1 + (cnt R0 : Int) < 0 := by omega
 refine aCallL_of (on 1010 ((mkv (1) R0))) hh31 rfl (map_cons_eq (lend1e (nm := 1010) (vs := vg) (y := ((mkv (1) R0))) (by rw [mk_Program, ov_Program]; simp only [mkL_len]) (by repeat (first | exact l24 | refine hpLe_skip (fun h => by have := h.le; omega) ?_))) (map_cons_eq rfl (rfl))) ?_
 simp +contextual -dsimp (maxSteps := 2000000) only [↓SD, SU, SB, simprocAttr, av_Program, map_len, false_and, ov_Program, ov_list, low_beq, q25, q26, q27, q28, q29, q30, o1, o2, o3, o4, o5, hh31g, beq_self_eq_true]
 repeat intro _
end Go.Proofs.YtjifpdcflankpaaGreat
