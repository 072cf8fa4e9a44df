/-
  ProgramOk OF THE REFERENCE, by abstract texts. Conditions: none.
-/
import Derived.Test.YtpomnlejlgojaaaGreatPgmW3
set_option linter.unusedVariables false
set_option linter.unusedSimpArgs false
set_option maxRecDepth 100000
namespace Go.Proofs.YtpomnlejlgojaaaGreat
open Go.RowKit Go.Proofs.YtpomnlejlgojaaaGreat.Av Go.Proofs.YtpomnlejlgojaaaGreat.Ml
open Go.Proofs.YtpomnlejlgojaaaGreat.Av.AVal (av)

theorem l04NEnd_ok (p : Program) (hx : Bulk.bulk p ≤ 1048576) : ∀ (f i : Nat), p.nodes.length - i < f → i ≤ 1048576 → CallsF Tryz.prog 98 [av p, .int .i64 i] (.int .i64 (endI (endF (nkids p.nodes) p.nodes.length f i))) := by
  obtain ⟨q1, q2, q3, hl⟩ := prog_small hx
  intro f
  induction f with
  | zero => intro i h; omega
  | succ f ih =>
    intro i hf hi0
    refine fun_spec_l04NEnd rfl (by simp; exact ⟨AVal.clean p, pint _⟩) (pint _) ?_
    by_cases hi : i < p.nodes.length
    · have e := getD_map av p.nodes i .top hi
      have hs := (node_small q2 (List.getElem_mem hi)).1
      have hK : nkids p.nodes i = p.nodes[i].kids := by rw [nkids, getD_at hi]
      have hE : endF (nkids p.nodes) p.nodes.length (f + 1) i = kidsF (endF (nkids p.nodes) p.nodes.length f) p.nodes[i].kids (i + 1) := by rw [endF, if_pos hi, hK]
      rw [hE]
      generalize p.nodes[i] = a at *
      simp +contextual -dsimp (maxSteps := 2000000) only [↓SD, SU, SB, Nat.reduceAdd, Nat.reduceBEq, Nat.reduceEqDiff, Nat.reduceLeDiff, Nat.reduceLT, Nat.reduceSub, ↓reduceIte, forall_const, implies_true, ne_eq, reduceCtorEq, Int.reduceToNat, forall_eq, ir_spec_l04NEnd, rs_spec_l04NEnd, map_len, hi, e, av_Node, av_Program, Nat.not_le]
      refine ⟨by omega, by omega, ?_⟩
      refine aLoop_of (X := Nat × Nat) (fun x => ⟨[(2, .obj [.sl (p.types.map av), .sl (p.nodes.map av)]), (5, .int .i64 x.2), (20, .sl (a.kids.map av)), (21, .int .i64 a.kids.length), (22, .int .i64 x.1)], []⟩) (fun x => x.1 ≤ a.kids.length ∧ i < x.2 ∧ x.2 ≤ p.nodes.length ∧ kidsF (endF (nkids p.nodes) p.nodes.length f) a.kids (i + 1) = kidsF (endF (nkids p.nodes) p.nodes.length f) (a.kids.drop x.1) x.2) (fun x => a.kids.length - x.1) (0, i + 1) ⟨Nat.zero_le _, by simp, by simp only; omega, rfl⟩ (by simp +contextual -dsimp (maxSteps := 2000000) only [↓SD, SU, SB, Nat.reduceAdd, Nat.reduceBEq, Nat.reduceEqDiff, Nat.reduceLeDiff, Nat.reduceLT, Nat.reduceSub, ↓reduceIte, forall_const, implies_true, ne_eq, reduceCtorEq, Int.reduceToNat, forall_eq, Int.natCast_add]) trivial ?_
      rintro ⟨j, m⟩ ⟨hj, hm1, hm2, he⟩
      simp only at hj hm1 hm2 he
      by_cases hlt : j < a.kids.length
      · have e2 := getD_map av a.kids j .top hlt
        rw [List.drop_eq_getElem_cons hlt, kidsF] at he
        have C := ih m (by omega) (by omega)
        rw [av_Program] at C
        by_cases hkm : a.kids[j] = (m : Int)
        · rw [if_pos hkm] at he
          simp +contextual -dsimp (maxSteps := 2000000) only [↓SD, SU, SB, Nat.reduceAdd, Nat.reduceBEq, Nat.reduceEqDiff, Nat.reduceLeDiff, Nat.reduceLT, Nat.reduceSub, ↓reduceIte, forall_const, implies_true, ne_eq, reduceCtorEq, Int.reduceToNat, forall_eq, map_len, hlt, e2, av_int, hkm]
          refine aCallK_of _ C ?_
          cases hm' : endF (nkids p.nodes) p.nodes.length f m with
          | none =>
            rw [hm'] at he
            simp +contextual -dsimp (maxSteps := 2000000) only [↓SD, SU, SB, Nat.reduceAdd, Nat.reduceBEq, Nat.reduceEqDiff, Nat.reduceLeDiff, Nat.reduceLT, Nat.reduceSub, ↓reduceIte, forall_const, implies_true, ne_eq, reduceCtorEq, Int.reduceToNat, forall_eq, Int.reduceEq, Int.reduceLT, Int.reduceLE, Int.reduceNeg, Int.reduceAdd, Int.reduceSub, endI]
            rw [he]
          | some m' =>
            rw [hm'] at he
            have := end_le (nkids p.nodes) p.nodes.length f m m' hm'
            have hneg : ¬ ((m' : Int) < 0) := by omega
            simp +contextual -dsimp (maxSteps := 2000000) only [↓SD, SU, SB, Nat.reduceAdd, Nat.reduceBEq, Nat.reduceEqDiff, Nat.reduceLeDiff, Nat.reduceLT, Nat.reduceSub, ↓reduceIte, forall_const, implies_true, ne_eq, reduceCtorEq, Int.reduceToNat, forall_eq, endI, hneg]
            refine ⟨by omega, Goes.le ⟨(j + 1, m'), ⟨⟨hlt, by simp only; omega, this.2, he⟩, (by first | omega | (simp only; omega))⟩, rfl⟩ (by simp +contextual -dsimp (maxSteps := 2000000) only [↓SD, SU, SB, Nat.reduceAdd, Nat.reduceBEq, Nat.reduceEqDiff, Nat.reduceLeDiff, Nat.reduceLT, Nat.reduceSub, ↓reduceIte, forall_const, implies_true, ne_eq, reduceCtorEq, Int.reduceToNat, forall_eq, Int.natCast_add]) trivial⟩
        · rw [if_neg hkm] at he
          simp +contextual -dsimp (maxSteps := 2000000) only [↓SD, SU, SB, Nat.reduceAdd, Nat.reduceBEq, Nat.reduceEqDiff, Nat.reduceLeDiff, Nat.reduceLT, Nat.reduceSub, ↓reduceIte, forall_const, implies_true, ne_eq, reduceCtorEq, Int.reduceToNat, forall_eq, map_len, hlt, e2, av_int, hkm]
          rw [he]; rfl
      · obtain rfl : j = a.kids.length := by omega
        rw [List.drop_length, kidsF] at he
        simp +contextual -dsimp (maxSteps := 2000000) only [↓SD, SU, SB, Nat.reduceAdd, Nat.reduceBEq, Nat.reduceEqDiff, Nat.reduceLeDiff, Nat.reduceLT, Nat.reduceSub, ↓reduceIte, forall_const, implies_true, ne_eq, reduceCtorEq, Int.reduceToNat, forall_eq, map_len, Nat.lt_irrefl]
        rw [he]; rfl
    · have hE : endF (nkids p.nodes) p.nodes.length (f + 1) i = none := by rw [endF, if_neg hi]
      have hi' : p.nodes.length ≤ i := by omega
      simp +contextual -dsimp (maxSteps := 2000000) only [↓SD, SU, SB, Nat.reduceAdd, Nat.reduceBEq, Nat.reduceEqDiff, Nat.reduceLeDiff, Nat.reduceLT, Nat.reduceSub, ↓reduceIte, forall_const, implies_true, ne_eq, reduceCtorEq, Int.reduceToNat, forall_eq, ir_spec_l04NEnd, rs_spec_l04NEnd, av_Program, map_len, hi', hE]
      rfl

theorem l04Con_ok (c : Con) (m : Int) (hs : c.name.size ≤ 1048576) (hb : Bulk.bulk c.arg.items ≤ 1048576) : CallsF Tryz.prog 96 [av c, .int .i64 m] (.bool (conOkB c m)) := by
  refine fun_spec_l04Con rfl (by simp; exact ⟨AVal.clean c, pint _⟩) (AvPure.bool _) ?_
  obtain ⟨cn, ch, ⟨items⟩⟩ := c
  simp only at hs hb
  have hil := bulk_length items
  rw [conOkB_as]
  simp only
  have D1 := specConOk_ok cn (by omega)
  have D2 := specTyOk_ok items hb
  generalize conB cn = b1 at *
  cases b1
  case false =>
    simp +contextual -dsimp (maxSteps := 2000000) only [↓SD, SU, SB, Nat.reduceAdd, Nat.reduceBEq, Nat.reduceEqDiff, Nat.reduceLeDiff, Nat.reduceLT, Nat.reduceSub, ↓reduceIte, forall_const, implies_true, ne_eq, reduceCtorEq, Int.reduceToNat, forall_eq, ir_spec_l04Con, rs_spec_l04Con, av_Con]
    refine aCallK_of _ D1 ?_
    simp +contextual -dsimp (maxSteps := 2000000) only [↓SD, SU, SB, Nat.reduceAdd, Nat.reduceBEq, Nat.reduceEqDiff, Nat.reduceLeDiff, Nat.reduceLT, Nat.reduceSub, ↓reduceIte, forall_const, implies_true, ne_eq, reduceCtorEq, Int.reduceToNat, forall_eq, Bool.false_and]
  cases ch
  case false =>
    simp +contextual -dsimp (maxSteps := 2000000) only [↓SD, SU, SB, Nat.reduceAdd, Nat.reduceBEq, Nat.reduceEqDiff, Nat.reduceLeDiff, Nat.reduceLT, Nat.reduceSub, ↓reduceIte, forall_const, implies_true, ne_eq, reduceCtorEq, Int.reduceToNat, forall_eq, ir_spec_l04Con, rs_spec_l04Con, av_Con]
    refine aCallK_of _ D1 ?_
    simp +contextual -dsimp (maxSteps := 2000000) only [↓SD, SU, SB, Nat.reduceAdd, Nat.reduceBEq, Nat.reduceEqDiff, Nat.reduceLeDiff, Nat.reduceLT, Nat.reduceSub, ↓reduceIte, forall_const, implies_true, ne_eq, reduceCtorEq, Int.reduceToNat, forall_eq, map_len]
    congr 1
    by_cases hi : items = []
    · subst hi; rfl
    · have : items.length ≠ 0 := fun h => hi (List.eq_nil_of_length_eq_zero h)
      rw [decide_eq_false (p := items = []) hi, decide_eq_false (by omega)]; rfl
  simp +contextual -dsimp (maxSteps := 2000000) only [↓SD, SU, SB, Nat.reduceAdd, Nat.reduceBEq, Nat.reduceEqDiff, Nat.reduceLeDiff, Nat.reduceLT, Nat.reduceSub, ↓reduceIte, forall_const, implies_true, ne_eq, reduceCtorEq, Int.reduceToNat, forall_eq, ir_spec_l04Con, rs_spec_l04Con, av_Con]
  refine aCallK_of _ D1 ?_
  simp +contextual -dsimp (maxSteps := 2000000) only [↓SD, SU, SB, Nat.reduceAdd, Nat.reduceBEq, Nat.reduceEqDiff, Nat.reduceLeDiff, Nat.reduceLT, Nat.reduceSub, ↓reduceIte, forall_const, implies_true, ne_eq, reduceCtorEq, Int.reduceToNat, forall_eq, map_len]
  refine aLoop_of (X := Nat) (fun j => ⟨[(1, .int .i64 m), (2, .obj [.str cn, .bool true, .sl (items.map av)]), (21, .sl (items.map av)), (22, .int .i64 items.length), (23, .int .i64 j)], []⟩) (fun j => j ≤ items.length ∧ (items.take j).all (varB m) = true) (fun j => items.length - j) 0 ⟨Nat.zero_le _, rfl⟩ (by simp +contextual -dsimp (maxSteps := 2000000) only [↓SD, SU, SB, Nat.reduceAdd, Nat.reduceBEq, Nat.reduceEqDiff, Nat.reduceLeDiff, Nat.reduceLT, Nat.reduceSub, ↓reduceIte, forall_const, implies_true, ne_eq, reduceCtorEq, Int.reduceToNat, forall_eq]) trivial ?_
  rintro j ⟨hj, hq⟩
  by_cases hjl : j < items.length
  · have e2 := getD_map av items j .top hjl
    have hno2 : varB m items[j] = false → items.all (varB m) = false := fun h => all_false' _ hjl h
    have hyes2 : varB m items[j] = true → (items.take (j + 1)).all (varB m) = true := fun h => by rw [all_take' _ hjl hq]; exact h
    generalize items[j] = x at *
    obtain ⟨vr, nm, ar⟩ := x
    simp +contextual -dsimp (maxSteps := 2000000) only [↓SD, SU, SB, Nat.reduceAdd, Nat.reduceBEq, Nat.reduceEqDiff, Nat.reduceLeDiff, Nat.reduceLT, Nat.reduceSub, ↓reduceIte, forall_const, implies_true, ne_eq, reduceCtorEq, Int.reduceToNat, forall_eq, map_len, hjl, e2, av_TyItem]
    intro w
    (repeat' (first | intro _ | refine And.intro ?_ ?_))
    all_goals first
      | omega
      | exact Goes.le ⟨j + 1, ⟨⟨hjl, hyes2 (by simp [varB, *])⟩, (by first | omega | (simp only; omega))⟩, rfl⟩ (by simp +contextual -dsimp (maxSteps := 2000000) only [↓SD, SU, SB, Nat.reduceAdd, Nat.reduceBEq, Nat.reduceEqDiff, Nat.reduceLeDiff, Nat.reduceLT, Nat.reduceSub, ↓reduceIte, forall_const, implies_true, ne_eq, reduceCtorEq, Int.reduceToNat, forall_eq, Int.natCast_add]) trivial
      | (rw [hno2 (by simp [varB, *])]; simp; done)
      | exact Goes.le ⟨j + 1, ⟨⟨hjl, hyes2 (by simp [varB, *]; omega)⟩, (by first | omega | (simp only; omega))⟩, rfl⟩ (by simp +contextual -dsimp (maxSteps := 2000000) only [↓SD, SU, SB, Nat.reduceAdd, Nat.reduceBEq, Nat.reduceEqDiff, Nat.reduceLeDiff, Nat.reduceLT, Nat.reduceSub, ↓reduceIte, forall_const, implies_true, ne_eq, reduceCtorEq, Int.reduceToNat, forall_eq, Int.natCast_add]) trivial
  · obtain rfl : j = items.length := by omega
    rw [List.take_length] at hq
    simp +contextual -dsimp (maxSteps := 2000000) only [↓SD, SU, SB, Nat.reduceAdd, Nat.reduceBEq, Nat.reduceEqDiff, Nat.reduceLeDiff, Nat.reduceLT, Nat.reduceSub, ↓reduceIte, forall_const, implies_true, ne_eq, reduceCtorEq, Int.reduceToNat, forall_eq, map_len, Nat.lt_irrefl]
    refine aCallK_of _ D2 ?_
    simp +contextual -dsimp (maxSteps := 2000000) only [↓SD, SU, SB, Nat.reduceAdd, Nat.reduceBEq, Nat.reduceEqDiff, Nat.reduceLeDiff, Nat.reduceLT, Nat.reduceSub, ↓reduceIte, forall_const, implies_true, ne_eq, reduceCtorEq, Int.reduceToNat, forall_eq]
    congr 1
    rw [hq]; simp

theorem typeHB_no {t : TypeD} (h : typeHB t = false) : typeB t = false := by rw [typeB_as, h]; rfl
theorem progB_types {p : Program} (h : p.types.all typeB = false) : progB p = false := by rw [progB_as, shapeP_as, h]; simp
theorem progB_head {p : Program} (h : headP p = false) : progB p = false := by rw [progB_as, shapeP_as, h]; simp
theorem progB_tree {p : Program} (h : treeB (nkids p.nodes) p.nodes.length = false) : progB p = false := by rw [progB_as, shapeP_as, h]; simp
theorem progB_node {p : Program} {n : Node} (hn : n ∈ p.nodes) (h : nodeSB p.nodes n = false) : progB p = false := by
  cases ht : treeB (nkids p.nodes) p.nodes.length with
  | false => exact progB_tree ht
  | true =>
    obtain ⟨k, hk, rfl⟩ := List.mem_iff_getElem.1 hn
    have hin : p.nodes[k].kids.all (inB p.nodes.length) = true := by
      rw [List.all_eq_true]
      intro x hx
      have := tree_in ht hk (k := x) (by rw [nkids, getD_at hk]; exact hx)
      simp [inB]; omega
    unfold nodeSB at h
    rw [hin, Bool.true_and, Bool.and_eq_false_iff] at h
    rw [progB_as, shapeP_as]
    rcases h with h | h
    · rw [all_false' (nodeB nameN p.nodes) hk h]; simp
    · rw [all_false' patsB hk h]; simp
theorem progB_of {p : Program} (h1 : headP p = true) (h2 : p.types.all typeB = true) (h3 : p.nodes.all (nodeSB p.nodes) = true) : progB p = treeB (nkids p.nodes) p.nodes.length := by
  have h4 : p.nodes.all (nodeB nameN p.nodes) = true := by
    rw [List.all_eq_true] at h3 ⊢
    intro n hn
    have := h3 n hn
    simp only [nodeSB, Bool.and_eq_true] at this
    exact this.1.2
  have h5 : p.nodes.all patsB = true := by
    rw [List.all_eq_true] at h3 ⊢
    intro n hn
    have := h3 n hn
    simp only [nodeSB, Bool.and_eq_true] at this
    exact this.2
  rw [progB_as, shapeP_as, h1, h2, h4, h5]; simp

set_option maxHeartbeats 4000000 in
theorem specProgramOk_ok (p : Program) (hx : Bulk.bulk p ≤ 1048576) : CallsF Tryz.prog 53 [av p] (.bool (progB p)) := by
  obtain ⟨q1, q2, q3, q4⟩ := prog_small hx
  refine fun_spec_ProgramOk rfl (by simp; exact AVal.clean p) (AvPure.bool _) ?_
  by_cases hh : headP p = true
  case neg =>
    rw [progB_head (by simpa using hh)]
    have hh2 : ¬ (1 ≤ (p.nodes.length : Int) ∧ (p.nodes.length : Int) ≤ 600 ∧ (p.types.length : Int) ≤ 8) := fun h => hh (by unfold headP; rw [decide_eq_true h.1, decide_eq_true h.2.1, decide_eq_true h.2.2]; rfl)
    simp +contextual -dsimp (maxSteps := 2000000) only [↓SD, SU, SB, Nat.reduceAdd, Nat.reduceBEq, Nat.reduceEqDiff, Nat.reduceLeDiff, Nat.reduceLT, Nat.reduceSub, ↓reduceIte, forall_const, implies_true, ne_eq, reduceCtorEq, Int.reduceToNat, forall_eq, ir_spec_ProgramOk, rs_spec_ProgramOk, av_Program, map_len]
    (repeat' (first | intro _ | refine And.intro ?_ ?_))
    all_goals first | rfl | (exfalso; omega) | trace_state
  have hh' := hh
  unfold headP at hh'
  simp only [Bool.and_eq_true, decide_eq_true_eq] at hh'
  obtain ⟨⟨h1, h2⟩, h3⟩ := hh'
  have h1' : ¬ (p.nodes.length : Int) < 1 := by omega
  have h2' : ¬ (600 : Int) < p.nodes.length := by omega
  have h3' : ¬ (8 : Int) < p.types.length := by omega
  have h1'' : ¬ p.nodes.length < 1 := by omega
  have h2'' : ¬ 600 < p.nodes.length := by omega
  have h3'' : ¬ 8 < p.types.length := by omega
  simp +contextual -dsimp (maxSteps := 2000000) only [↓SD, SU, SB, Nat.reduceAdd, Nat.reduceBEq, Nat.reduceEqDiff, Nat.reduceLeDiff, Nat.reduceLT, Nat.reduceSub, ↓reduceIte, forall_const, implies_true, ne_eq, reduceCtorEq, Int.reduceToNat, forall_eq, ir_spec_ProgramOk, rs_spec_ProgramOk, av_Program, map_len, h1', h2', h3', h1'', h2'', h3'']
  refine aLoop_of (X := Nat) (fun k => ⟨[(1, .obj [.sl (p.types.map av), .sl (p.nodes.map av)]), (26, .sl (p.types.map av)), (27, .int .i64 p.types.length), (28, .int .i64 k)], []⟩) (fun k => k ≤ p.types.length ∧ (p.types.take k).all typeB = true) (fun k => p.types.length - k) 0 ⟨Nat.zero_le _, rfl⟩ (by simp +contextual -dsimp (maxSteps := 2000000) only [↓SD, SU, SB, Nat.reduceAdd, Nat.reduceBEq, Nat.reduceEqDiff, Nat.reduceLeDiff, Nat.reduceLT, Nat.reduceSub, ↓reduceIte, forall_const, implies_true, ne_eq, reduceCtorEq, Int.reduceToNat, forall_eq]) trivial ?_
  rintro k ⟨hk, hp⟩
  by_cases hlt : k < p.types.length
  · have e := getD_map av p.types k .top hlt
    have htb : Bulk.bulk p.types[k] ≤ 1048576 := by have := bulk_mem (List.getElem_mem hlt); omega
    obtain ⟨hs, hcb⟩ := type_small htb
    have hno : typeB p.types[k] = false → progB p = false := fun h => progB_types (all_false' _ hlt h)
    have hyes : typeB p.types[k] = true → (p.types.take (k + 1)).all typeB = true := fun h => by rw [all_take' _ hlt hp]; exact h
    generalize p.types[k] = t at *
    obtain ⟨name, params, cons⟩ := t
    simp only at hs hcb
    have hcl := bulk_length cons
    have CN := specNameOk_ok name (by omega)
    cases hnm : nameB name with
    | false =>
      rw [hnm] at CN
      simp +contextual -dsimp (maxSteps := 2000000) only [↓SD, SU, SB, Nat.reduceAdd, Nat.reduceBEq, Nat.reduceEqDiff, Nat.reduceLeDiff, Nat.reduceLT, Nat.reduceSub, ↓reduceIte, forall_const, implies_true, ne_eq, reduceCtorEq, Int.reduceToNat, forall_eq, map_len, hlt, e, av_TypeD]
      intro v
      refine aCallK_of _ CN ?_
      simp +contextual -dsimp (maxSteps := 2000000) only [↓SD, SU, SB, Nat.reduceAdd, Nat.reduceBEq, Nat.reduceEqDiff, Nat.reduceLeDiff, Nat.reduceLT, Nat.reduceSub, ↓reduceIte, forall_const, implies_true, ne_eq, reduceCtorEq, Int.reduceToNat, forall_eq]
      rw [hno (typeHB_no (by simp [typeHB, hnm]))]
    | true =>
      rw [hnm] at CN
      by_cases hr : (0 ≤ params ∧ params ≤ 2) ∧ 1 ≤ (cons.length : Int) ∧ (cons.length : Int) ≤ 8
      · obtain ⟨⟨r1, r2⟩, r3, r4⟩ := hr
        have r1' : ¬ params < 0 := by omega
        have r2' : ¬ (2 : Int) < params := by omega
        have r3' : ¬ (cons.length : Int) < 1 := by omega
        have r4' : ¬ (8 : Int) < cons.length := by omega
        have hH : typeB ⟨name, params, cons⟩ = cons.all fun c => conOkB c params := by
          rw [typeB_as]
          unfold typeHB
          rw [hnm, decide_eq_true r1, decide_eq_true r2, decide_eq_true r3, decide_eq_true r4]; simp
        rw [hH] at hno hyes
        simp +contextual -dsimp (maxSteps := 2000000) only [↓SD, SU, SB, Nat.reduceAdd, Nat.reduceBEq, Nat.reduceEqDiff, Nat.reduceLeDiff, Nat.reduceLT, Nat.reduceSub, ↓reduceIte, forall_const, implies_true, ne_eq, reduceCtorEq, Int.reduceToNat, forall_eq, map_len, hlt, e, av_TypeD]
        intro v
        refine aCallK_of _ CN ?_
        simp +contextual -dsimp (maxSteps := 2000000) only [↓SD, SU, SB, Nat.reduceAdd, Nat.reduceBEq, Nat.reduceEqDiff, Nat.reduceLeDiff, Nat.reduceLT, Nat.reduceSub, ↓reduceIte, forall_const, implies_true, ne_eq, reduceCtorEq, Int.reduceToNat, forall_eq, map_len, r1', r2', r3', r4']
        refine aLoop_of (X := Nat) (fun j => ⟨[(1, .obj [.sl (p.types.map av), .sl (p.nodes.map av)]), (4, .ptr 4 v 0 0), (26, .sl (p.types.map av)), (27, .int .i64 p.types.length), (28, .int .i64 k), (59, .sl (cons.map av)), (60, .int .i64 cons.length), (61, .int .i64 j)], [(4, ⟨v, false, 102, 3, [.agg [.str name, .int .i64 params, .sl (cons.map av)]]⟩)]⟩) (fun j => j ≤ cons.length ∧ (cons.take j).all (fun c => conOkB c params) = true) (fun j => cons.length - j) 0 ⟨Nat.zero_le _, rfl⟩ (by simp +contextual -dsimp (maxSteps := 2000000) only [↓SD, SU, SB, Nat.reduceAdd, Nat.reduceBEq, Nat.reduceEqDiff, Nat.reduceLeDiff, Nat.reduceLT, Nat.reduceSub, ↓reduceIte, forall_const, implies_true, ne_eq, reduceCtorEq, Int.reduceToNat, forall_eq]) (by simp +contextual -dsimp (maxSteps := 2000000) only [↓SD, SU, SB, Nat.reduceAdd, Nat.reduceBEq, Nat.reduceEqDiff, Nat.reduceLeDiff, Nat.reduceLT, Nat.reduceSub, ↓reduceIte, forall_const, implies_true, ne_eq, reduceCtorEq, Int.reduceToNat, forall_eq]) ?_
        rintro j ⟨hj, hq⟩
        by_cases hjl : j < cons.length
        · have e2 := getD_map av cons j .top hjl
          obtain ⟨s1, s2⟩ := con_small hcb (List.getElem_mem hjl)
          have CC := l04Con_ok cons[j] params s1 s2
          have hno2 : conOkB cons[j] params = false → progB p = false := fun h => hno (all_false' (fun c => conOkB c params) hjl h)
          have hyes2 : conOkB cons[j] params = true → (cons.take (j + 1)).all (fun c => conOkB c params) = true := fun h => by rw [all_take' _ hjl hq]; exact h
          generalize cons[j] = c at *
          rw [av_Con] at CC
          simp +contextual -dsimp (maxSteps := 2000000) only [↓SD, SU, SB, Nat.reduceAdd, Nat.reduceBEq, Nat.reduceEqDiff, Nat.reduceLeDiff, Nat.reduceLT, Nat.reduceSub, ↓reduceIte, forall_const, implies_true, ne_eq, reduceCtorEq, Int.reduceToNat, forall_eq, map_len, hjl, e2, av_Con]
          intro w
          refine aCallK_of _ CC ?_
          simp +contextual -dsimp (maxSteps := 2000000) only [↓SD, SU, SB, Nat.reduceAdd, Nat.reduceBEq, Nat.reduceEqDiff, Nat.reduceLeDiff, Nat.reduceLT, Nat.reduceSub, ↓reduceIte, forall_const, implies_true, ne_eq, reduceCtorEq, Int.reduceToNat, forall_eq]
          refine ⟨fun h => by rw [hno2 h], fun h => ⟨by omega, Goes.le ⟨j + 1, ⟨⟨hjl, hyes2 h⟩, (by first | omega | (simp only; omega))⟩, rfl⟩ (by simp +contextual -dsimp (maxSteps := 2000000) only [↓SD, SU, SB, Nat.reduceAdd, Nat.reduceBEq, Nat.reduceEqDiff, Nat.reduceLeDiff, Nat.reduceLT, Nat.reduceSub, ↓reduceIte, forall_const, implies_true, ne_eq, reduceCtorEq, Int.reduceToNat, forall_eq, Int.natCast_add]) (by simp +contextual -dsimp (maxSteps := 2000000) only [↓SD, SU, SB, Nat.reduceAdd, Nat.reduceBEq, Nat.reduceEqDiff, Nat.reduceLeDiff, Nat.reduceLT, Nat.reduceSub, ↓reduceIte, forall_const, implies_true, ne_eq, reduceCtorEq, Int.reduceToNat, forall_eq])⟩⟩
        · obtain rfl : j = cons.length := by omega
          rw [List.take_length] at hq
          simp +contextual -dsimp (maxSteps := 2000000) only [↓SD, SU, SB, Nat.reduceAdd, Nat.reduceBEq, Nat.reduceEqDiff, Nat.reduceLeDiff, Nat.reduceLT, Nat.reduceSub, ↓reduceIte, forall_const, implies_true, ne_eq, reduceCtorEq, Int.reduceToNat, forall_eq, map_len, Nat.lt_irrefl]
          exact ⟨by omega, Goes.le ⟨k + 1, ⟨⟨hlt, hyes hq⟩, (by first | omega | (simp only; omega))⟩, rfl⟩ (by simp +contextual -dsimp (maxSteps := 2000000) only [↓SD, SU, SB, Nat.reduceAdd, Nat.reduceBEq, Nat.reduceEqDiff, Nat.reduceLeDiff, Nat.reduceLT, Nat.reduceSub, ↓reduceIte, forall_const, implies_true, ne_eq, reduceCtorEq, Int.reduceToNat, forall_eq, Int.natCast_add]) trivial⟩
      · have hbad : typeHB ⟨name, params, cons⟩ = false := by
          rw [← Bool.not_eq_true]
          unfold typeHB
          simp only [Bool.and_eq_true, decide_eq_true_eq]
          exact fun h => hr ⟨h.1.2, h.2⟩
        have hF := hno (typeHB_no hbad)
        simp +contextual -dsimp (maxSteps := 2000000) only [↓SD, SU, SB, Nat.reduceAdd, Nat.reduceBEq, Nat.reduceEqDiff, Nat.reduceLeDiff, Nat.reduceLT, Nat.reduceSub, ↓reduceIte, forall_const, implies_true, ne_eq, reduceCtorEq, Int.reduceToNat, forall_eq, map_len, hlt, e, av_TypeD]
        intro v
        refine aCallK_of _ CN ?_
        simp +contextual -dsimp (maxSteps := 2000000) only [↓SD, SU, SB, Nat.reduceAdd, Nat.reduceBEq, Nat.reduceEqDiff, Nat.reduceLeDiff, Nat.reduceLT, Nat.reduceSub, ↓reduceIte, forall_const, implies_true, ne_eq, reduceCtorEq, Int.reduceToNat, forall_eq, map_len, hF]
        (repeat' (first | intro _ | refine And.intro ?_ ?_))
        all_goals first | rfl | (exfalso; omega) | trace_state
  · obtain rfl : k = p.types.length := by omega
    rw [List.take_length] at hp
    simp +contextual -dsimp (maxSteps := 2000000) only [↓SD, SU, SB, Nat.reduceAdd, Nat.reduceBEq, Nat.reduceEqDiff, Nat.reduceLeDiff, Nat.reduceLT, Nat.reduceSub, ↓reduceIte, forall_const, implies_true, ne_eq, reduceCtorEq, Int.reduceToNat, forall_eq, map_len, Nat.lt_irrefl]
    refine aLoop_of (X := Nat) (fun k => ⟨[(1, .obj [.sl (p.types.map av), .sl (p.nodes.map av)]), (73, .sl (p.nodes.map av)), (74, .int .i64 p.nodes.length), (75, .int .i64 k)], []⟩) (fun k => k ≤ p.nodes.length ∧ (p.nodes.take k).all (nodeSB p.nodes) = true) (fun k => p.nodes.length - k) 0 ⟨Nat.zero_le _, rfl⟩ (by simp +contextual -dsimp (maxSteps := 2000000) only [↓SD, SU, SB, Nat.reduceAdd, Nat.reduceBEq, Nat.reduceEqDiff, Nat.reduceLeDiff, Nat.reduceLT, Nat.reduceSub, ↓reduceIte, forall_const, implies_true, ne_eq, reduceCtorEq, Int.reduceToNat, forall_eq]) trivial ?_
    rintro i ⟨hi, hq⟩
    by_cases hil : i < p.nodes.length
    · have e := getD_map av p.nodes i .top hil
      have hm := List.getElem_mem hil
      obtain ⟨b1, b2, b3, b4⟩ := node_small q2 hm
      have CC := l04Node_ok p p.nodes[i] q4 b1 b2 b4 b3
      have hno2 : nodeSB p.nodes p.nodes[i] = false → progB p = false := fun h => progB_node hm h
      have hyes2 : nodeSB p.nodes p.nodes[i] = true → (p.nodes.take (i + 1)).all (nodeSB p.nodes) = true := fun h => by rw [all_take' _ hil hq]; exact h
      generalize p.nodes[i] = n at *
      rw [av_Node, av_Program] at CC
      simp +contextual -dsimp (maxSteps := 2000000) only [↓SD, SU, SB, Nat.reduceAdd, Nat.reduceBEq, Nat.reduceEqDiff, Nat.reduceLeDiff, Nat.reduceLT, Nat.reduceSub, ↓reduceIte, forall_const, implies_true, ne_eq, reduceCtorEq, Int.reduceToNat, forall_eq, map_len, hil, e, av_Node]
      intro w
      refine aCallK_of _ CC ?_
      simp +contextual -dsimp (maxSteps := 2000000) only [↓SD, SU, SB, Nat.reduceAdd, Nat.reduceBEq, Nat.reduceEqDiff, Nat.reduceLeDiff, Nat.reduceLT, Nat.reduceSub, ↓reduceIte, forall_const, implies_true, ne_eq, reduceCtorEq, Int.reduceToNat, forall_eq]
      refine ⟨fun h => by rw [hno2 h], fun h => ⟨by omega, Goes.le ⟨i + 1, ⟨⟨hil, hyes2 h⟩, (by first | omega | (simp only; omega))⟩, rfl⟩ (by simp +contextual -dsimp (maxSteps := 2000000) only [↓SD, SU, SB, Nat.reduceAdd, Nat.reduceBEq, Nat.reduceEqDiff, Nat.reduceLeDiff, Nat.reduceLT, Nat.reduceSub, ↓reduceIte, forall_const, implies_true, ne_eq, reduceCtorEq, Int.reduceToNat, forall_eq, Int.natCast_add]) trivial⟩⟩
    · obtain rfl : i = p.nodes.length := by omega
      rw [List.take_length] at hq
      have CE := l04NEnd_ok p hx (p.nodes.length + 1) 0 (by omega) (by omega)
      rw [av_Program] at CE
      simp +contextual -dsimp (maxSteps := 2000000) only [↓SD, SU, SB, Nat.reduceAdd, Nat.reduceBEq, Nat.reduceEqDiff, Nat.reduceLeDiff, Nat.reduceLT, Nat.reduceSub, ↓reduceIte, forall_const, implies_true, ne_eq, reduceCtorEq, Int.reduceToNat, forall_eq, map_len, Nat.lt_irrefl]
      refine aCallK_of _ CE ?_
      simp +contextual -dsimp (maxSteps := 2000000) only [↓SD, SU, SB, Nat.reduceAdd, Nat.reduceBEq, Nat.reduceEqDiff, Nat.reduceLeDiff, Nat.reduceLT, Nat.reduceSub, ↓reduceIte, forall_const, implies_true, ne_eq, reduceCtorEq, Int.reduceToNat, forall_eq, map_len]
      congr 1
      rw [progB_of hh hp hq]
      unfold treeB
      cases ho : endF (nkids p.nodes) p.nodes.length (p.nodes.length + 1) 0 with
      | none =>
        rw [decide_eq_false (p := (none : Option Nat) = some p.nodes.length) (by simp)]
        exact decide_eq_false (by simp only [endI]; omega)
      | some m =>
        by_cases hm : m = p.nodes.length
        · rw [decide_eq_true (p := some m = some p.nodes.length) (by rw [hm])]
          exact decide_eq_true (by simp only [endI]; omega)
        · rw [decide_eq_false (p := some m = some p.nodes.length) (by simpa using hm)]
          exact decide_eq_false (by simp only [endI]; omega)
end Go.Proofs.YtpomnlejlgojaaaGreat
