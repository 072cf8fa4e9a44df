/-
  Binds OF THE PROGRAM AND OF THE REFERENCE, by abstract texts. Conditions: none.
-/
import Derived.Test.YtpomnlejlgojaaaGreatPgmW4
import Derived.Test.YtpomnlejlgojaaaGreatIrBinds
set_option linter.unusedVariables false
set_option linter.unusedSimpArgs false
set_option maxRecDepth 100000
namespace Go.Proofs.YtpomnlejlgojaaaGreat
open Go.RowKit Go.Proofs.YtpomnlejlgojaaaGreat.Av Go.Proofs.YtpomnlejlgojaaaGreat.Ml
open Go.Proofs.YtpomnlejlgojaaaGreat.Av.AVal (av)

theorem IndexInt_ok (l : List Int) (x : Int) (hl : l.length ≤ 1099511627776) : CallsF Tryz.prog 172 [.sl (l.map av), .int .i64 x] (.int .i64 (indexOf l (fun y => decide (x = y)))) := by
  refine fun_slices_Index_int_int rfl (by simp; exact ⟨lav_clean l, pint _⟩) (AvPure.int _ _) ?_
  simp +contextual -dsimp (maxSteps := 2000000) only [↓SD, SU, SB, Nat.reduceAdd, Nat.reduceBEq, Nat.reduceEqDiff, Nat.reduceLeDiff, Nat.reduceLT, Nat.reduceSub, ↓reduceIte, forall_const, implies_true, ne_eq, reduceCtorEq, Int.reduceToNat, forall_eq, ir_slices_Index_int_int, rs_slices_Index_int_int, map_len]
  refine aLoop_of (X := Nat) (fun k => ⟨[(0, .sl (l.map av)), (1, .int .i64 x), (7, .int .i64 l.length), (8, .int .i64 k)], []⟩) (fun k => k ≤ l.length ∧ (l.take k).all (fun y => !decide (x = y)) = true) (fun k => l.length - k) 0 ⟨Nat.zero_le _, rfl⟩ (by simp +contextual -dsimp (maxSteps := 2000000) only [↓SD, SU, SB, Nat.reduceAdd, Nat.reduceBEq, Nat.reduceEqDiff, Nat.reduceLeDiff, Nat.reduceLT, Nat.reduceSub, ↓reduceIte, forall_const, implies_true, ne_eq, reduceCtorEq, Int.reduceToNat, forall_eq]) trivial ?_
  intro k ⟨hk, hpk⟩
  by_cases hlt : k < l.length
  · have e := getD_map (av (α := Int)) l k .top hlt
    simp +contextual -dsimp (maxSteps := 2000000) only [↓SD, SU, SB, Nat.reduceAdd, Nat.reduceBEq, Nat.reduceEqDiff, Nat.reduceLeDiff, Nat.reduceLT, Nat.reduceSub, ↓reduceIte, forall_const, implies_true, ne_eq, reduceCtorEq, Int.reduceToNat, forall_eq, map_len, e, av_int, hlt]
    refine ⟨fun h1 => ?_, fun h1 => ⟨by omega, ?_⟩⟩
    · rw [← h1, indexOf_at (p := fun y => decide (x = y)) hlt hpk (by simp [h1])]
    · exact Goes.le ⟨k + 1, ⟨⟨hlt, by rw [all_take' _ hlt hpk]; simp [h1]⟩, (by first | omega | (simp only; omega))⟩, rfl⟩ (by simp +contextual -dsimp (maxSteps := 2000000) only [↓SD, SU, SB, Nat.reduceAdd, Nat.reduceBEq, Nat.reduceEqDiff, Nat.reduceLeDiff, Nat.reduceLT, Nat.reduceSub, ↓reduceIte, forall_const, implies_true, ne_eq, reduceCtorEq, Int.reduceToNat, forall_eq, Int.natCast_add]) trivial
  · obtain rfl : k = l.length := by omega
    rw [List.take_length] at hpk
    simp +contextual -dsimp (maxSteps := 2000000) only [↓SD, SU, SB, Nat.reduceAdd, Nat.reduceBEq, Nat.reduceEqDiff, Nat.reduceLeDiff, Nat.reduceLT, Nat.reduceSub, ↓reduceIte, forall_const, implies_true, ne_eq, reduceCtorEq, Int.reduceToNat, forall_eq, map_len, Nat.lt_irrefl, indexOf_none hpk]
theorem ContainsInt_ok (l : List Int) (x : Int) (hl : l.length ≤ 1099511627776) : CallsF Tryz.prog 99 [.sl (l.map av), .int .i64 x] (.bool (l.any (fun y => decide (x = y)))) := by
  refine fun_slices_Contains_int_int rfl (by simp; exact ⟨lav_clean l, pint _⟩) (AvPure.bool _) ?_
  simp +contextual -dsimp (maxSteps := 2000000) only [↓SD, SU, SB, Nat.reduceAdd, Nat.reduceBEq, Nat.reduceEqDiff, Nat.reduceLeDiff, Nat.reduceLT, Nat.reduceSub, ↓reduceIte, forall_const, implies_true, ne_eq, reduceCtorEq, Int.reduceToNat, forall_eq, ir_slices_Contains_int_int, rs_slices_Contains_int_int]
  refine aCallK_of _ (IndexInt_ok l x hl) ?_
  simp +contextual -dsimp (maxSteps := 2000000) only [↓SD, SU, SB, Nat.reduceAdd, Nat.reduceBEq, Nat.reduceEqDiff, Nat.reduceLeDiff, Nat.reduceLT, Nat.reduceSub, ↓reduceIte, forall_const, implies_true, ne_eq, reduceCtorEq, Int.reduceToNat, forall_eq, indexOf_neg]
/-- the kinds that bind their name -/
def bindKs : List Int := [5, 7, 8, 15]
theorem bindKs_as : bindKs.map av = [.int .i64 5, .int .i64 7, .int .i64 8, .int .i64 15] := rfl
def bindB (k : Int) : Bool := bindKs.any fun y => decide (k = y)
theorem bindsName_ok (n : Node) : CallsF Tryz.prog 55 [av n] (.bool (bindB n.kind)) := by
  refine fun_impl_bindsName rfl (by simp; exact AVal.clean n) (AvPure.bool _) ?_
  have C := ContainsInt_ok bindKs n.kind (by decide)
  rw [bindKs_as] at C
  simp +contextual -dsimp (maxSteps := 2000000) only [↓SD, SU, SB, Nat.reduceAdd, Nat.reduceBEq, Nat.reduceEqDiff, Nat.reduceLeDiff, Nat.reduceLT, Nat.reduceSub, ↓reduceIte, forall_const, implies_true, ne_eq, reduceCtorEq, Int.reduceToNat, forall_eq, ir_impl_bindsName, rs_impl_bindsName, av_Node]
  refine aCallK_of _ C ?_
  simp +contextual -dsimp (maxSteps := 2000000) only [↓SD, SU, SB, Nat.reduceAdd, Nat.reduceBEq, Nat.reduceEqDiff, Nat.reduceLeDiff, Nat.reduceLT, Nat.reduceSub, ↓reduceIte, forall_const, implies_true, ne_eq, reduceCtorEq, Int.reduceToNat, forall_eq]
  rfl
theorem l15Binds_ok (k : Int) : CallsF Tryz.prog 54 [.int .i64 k] (.bool (bindB k)) := by
  refine fun_spec_l15Binds rfl (by simp; exact pint _) (AvPure.bool _) ?_
  simp +contextual -dsimp (maxSteps := 2000000) only [↓SD, SU, SB, Nat.reduceAdd, Nat.reduceBEq, Nat.reduceEqDiff, Nat.reduceLeDiff, Nat.reduceLT, Nat.reduceSub, ↓reduceIte, forall_const, implies_true, ne_eq, reduceCtorEq, Int.reduceToNat, forall_eq, Int.reduceEq, Int.reduceLT, Int.reduceLE, Int.reduceNeg, Int.reduceAdd, Int.reduceSub, ir_spec_l15Binds, rs_spec_l15Binds]
  (repeat' (first | intro _ | refine And.intro ?_ ?_))
  all_goals simp [bindB, bindKs, *]
theorem patNames_ok (l : List PNode) (hx : Bulk.bulk l ≤ 1048576) : CallsF Tryz.prog 56 [.agg [.sl (l.map av)]] (.sl ((varsOf l).map av)) := by
  have hl := bulk_length l
  refine fun_impl_patNames rfl (by simp; exact AvPure.agg (by simp; exact lav_clean l)) (lav_clean _) ?_
  simp +contextual -dsimp (maxSteps := 2000000) only [↓SD, SU, SB, Nat.reduceAdd, Nat.reduceBEq, Nat.reduceEqDiff, Nat.reduceLeDiff, Nat.reduceLT, Nat.reduceSub, ↓reduceIte, forall_const, implies_true, ne_eq, reduceCtorEq, Int.reduceToNat, forall_eq, ir_impl_patNames, rs_impl_patNames, map_len]
  intro v
  refine aLoop_of (X := Nat × Nat) (fun x => ⟨[(3, .row 6 x.2 (varsOf (l.take x.1)).length), (8, .sl (l.map av)), (9, .int .i64 l.length), (10, .int .i64 x.1)], [(6, ⟨x.2, false, 9, 1, (varsOf (l.take x.1)).map av⟩)]⟩) (fun x => x.1 ≤ l.length) (fun x => l.length - x.1) (0, v) (Nat.zero_le _) (by simp +contextual -dsimp (maxSteps := 2000000) only [↓SD, SU, SB, Nat.reduceAdd, Nat.reduceBEq, Nat.reduceEqDiff, Nat.reduceLeDiff, Nat.reduceLT, Nat.reduceSub, ↓reduceIte, forall_const, implies_true, ne_eq, reduceCtorEq, Int.reduceToNat, forall_eq, varsOf, List.filterMap_nil]) (by simp +contextual -dsimp (maxSteps := 2000000) only [↓SD, SU, SB, Nat.reduceAdd, Nat.reduceBEq, Nat.reduceEqDiff, Nat.reduceLeDiff, Nat.reduceLT, Nat.reduceSub, ↓reduceIte, forall_const, implies_true, ne_eq, reduceCtorEq, Int.reduceToNat, forall_eq, varsOf, List.filterMap_nil]) ?_
  rintro ⟨k, u⟩ hk
  simp only at hk
  by_cases hlt : k < l.length
  · have e := getD_map av l k .top hlt
    have hv := varsOf_snoc hlt
    have hvl := varsOf_len (l.take k)
    rw [List.length_take] at hvl
    generalize l[k] = a at *
    simp +contextual -dsimp (maxSteps := 2000000) only [↓SD, SU, SB, Nat.reduceAdd, Nat.reduceBEq, Nat.reduceEqDiff, Nat.reduceLeDiff, Nat.reduceLT, Nat.reduceSub, ↓reduceIte, forall_const, implies_true, ne_eq, reduceCtorEq, Int.reduceToNat, forall_eq, map_len, hlt, e, av_PNode]
    intro w
    (repeat' (first | intro _ | refine And.intro ?_ ?_))
    all_goals first | omega | (unfold maxLen; omega) | skip
    · rename_i hk2 u'
      rw [if_pos hk2] at hv
      exact Goes.le ⟨(k + 1, u'), ⟨hlt, (by first | omega | (simp only; omega))⟩, rfl⟩ (by simp +contextual -dsimp (maxSteps := 2000000) only [↓SD, SU, SB, Nat.reduceAdd, Nat.reduceBEq, Nat.reduceEqDiff, Nat.reduceLeDiff, Nat.reduceLT, Nat.reduceSub, ↓reduceIte, forall_const, implies_true, ne_eq, reduceCtorEq, Int.reduceToNat, forall_eq, Int.natCast_add, hv, List.length_append]) (by simp +contextual -dsimp (maxSteps := 2000000) only [↓SD, SU, SB, Nat.reduceAdd, Nat.reduceBEq, Nat.reduceEqDiff, Nat.reduceLeDiff, Nat.reduceLT, Nat.reduceSub, ↓reduceIte, forall_const, implies_true, ne_eq, reduceCtorEq, Int.reduceToNat, forall_eq, hv, map_nop, take_map, List.map_append, av_str])
    · rename_i hk2
      rw [if_neg hk2, List.append_nil] at hv
      exact Goes.le ⟨(k + 1, u), ⟨hlt, (by first | omega | (simp only; omega))⟩, rfl⟩ (by simp +contextual -dsimp (maxSteps := 2000000) only [↓SD, SU, SB, Nat.reduceAdd, Nat.reduceBEq, Nat.reduceEqDiff, Nat.reduceLeDiff, Nat.reduceLT, Nat.reduceSub, ↓reduceIte, forall_const, implies_true, ne_eq, reduceCtorEq, Int.reduceToNat, forall_eq, Int.natCast_add, hv]) (by simp +contextual -dsimp (maxSteps := 2000000) only [↓SD, SU, SB, Nat.reduceAdd, Nat.reduceBEq, Nat.reduceEqDiff, Nat.reduceLeDiff, Nat.reduceLT, Nat.reduceSub, ↓reduceIte, forall_const, implies_true, ne_eq, reduceCtorEq, Int.reduceToNat, forall_eq, hv])
  · obtain rfl : k = l.length := by omega
    simp +contextual -dsimp (maxSteps := 2000000) only [↓SD, SU, SB, Nat.reduceAdd, Nat.reduceBEq, Nat.reduceEqDiff, Nat.reduceLeDiff, Nat.reduceLT, Nat.reduceSub, ↓reduceIte, forall_const, implies_true, ne_eq, reduceCtorEq, Int.reduceToNat, forall_eq, map_len, Nat.lt_irrefl, List.take_length, map_nop, take_map]

/-- how many names the patterns bind; a node; nodes -/
def patsN (l : List Pat) : Nat := (l.map fun q => (varsOf q.nodes).length).sum
def nodeN (n : Node) : Nat := (if bindB n.kind then 1 else 0) + patsN n.pats
def nodesN (l : List Node) : Nat := (l.map nodeN).sum
def bindsI (p : Program) : Int := if progB p then (nodesN p.nodes : Int) else -1
theorem sum_take {α : Type} (f : α → Nat) {l : List α} {k : Nat} (h : k < l.length) : ((l.take (k + 1)).map f).sum = ((l.take k).map f).sum + f l[k] := by
  rw [List.take_succ_eq_append_getElem h, List.map_append, List.sum_append]; simp
theorem sum_le_bulk {α : Type} [Bulk α] (f : α → Nat) (hf : ∀ x, f x ≤ Bulk.bulk x) (l : List α) (k : Nat) : ((l.take k).map f).sum ≤ Bulk.bulk l := by
  have h1 : ∀ m : List α, (m.map f).sum ≤ (m.map Bulk.bulk).sum := by
    intro m
    induction m with
    | nil => simp
    | cons x m ih => simp only [List.map_cons, List.sum_cons]; have := hf x; omega
  have h2 : ∀ (m : List α) (k : Nat), ((m.take k).map (Bulk.bulk (α := α))).sum ≤ (m.map Bulk.bulk).sum := by
    intro m
    induction m with
    | nil => intro k; simp
    | cons x m ih => intro k; cases k with
      | zero => simp
      | succ k => simp only [List.take_succ_cons, List.map_cons, List.sum_cons]; have := ih k; omega
  have := h1 (l.take k)
  have := h2 l k
  have h3 : Bulk.bulk l = (l.map Bulk.bulk).sum + 1 := rfl
  omega
theorem varsOf_bulk (q : Pat) : (varsOf q.nodes).length ≤ Bulk.bulk q := by
  have h1 := varsOf_len q.nodes
  have h2 := bulk_length q.nodes
  have h3 : Bulk.bulk q = Bulk.bulk q.nodes + 1 := rfl
  omega
theorem patsN_bulk (l : List Pat) (k : Nat) : patsN (l.take k) ≤ Bulk.bulk l := sum_le_bulk _ varsOf_bulk l k
theorem nodeN_bulk (n : Node) : nodeN n ≤ Bulk.bulk n := by
  have h1 := patsN_bulk n.pats n.pats.length
  rw [List.take_length] at h1
  have h2 : Bulk.bulk n = Bulk.bulk n.kind + Bulk.bulk n.pos + Bulk.bulk n.n + Bulk.bulk n.s + Bulk.bulk n.kids + Bulk.bulk n.pats + 1 := rfl
  unfold nodeN
  split <;> omega
theorem nodesN_bulk (l : List Node) (k : Nat) : nodesN (l.take k) ≤ Bulk.bulk l := sum_le_bulk _ nodeN_bulk l k

theorem implBinds_ok (p : Program) (hx : Bulk.bulk p ≤ 1048576) : CallsF Tryz.prog 19 [av p] (.int .i64 (bindsI p)) := by
  obtain ⟨q1, q2, q3, q4⟩ := prog_small hx
  refine fun_impl_Binds rfl (by simp; exact AVal.clean p) (pint _) ?_
  have C := implProgramOk_ok p hx
  rw [av_Program] at C
  simp +contextual -dsimp (maxSteps := 2000000) only [↓SD, SU, SB, Nat.reduceAdd, Nat.reduceBEq, Nat.reduceEqDiff, Nat.reduceLeDiff, Nat.reduceLT, Nat.reduceSub, ↓reduceIte, forall_const, implies_true, ne_eq, reduceCtorEq, Int.reduceToNat, forall_eq, ir_impl_Binds, rs_impl_Binds, av_Program, map_len]
  cases hb : progB p with
  | false =>
    rw [hb] at C
    refine aCallK_of _ C ?_
    simp +contextual -dsimp (maxSteps := 2000000) only [↓SD, SU, SB, Nat.reduceAdd, Nat.reduceBEq, Nat.reduceEqDiff, Nat.reduceLeDiff, Nat.reduceLT, Nat.reduceSub, ↓reduceIte, forall_const, implies_true, ne_eq, reduceCtorEq, Int.reduceToNat, forall_eq]
    simp [bindsI, hb]
  | true =>
    rw [hb] at C
    refine aCallK_of _ C ?_
    simp +contextual -dsimp (maxSteps := 2000000) only [↓SD, SU, SB, Nat.reduceAdd, Nat.reduceBEq, Nat.reduceEqDiff, Nat.reduceLeDiff, Nat.reduceLT, Nat.reduceSub, ↓reduceIte, forall_const, implies_true, ne_eq, reduceCtorEq, Int.reduceToNat, forall_eq, map_len]
    refine aLoop_of (X := Nat) (fun k => ⟨[(3, .int .i64 (nodesN (p.nodes.take k))), (12, .sl (p.nodes.map av)), (13, .int .i64 p.nodes.length), (14, .int .i64 k)], []⟩) (fun k => k ≤ p.nodes.length) (fun k => p.nodes.length - k) 0 (Nat.zero_le _) (by simp +contextual -dsimp (maxSteps := 2000000) only [↓SD, SU, SB, Nat.reduceAdd, Nat.reduceBEq, Nat.reduceEqDiff, Nat.reduceLeDiff, Nat.reduceLT, Nat.reduceSub, ↓reduceIte, forall_const, implies_true, ne_eq, reduceCtorEq, Int.reduceToNat, forall_eq, nodesN, List.sum_nil]) trivial ?_
    rintro k hk
    have hbk := nodesN_bulk p.nodes k
    by_cases hlt : k < p.nodes.length
    · have e := getD_map av p.nodes k .top hlt
      have hm := List.getElem_mem hlt
      obtain ⟨b1, b2, b3, b4⟩ := node_small q2 hm
      have CB := bindsName_ok p.nodes[k]
      have hstep : nodesN (p.nodes.take (k + 1)) = nodesN (p.nodes.take k) + ((if bindB p.nodes[k].kind then 1 else 0) + patsN p.nodes[k].pats) := sum_take nodeN hlt
      have hpb := patsN_bulk p.nodes[k].pats
      generalize p.nodes[k] = n at *
      rw [av_Node] at CB
      simp +contextual -dsimp (maxSteps := 2000000) only [↓SD, SU, SB, Nat.reduceAdd, Nat.reduceBEq, Nat.reduceEqDiff, Nat.reduceLeDiff, Nat.reduceLT, Nat.reduceSub, ↓reduceIte, forall_const, implies_true, ne_eq, reduceCtorEq, Int.reduceToNat, forall_eq, map_len, hlt, e, av_Node]
      intro v
      refine aCallK_of _ CB ?_
      cases hbb : bindB n.kind <;> rw [hbb] at hstep <;> simp only [if_true, Bool.false_eq_true, if_false] at hstep
      all_goals
        simp +contextual -dsimp (maxSteps := 2000000) only [↓SD, SU, SB, Nat.reduceAdd, Nat.reduceBEq, Nat.reduceEqDiff, Nat.reduceLeDiff, Nat.reduceLT, Nat.reduceSub, ↓reduceIte, forall_const, implies_true, ne_eq, reduceCtorEq, Int.reduceToNat, forall_eq, map_len]
        (repeat' (first | intro _ | refine And.intro ?_ ?_))
        all_goals first | omega | skip
      · refine aLoop_of (X := Nat) (fun j => ⟨[(3, .int .i64 ((nodesN (p.nodes.take k) + patsN (n.pats.take j) : Nat) : Int)), (12, .sl (p.nodes.map av)), (13, .int .i64 p.nodes.length), (14, .int .i64 k), (23, .sl (n.pats.map av)), (24, .int .i64 n.pats.length), (25, .int .i64 j)], []⟩) (fun j => j ≤ n.pats.length) (fun j => n.pats.length - j) 0 (Nat.zero_le _) (by simp +contextual -dsimp (maxSteps := 2000000) only [↓SD, SU, SB, Nat.reduceAdd, Nat.reduceBEq, Nat.reduceEqDiff, Nat.reduceLeDiff, Nat.reduceLT, Nat.reduceSub, ↓reduceIte, forall_const, implies_true, ne_eq, reduceCtorEq, Int.reduceToNat, forall_eq, patsN, List.sum_nil]) trivial ?_
        rintro j hj
        have h1 := hpb j
        by_cases hjl : j < n.pats.length
        · have e2 := getD_map av n.pats j .top hjl
          have CP := patNames_ok n.pats[j].nodes (pat_small b3 (List.getElem_mem hjl))
          have hs2 : patsN (n.pats.take (j + 1)) = patsN (n.pats.take j) + (varsOf n.pats[j].nodes).length := sum_take (fun q : Pat => (varsOf q.nodes).length) hjl
          have h2 := hpb (j + 1)
          generalize n.pats[j] = q at *
          simp +contextual -dsimp (maxSteps := 2000000) only [↓SD, SU, SB, Nat.reduceAdd, Nat.reduceBEq, Nat.reduceEqDiff, Nat.reduceLeDiff, Nat.reduceLT, Nat.reduceSub, ↓reduceIte, forall_const, implies_true, ne_eq, reduceCtorEq, Int.reduceToNat, forall_eq, map_len, hjl, e2, av_Pat]
          intro w
          refine aCallK_of _ CP ?_
          simp +contextual -dsimp (maxSteps := 2000000) only [↓SD, SU, SB, Nat.reduceAdd, Nat.reduceBEq, Nat.reduceEqDiff, Nat.reduceLeDiff, Nat.reduceLT, Nat.reduceSub, ↓reduceIte, forall_const, implies_true, ne_eq, reduceCtorEq, Int.reduceToNat, forall_eq, map_len]
          exact ⟨by omega, by omega, Goes.le ⟨j + 1, ⟨hjl, (by first | omega | (simp only; omega))⟩, rfl⟩ (by simp +contextual -dsimp (maxSteps := 2000000) only [↓SD, SU, SB, Nat.reduceAdd, Nat.reduceBEq, Nat.reduceEqDiff, Nat.reduceLeDiff, Nat.reduceLT, Nat.reduceSub, ↓reduceIte, forall_const, implies_true, ne_eq, reduceCtorEq, Int.reduceToNat, forall_eq, hs2, Int.natCast_add, Nat.add_assoc, Int.add_assoc]) trivial⟩
        · obtain rfl : j = n.pats.length := by omega
          rw [List.take_length]
          simp +contextual -dsimp (maxSteps := 2000000) only [↓SD, SU, SB, Nat.reduceAdd, Nat.reduceBEq, Nat.reduceEqDiff, Nat.reduceLeDiff, Nat.reduceLT, Nat.reduceSub, ↓reduceIte, forall_const, implies_true, ne_eq, reduceCtorEq, Int.reduceToNat, forall_eq, map_len, Nat.lt_irrefl]
          exact ⟨by omega, Goes.le ⟨k + 1, ⟨hlt, (by first | omega | (simp only; omega))⟩, rfl⟩ (by simp +contextual -dsimp (maxSteps := 2000000) only [↓SD, SU, SB, Nat.reduceAdd, Nat.reduceBEq, Nat.reduceEqDiff, Nat.reduceLeDiff, Nat.reduceLT, Nat.reduceSub, ↓reduceIte, forall_const, implies_true, ne_eq, reduceCtorEq, Int.reduceToNat, forall_eq, hstep, Int.natCast_add, Nat.zero_add]) trivial⟩
      · refine aLoop_of (X := Nat) (fun j => ⟨[(3, .int .i64 ((nodesN (p.nodes.take k) + 1 + patsN (n.pats.take j) : Nat) : Int)), (12, .sl (p.nodes.map av)), (13, .int .i64 p.nodes.length), (14, .int .i64 k), (23, .sl (n.pats.map av)), (24, .int .i64 n.pats.length), (25, .int .i64 j)], []⟩) (fun j => j ≤ n.pats.length) (fun j => n.pats.length - j) 0 (Nat.zero_le _) (by simp +contextual -dsimp (maxSteps := 2000000) only [↓SD, SU, SB, Nat.reduceAdd, Nat.reduceBEq, Nat.reduceEqDiff, Nat.reduceLeDiff, Nat.reduceLT, Nat.reduceSub, ↓reduceIte, forall_const, implies_true, ne_eq, reduceCtorEq, Int.reduceToNat, forall_eq, patsN, List.sum_nil, Int.natCast_add]) trivial ?_
        rintro j hj
        have h1 := hpb j
        by_cases hjl : j < n.pats.length
        · have e2 := getD_map av n.pats j .top hjl
          have CP := patNames_ok n.pats[j].nodes (pat_small b3 (List.getElem_mem hjl))
          have hs2 : patsN (n.pats.take (j + 1)) = patsN (n.pats.take j) + (varsOf n.pats[j].nodes).length := sum_take (fun q : Pat => (varsOf q.nodes).length) hjl
          have h2 := hpb (j + 1)
          generalize n.pats[j] = q at *
          simp +contextual -dsimp (maxSteps := 2000000) only [↓SD, SU, SB, Nat.reduceAdd, Nat.reduceBEq, Nat.reduceEqDiff, Nat.reduceLeDiff, Nat.reduceLT, Nat.reduceSub, ↓reduceIte, forall_const, implies_true, ne_eq, reduceCtorEq, Int.reduceToNat, forall_eq, map_len, hjl, e2, av_Pat]
          intro w
          refine aCallK_of _ CP ?_
          simp +contextual -dsimp (maxSteps := 2000000) only [↓SD, SU, SB, Nat.reduceAdd, Nat.reduceBEq, Nat.reduceEqDiff, Nat.reduceLeDiff, Nat.reduceLT, Nat.reduceSub, ↓reduceIte, forall_const, implies_true, ne_eq, reduceCtorEq, Int.reduceToNat, forall_eq, map_len]
          exact ⟨by omega, by omega, Goes.le ⟨j + 1, ⟨hjl, (by first | omega | (simp only; omega))⟩, rfl⟩ (by simp +contextual -dsimp (maxSteps := 2000000) only [↓SD, SU, SB, Nat.reduceAdd, Nat.reduceBEq, Nat.reduceEqDiff, Nat.reduceLeDiff, Nat.reduceLT, Nat.reduceSub, ↓reduceIte, forall_const, implies_true, ne_eq, reduceCtorEq, Int.reduceToNat, forall_eq, hs2, Int.natCast_add, Nat.add_assoc, Int.add_assoc]) trivial⟩
        · obtain rfl : j = n.pats.length := by omega
          rw [List.take_length]
          simp +contextual -dsimp (maxSteps := 2000000) only [↓SD, SU, SB, Nat.reduceAdd, Nat.reduceBEq, Nat.reduceEqDiff, Nat.reduceLeDiff, Nat.reduceLT, Nat.reduceSub, ↓reduceIte, forall_const, implies_true, ne_eq, reduceCtorEq, Int.reduceToNat, forall_eq, map_len, Nat.lt_irrefl]
          exact ⟨by omega, Goes.le ⟨k + 1, ⟨hlt, (by first | omega | (simp only; omega))⟩, rfl⟩ (by simp +contextual -dsimp (maxSteps := 2000000) only [↓SD, SU, SB, Nat.reduceAdd, Nat.reduceBEq, Nat.reduceEqDiff, Nat.reduceLeDiff, Nat.reduceLT, Nat.reduceSub, ↓reduceIte, forall_const, implies_true, ne_eq, reduceCtorEq, Int.reduceToNat, forall_eq, hstep, Int.natCast_add, Int.add_assoc, Nat.add_assoc]) trivial⟩
    · obtain rfl : k = p.nodes.length := by omega
      simp +contextual -dsimp (maxSteps := 2000000) only [↓SD, SU, SB, Nat.reduceAdd, Nat.reduceBEq, Nat.reduceEqDiff, Nat.reduceLeDiff, Nat.reduceLT, Nat.reduceSub, ↓reduceIte, forall_const, implies_true, ne_eq, reduceCtorEq, Int.reduceToNat, forall_eq, map_len, Nat.lt_irrefl, List.take_length]
      simp [bindsI, hb]
theorem vars_take {l : List PNode} {i : Nat} (h : i < l.length) : (varsOf (l.take (i + 1))).length = (varsOf (l.take i)).length + (if l[i].kind = 2 then 1 else 0) := by
  rw [varsOf_snoc h, List.length_append]
  split <;> rfl
set_option maxHeartbeats 1000000 in
theorem specBinds_ok (p : Program) (hx : Bulk.bulk p ≤ 1048576) : CallsF Tryz.prog 18 [av p] (.int .i64 (bindsI p)) := by
  obtain ⟨q1, q2, q3, q4⟩ := prog_small hx
  refine fun_spec_Binds rfl (by simp; exact AVal.clean p) (pint _) ?_
  have C := specProgramOk_ok p hx
  rw [av_Program] at C
  simp +contextual -dsimp (maxSteps := 2000000) only [↓SD, SU, SB, Nat.reduceAdd, Nat.reduceBEq, Nat.reduceEqDiff, Nat.reduceLeDiff, Nat.reduceLT, Nat.reduceSub, ↓reduceIte, forall_const, implies_true, ne_eq, reduceCtorEq, Int.reduceToNat, forall_eq, ir_spec_Binds, rs_spec_Binds, av_Program, map_len]
  cases hb : progB p with
  | false =>
    rw [hb] at C
    refine aCallK_of _ C ?_
    simp +contextual -dsimp (maxSteps := 2000000) only [↓SD, SU, SB, Nat.reduceAdd, Nat.reduceBEq, Nat.reduceEqDiff, Nat.reduceLeDiff, Nat.reduceLT, Nat.reduceSub, ↓reduceIte, forall_const, implies_true, ne_eq, reduceCtorEq, Int.reduceToNat, forall_eq]
    simp [bindsI, hb]
  | true =>
    rw [hb] at C
    refine aCallK_of _ C ?_
    simp +contextual -dsimp (maxSteps := 2000000) only [↓SD, SU, SB, Nat.reduceAdd, Nat.reduceBEq, Nat.reduceEqDiff, Nat.reduceLeDiff, Nat.reduceLT, Nat.reduceSub, ↓reduceIte, forall_const, implies_true, ne_eq, reduceCtorEq, Int.reduceToNat, forall_eq, map_len]
    refine aLoop_of (X := Nat) (fun k => ⟨[(3, .int .i64 (nodesN (p.nodes.take k))), (14, .sl (p.nodes.map av)), (15, .int .i64 p.nodes.length), (16, .int .i64 k)], []⟩) (fun k => k ≤ p.nodes.length) (fun k => p.nodes.length - k) 0 (Nat.zero_le _) (by simp +contextual -dsimp (maxSteps := 2000000) only [↓SD, SU, SB, Nat.reduceAdd, Nat.reduceBEq, Nat.reduceEqDiff, Nat.reduceLeDiff, Nat.reduceLT, Nat.reduceSub, ↓reduceIte, forall_const, implies_true, ne_eq, reduceCtorEq, Int.reduceToNat, forall_eq, nodesN, List.sum_nil]) trivial ?_
    rintro k hk
    have hbk := nodesN_bulk p.nodes k
    by_cases hlt : k < p.nodes.length
    · have e := getD_map av p.nodes k .top hlt
      have hm := List.getElem_mem hlt
      obtain ⟨b1, b2, b3, b4⟩ := node_small q2 hm
      have CB := l15Binds_ok p.nodes[k].kind
      have hstep : nodesN (p.nodes.take (k + 1)) = nodesN (p.nodes.take k) + ((if bindB p.nodes[k].kind then 1 else 0) + patsN p.nodes[k].pats) := sum_take nodeN hlt
      have hpb := patsN_bulk p.nodes[k].pats
      generalize p.nodes[k] = n at *
      simp +contextual -dsimp (maxSteps := 2000000) only [↓SD, SU, SB, Nat.reduceAdd, Nat.reduceBEq, Nat.reduceEqDiff, Nat.reduceLeDiff, Nat.reduceLT, Nat.reduceSub, ↓reduceIte, forall_const, implies_true, ne_eq, reduceCtorEq, Int.reduceToNat, forall_eq, map_len, hlt, e, av_Node]
      intro v
      refine aCallK_of _ CB ?_
      cases hbb : bindB n.kind <;> rw [hbb] at hstep <;> simp only [if_true, Bool.false_eq_true, if_false] at hstep
      all_goals
        simp +contextual -dsimp (maxSteps := 2000000) only [↓SD, SU, SB, Nat.reduceAdd, Nat.reduceBEq, Nat.reduceEqDiff, Nat.reduceLeDiff, Nat.reduceLT, Nat.reduceSub, ↓reduceIte, forall_const, implies_true, ne_eq, reduceCtorEq, Int.reduceToNat, forall_eq, map_len]
        (repeat' (first | intro _ | refine And.intro ?_ ?_))
        all_goals first | omega | skip
      · refine aLoop_of (X := Nat) (fun j => ⟨[(3, .int .i64 ((nodesN (p.nodes.take k) + 0 + patsN (n.pats.take j) : Nat) : Int)), (14, .sl (p.nodes.map av)), (15, .int .i64 p.nodes.length), (16, .int .i64 k), (26, .sl (n.pats.map av)), (27, .int .i64 n.pats.length), (28, .int .i64 j)], []⟩) (fun j => j ≤ n.pats.length) (fun j => n.pats.length - j) 0 (Nat.zero_le _) (by simp +contextual -dsimp (maxSteps := 2000000) only [↓SD, SU, SB, Nat.reduceAdd, Nat.reduceBEq, Nat.reduceEqDiff, Nat.reduceLeDiff, Nat.reduceLT, Nat.reduceSub, ↓reduceIte, forall_const, implies_true, ne_eq, reduceCtorEq, Int.reduceToNat, forall_eq, patsN, List.sum_nil, Int.natCast_add]) trivial ?_
        rintro j hj
        have h1 := hpb j
        by_cases hjl : j < n.pats.length
        · have e2 := getD_map av n.pats j .top hjl
          have hs2 : patsN (n.pats.take (j + 1)) = patsN (n.pats.take j) + (varsOf n.pats[j].nodes).length := sum_take (fun q : Pat => (varsOf q.nodes).length) hjl
          have h2 := hpb (j + 1)
          have hqs := pat_small b3 (List.getElem_mem hjl)
          generalize n.pats[j] = q at *
          have hql := bulk_length q.nodes
          simp +contextual -dsimp (maxSteps := 2000000) only [↓SD, SU, SB, Nat.reduceAdd, Nat.reduceBEq, Nat.reduceEqDiff, Nat.reduceLeDiff, Nat.reduceLT, Nat.reduceSub, ↓reduceIte, forall_const, implies_true, ne_eq, reduceCtorEq, Int.reduceToNat, forall_eq, map_len, hjl, e2, av_Pat]
          intro w
          refine aLoop_of (X := Nat) (fun i => ⟨[(3, .int .i64 ((nodesN (p.nodes.take k) + 0 + patsN (n.pats.take j) + (varsOf (q.nodes.take i)).length : Nat) : Int)), (14, .sl (p.nodes.map av)), (15, .int .i64 p.nodes.length), (16, .int .i64 k), (26, .sl (n.pats.map av)), (27, .int .i64 n.pats.length), (28, .int .i64 j), (33, .sl (q.nodes.map av)), (34, .int .i64 q.nodes.length), (35, .int .i64 i)], []⟩) (fun i => i ≤ q.nodes.length) (fun i => q.nodes.length - i) 0 (Nat.zero_le _) (by simp +contextual -dsimp (maxSteps := 2000000) only [↓SD, SU, SB, Nat.reduceAdd, Nat.reduceBEq, Nat.reduceEqDiff, Nat.reduceLeDiff, Nat.reduceLT, Nat.reduceSub, ↓reduceIte, forall_const, implies_true, ne_eq, reduceCtorEq, Int.reduceToNat, forall_eq, varsOf, List.filterMap_nil, Int.natCast_add, Int.add_zero]) trivial ?_
          rintro i hi
          have hvl := varsOf_len (q.nodes.take i)
          rw [List.length_take] at hvl
          by_cases hil : i < q.nodes.length
          · have e3 := getD_map av q.nodes i .top hil
            have hv := vars_take hil
            generalize q.nodes[i] = x at *
            simp +contextual -dsimp (maxSteps := 2000000) only [↓SD, SU, SB, Nat.reduceAdd, Nat.reduceBEq, Nat.reduceEqDiff, Nat.reduceLeDiff, Nat.reduceLT, Nat.reduceSub, ↓reduceIte, forall_const, implies_true, ne_eq, reduceCtorEq, Int.reduceToNat, forall_eq, map_len, hil, e3, av_PNode]
            intro u
            (repeat' (first | intro _ | refine And.intro ?_ ?_))
            all_goals first | omega | skip
            · rename_i hk2
              rw [if_pos hk2] at hv
              exact Goes.le ⟨i + 1, ⟨hil, (by first | omega | (simp only; omega))⟩, rfl⟩ (by simp +contextual -dsimp (maxSteps := 2000000) only [↓SD, SU, SB, Nat.reduceAdd, Nat.reduceBEq, Nat.reduceEqDiff, Nat.reduceLeDiff, Nat.reduceLT, Nat.reduceSub, ↓reduceIte, forall_const, implies_true, ne_eq, reduceCtorEq, Int.reduceToNat, forall_eq, Int.natCast_add, hv, Int.add_assoc]) trivial
            · rename_i hk2
              rw [if_neg hk2, Nat.add_zero] at hv
              exact Goes.le ⟨i + 1, ⟨hil, (by first | omega | (simp only; omega))⟩, rfl⟩ (by simp +contextual -dsimp (maxSteps := 2000000) only [↓SD, SU, SB, Nat.reduceAdd, Nat.reduceBEq, Nat.reduceEqDiff, Nat.reduceLeDiff, Nat.reduceLT, Nat.reduceSub, ↓reduceIte, forall_const, implies_true, ne_eq, reduceCtorEq, Int.reduceToNat, forall_eq, Int.natCast_add, hv]) trivial
          · obtain rfl : i = q.nodes.length := by omega
            rw [List.take_length]
            simp +contextual -dsimp (maxSteps := 2000000) only [↓SD, SU, SB, Nat.reduceAdd, Nat.reduceBEq, Nat.reduceEqDiff, Nat.reduceLeDiff, Nat.reduceLT, Nat.reduceSub, ↓reduceIte, forall_const, implies_true, ne_eq, reduceCtorEq, Int.reduceToNat, forall_eq, map_len, Nat.lt_irrefl]
            exact ⟨by omega, Goes.le ⟨j + 1, ⟨hjl, (by first | omega | (simp only; omega))⟩, rfl⟩ (by simp +contextual -dsimp (maxSteps := 2000000) only [↓SD, SU, SB, Nat.reduceAdd, Nat.reduceBEq, Nat.reduceEqDiff, Nat.reduceLeDiff, Nat.reduceLT, Nat.reduceSub, ↓reduceIte, forall_const, implies_true, ne_eq, reduceCtorEq, Int.reduceToNat, forall_eq, hs2, Int.natCast_add, Nat.add_assoc, Int.add_assoc]) trivial⟩
        · obtain rfl : j = n.pats.length := by omega
          rw [List.take_length]
          simp +contextual -dsimp (maxSteps := 2000000) only [↓SD, SU, SB, Nat.reduceAdd, Nat.reduceBEq, Nat.reduceEqDiff, Nat.reduceLeDiff, Nat.reduceLT, Nat.reduceSub, ↓reduceIte, forall_const, implies_true, ne_eq, reduceCtorEq, Int.reduceToNat, forall_eq, map_len, Nat.lt_irrefl]
          exact ⟨by omega, Goes.le ⟨k + 1, ⟨hlt, (by first | omega | (simp only; omega))⟩, rfl⟩ (by simp +contextual -dsimp (maxSteps := 2000000) only [↓SD, SU, SB, Nat.reduceAdd, Nat.reduceBEq, Nat.reduceEqDiff, Nat.reduceLeDiff, Nat.reduceLT, Nat.reduceSub, ↓reduceIte, forall_const, implies_true, ne_eq, reduceCtorEq, Int.reduceToNat, forall_eq, hstep, Int.natCast_add, Nat.add_assoc, Int.add_assoc, Nat.zero_add, Nat.add_zero]) trivial⟩
      · refine aLoop_of (X := Nat) (fun j => ⟨[(3, .int .i64 ((nodesN (p.nodes.take k) + 1 + patsN (n.pats.take j) : Nat) : Int)), (14, .sl (p.nodes.map av)), (15, .int .i64 p.nodes.length), (16, .int .i64 k), (26, .sl (n.pats.map av)), (27, .int .i64 n.pats.length), (28, .int .i64 j)], []⟩) (fun j => j ≤ n.pats.length) (fun j => n.pats.length - j) 0 (Nat.zero_le _) (by simp +contextual -dsimp (maxSteps := 2000000) only [↓SD, SU, SB, Nat.reduceAdd, Nat.reduceBEq, Nat.reduceEqDiff, Nat.reduceLeDiff, Nat.reduceLT, Nat.reduceSub, ↓reduceIte, forall_const, implies_true, ne_eq, reduceCtorEq, Int.reduceToNat, forall_eq, patsN, List.sum_nil, Int.natCast_add]) trivial ?_
        rintro j hj
        have h1 := hpb j
        by_cases hjl : j < n.pats.length
        · have e2 := getD_map av n.pats j .top hjl
          have hs2 : patsN (n.pats.take (j + 1)) = patsN (n.pats.take j) + (varsOf n.pats[j].nodes).length := sum_take (fun q : Pat => (varsOf q.nodes).length) hjl
          have h2 := hpb (j + 1)
          have hqs := pat_small b3 (List.getElem_mem hjl)
          generalize n.pats[j] = q at *
          have hql := bulk_length q.nodes
          simp +contextual -dsimp (maxSteps := 2000000) only [↓SD, SU, SB, Nat.reduceAdd, Nat.reduceBEq, Nat.reduceEqDiff, Nat.reduceLeDiff, Nat.reduceLT, Nat.reduceSub, ↓reduceIte, forall_const, implies_true, ne_eq, reduceCtorEq, Int.reduceToNat, forall_eq, map_len, hjl, e2, av_Pat]
          intro w
          refine aLoop_of (X := Nat) (fun i => ⟨[(3, .int .i64 ((nodesN (p.nodes.take k) + 1 + patsN (n.pats.take j) + (varsOf (q.nodes.take i)).length : Nat) : Int)), (14, .sl (p.nodes.map av)), (15, .int .i64 p.nodes.length), (16, .int .i64 k), (26, .sl (n.pats.map av)), (27, .int .i64 n.pats.length), (28, .int .i64 j), (33, .sl (q.nodes.map av)), (34, .int .i64 q.nodes.length), (35, .int .i64 i)], []⟩) (fun i => i ≤ q.nodes.length) (fun i => q.nodes.length - i) 0 (Nat.zero_le _) (by simp +contextual -dsimp (maxSteps := 2000000) only [↓SD, SU, SB, Nat.reduceAdd, Nat.reduceBEq, Nat.reduceEqDiff, Nat.reduceLeDiff, Nat.reduceLT, Nat.reduceSub, ↓reduceIte, forall_const, implies_true, ne_eq, reduceCtorEq, Int.reduceToNat, forall_eq, varsOf, List.filterMap_nil, Int.natCast_add, Int.add_zero]) trivial ?_
          rintro i hi
          have hvl := varsOf_len (q.nodes.take i)
          rw [List.length_take] at hvl
          by_cases hil : i < q.nodes.length
          · have e3 := getD_map av q.nodes i .top hil
            have hv := vars_take hil
            generalize q.nodes[i] = x at *
            simp +contextual -dsimp (maxSteps := 2000000) only [↓SD, SU, SB, Nat.reduceAdd, Nat.reduceBEq, Nat.reduceEqDiff, Nat.reduceLeDiff, Nat.reduceLT, Nat.reduceSub, ↓reduceIte, forall_const, implies_true, ne_eq, reduceCtorEq, Int.reduceToNat, forall_eq, map_len, hil, e3, av_PNode]
            intro u
            (repeat' (first | intro _ | refine And.intro ?_ ?_))
            all_goals first | omega | skip
            · rename_i hk2
              rw [if_pos hk2] at hv
              exact Goes.le ⟨i + 1, ⟨hil, (by first | omega | (simp only; omega))⟩, rfl⟩ (by simp +contextual -dsimp (maxSteps := 2000000) only [↓SD, SU, SB, Nat.reduceAdd, Nat.reduceBEq, Nat.reduceEqDiff, Nat.reduceLeDiff, Nat.reduceLT, Nat.reduceSub, ↓reduceIte, forall_const, implies_true, ne_eq, reduceCtorEq, Int.reduceToNat, forall_eq, Int.natCast_add, hv, Int.add_assoc]) trivial
            · rename_i hk2
              rw [if_neg hk2, Nat.add_zero] at hv
              exact Goes.le ⟨i + 1, ⟨hil, (by first | omega | (simp only; omega))⟩, rfl⟩ (by simp +contextual -dsimp (maxSteps := 2000000) only [↓SD, SU, SB, Nat.reduceAdd, Nat.reduceBEq, Nat.reduceEqDiff, Nat.reduceLeDiff, Nat.reduceLT, Nat.reduceSub, ↓reduceIte, forall_const, implies_true, ne_eq, reduceCtorEq, Int.reduceToNat, forall_eq, Int.natCast_add, hv]) trivial
          · obtain rfl : i = q.nodes.length := by omega
            rw [List.take_length]
            simp +contextual -dsimp (maxSteps := 2000000) only [↓SD, SU, SB, Nat.reduceAdd, Nat.reduceBEq, Nat.reduceEqDiff, Nat.reduceLeDiff, Nat.reduceLT, Nat.reduceSub, ↓reduceIte, forall_const, implies_true, ne_eq, reduceCtorEq, Int.reduceToNat, forall_eq, map_len, Nat.lt_irrefl]
            exact ⟨by omega, Goes.le ⟨j + 1, ⟨hjl, (by first | omega | (simp only; omega))⟩, rfl⟩ (by simp +contextual -dsimp (maxSteps := 2000000) only [↓SD, SU, SB, Nat.reduceAdd, Nat.reduceBEq, Nat.reduceEqDiff, Nat.reduceLeDiff, Nat.reduceLT, Nat.reduceSub, ↓reduceIte, forall_const, implies_true, ne_eq, reduceCtorEq, Int.reduceToNat, forall_eq, hs2, Int.natCast_add, Nat.add_assoc, Int.add_assoc]) trivial⟩
        · obtain rfl : j = n.pats.length := by omega
          rw [List.take_length]
          simp +contextual -dsimp (maxSteps := 2000000) only [↓SD, SU, SB, Nat.reduceAdd, Nat.reduceBEq, Nat.reduceEqDiff, Nat.reduceLeDiff, Nat.reduceLT, Nat.reduceSub, ↓reduceIte, forall_const, implies_true, ne_eq, reduceCtorEq, Int.reduceToNat, forall_eq, map_len, Nat.lt_irrefl]
          exact ⟨by omega, Goes.le ⟨k + 1, ⟨hlt, (by first | omega | (simp only; omega))⟩, rfl⟩ (by simp +contextual -dsimp (maxSteps := 2000000) only [↓SD, SU, SB, Nat.reduceAdd, Nat.reduceBEq, Nat.reduceEqDiff, Nat.reduceLeDiff, Nat.reduceLT, Nat.reduceSub, ↓reduceIte, forall_const, implies_true, ne_eq, reduceCtorEq, Int.reduceToNat, forall_eq, hstep, Int.natCast_add, Nat.add_assoc, Int.add_assoc, Nat.zero_add, Nat.add_zero]) trivial⟩
    · obtain rfl : k = p.nodes.length := by omega
      simp +contextual -dsimp (maxSteps := 2000000) only [↓SD, SU, SB, Nat.reduceAdd, Nat.reduceBEq, Nat.reduceEqDiff, Nat.reduceLeDiff, Nat.reduceLT, Nat.reduceSub, ↓reduceIte, forall_const, implies_true, ne_eq, reduceCtorEq, Int.reduceToNat, forall_eq, map_len, Nat.lt_irrefl, List.take_length]
      simp [bindsI, hb]
end Go.Proofs.YtpomnlejlgojaaaGreat
