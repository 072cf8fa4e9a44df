/-
  WHO BINDS A NAME IN A NODE'S CHILD, AND HOW OFTEN A NAME IS FREE, of the program and of the reference, by abstract texts. Conditions: none.
-/
import Derived.Test.YtpomnlejlgojaaaGreatTrP
import Derived.Test.YtpomnlejlgojaaaGreatBindsW
import Derived.Test.YtpomnlejlgojaaaGreatIrOcc
set_option linter.unusedVariables false
set_option linter.unusedSimpArgs false
set_option maxRecDepth 100000
namespace Go.Proofs.YtpomnlejlgojaaaGreat
open Go.RowKit Go.Proofs.YtpomnlejlgojaaaGreat.Av Go.Proofs.YtpomnlejlgojaaaGreat.Ml
open Go.Proofs.YtpomnlejlgojaaaGreat.Av.AVal (av)

/-- whether a pattern has a name -/
def hasName (q : Pat) (s : ByteArray) : Bool := (varsOf q.nodes).any fun x => decide (s = x)
/-- whether a node binds a name in its child number i -/
def boundB (n : Node) (i : Nat) (s : ByteArray) : Bool :=
  if n.kind = 5 ∨ n.kind = 8 then decide (n.s = s)
  else if n.kind = 7 ∨ n.kind = 15 then decide ((i : Int) = 1) && decide (n.s = s)
  else if n.kind = 13 then decide (0 < (i : Int)) && hasName (n.pats.getD (i - 1) default) s
  else false
mutual
/-- how often a name is free -/
def cntT (s : ByteArray) : Tr → Nat
  | .mk n ks => if n.kind = 3 then (if n.s = s then 1 else 0) else cntTs s n 0 ks
def cntTs (s : ByteArray) (n : Node) : Nat → List Tr → Nat
  | _, [] => 0
  | i, t :: ts => (if boundB n i s then 0 else cntT s t) + cntTs s n (i + 1) ts
end
theorem cntTs_le {s : ByteArray} {n : Node} : ∀ {ks : List Tr} {i : Nat}, (∀ k ∈ ks, cntT s k ≤ k.size) → cntTs s n i ks ≤ Tr.sizes ks
  | [], i, _ => by rw [cntTs]; exact Nat.zero_le _
  | t :: ts, i, h => by
    rw [cntTs, Tr.sizes]
    have h1 := h t (by simp)
    have h2 := cntTs_le (s := s) (n := n) (ks := ts) (i := i + 1) fun k hk => h k (by simp [hk])
    split <;> omega
theorem cntT_le (s : ByteArray) : ∀ t, cntT s t ≤ t.size := Tr.ind fun n ks ih => by
  rw [cntT, Tr.size]
  have := cntTs_le (s := s) (n := n) (ks := ks) (i := 0) ih
  repeat' split
  all_goals omega

theorem l09Binds_ok (q : Pat) (s : ByteArray) (hx : Bulk.bulk q ≤ 1048576) : CallsF Tryz.prog 100 [av q, .str s] (.bool (hasName q s)) := by
  obtain ⟨l⟩ := q
  have hl := bulk_length l
  have hb : Bulk.bulk l + 1 ≤ 1048576 := hx
  refine fun_spec_l09Binds rfl (by simp; exact ⟨AVal.clean _, AvPure.str _⟩) (AvPure.bool _) ?_
  simp +contextual -dsimp (maxSteps := 2000000) only [↓SD, SU, SB, Nat.reduceAdd, Nat.reduceBEq, Nat.reduceEqDiff, Nat.reduceLeDiff, Nat.reduceLT, Nat.reduceSub, ↓reduceIte, forall_const, implies_true, ne_eq, reduceCtorEq, Int.reduceToNat, forall_eq, ir_spec_l09Binds, rs_spec_l09Binds, av_Pat, map_len]
  refine aLoop_of (X := Nat) (fun k => ⟨[(1, .str s), (8, .sl (l.map av)), (9, .int .i64 l.length), (10, .int .i64 k)], []⟩) (fun k => k ≤ l.length ∧ ((varsOf (l.take k)).any fun x => decide (s = x)) = false) (fun k => l.length - k) 0 ⟨Nat.zero_le _, rfl⟩ (by simp +contextual -dsimp (maxSteps := 2000000) only [↓SD, SU, SB, Nat.reduceAdd, Nat.reduceBEq, Nat.reduceEqDiff, Nat.reduceLeDiff, Nat.reduceLT, Nat.reduceSub, ↓reduceIte, forall_const, implies_true, ne_eq, reduceCtorEq, Int.reduceToNat, forall_eq]) trivial ?_
  rintro k ⟨hk, hp⟩
  by_cases hlt : k < l.length
  · have e := getD_map av l k .top hlt
    have hv := varsOf_snoc hlt
    have hm := List.getElem_mem hlt
    have hin : l[k].kind = 2 → s = l[k].s → hasName ⟨l⟩ s = true := fun h1 h2 => by
      simp only [hasName, List.any_eq_true, decide_eq_true_eq]
      exact ⟨l[k].s, by simp only [varsOf, List.mem_filterMap]; exact ⟨l[k], hm, by rw [if_pos h1]⟩, h2⟩
    generalize l[k] = a at *
    simp +contextual -dsimp (maxSteps := 2000000) only [↓SD, SU, SB, Nat.reduceAdd, Nat.reduceBEq, Nat.reduceEqDiff, Nat.reduceLeDiff, Nat.reduceLT, Nat.reduceSub, ↓reduceIte, forall_const, implies_true, ne_eq, reduceCtorEq, Int.reduceToNat, forall_eq, map_len, hlt, e, av_PNode]
    (repeat' (first | intro _ | refine And.intro ?_ ?_))
    all_goals first | omega | skip
    · rename_i h1 h2
      rw [hin h1 h2.symm]
    · rename_i h1 h2
      exact Goes.le ⟨k + 1, ⟨⟨hlt, by rw [hv, if_pos h1, List.any_append, hp]; simp [Ne.symm h2]⟩, (by first | omega | (simp only; omega))⟩, rfl⟩ (by simp +contextual -dsimp (maxSteps := 2000000) only [↓SD, SU, SB, Nat.reduceAdd, Nat.reduceBEq, Nat.reduceEqDiff, Nat.reduceLeDiff, Nat.reduceLT, Nat.reduceSub, ↓reduceIte, forall_const, implies_true, ne_eq, reduceCtorEq, Int.reduceToNat, forall_eq, Int.natCast_add]) trivial
    · rename_i h1
      exact Goes.le ⟨k + 1, ⟨⟨hlt, by rw [hv, if_neg h1, List.append_nil, hp]⟩, (by first | omega | (simp only; omega))⟩, rfl⟩ (by simp +contextual -dsimp (maxSteps := 2000000) only [↓SD, SU, SB, Nat.reduceAdd, Nat.reduceBEq, Nat.reduceEqDiff, Nat.reduceLeDiff, Nat.reduceLT, Nat.reduceSub, ↓reduceIte, forall_const, implies_true, ne_eq, reduceCtorEq, Int.reduceToNat, forall_eq, Int.natCast_add]) trivial
  · obtain rfl : k = l.length := by omega
    rw [List.take_length] at hp
    simp +contextual -dsimp (maxSteps := 2000000) only [↓SD, SU, SB, Nat.reduceAdd, Nat.reduceBEq, Nat.reduceEqDiff, Nat.reduceLeDiff, Nat.reduceLT, Nat.reduceSub, ↓reduceIte, forall_const, implies_true, ne_eq, reduceCtorEq, Int.reduceToNat, forall_eq, map_len, Nat.lt_irrefl]
    simp only [hasName, hp]

theorem binds_ok (n : Node) (ks : List Tr) (i : Nat) (s : ByteArray) (hn : Bulk.bulk n ≤ 1048576) (hi : i ≤ 1048576) (h13 : n.kind = 13 → i ≤ n.pats.length) : CallsF Tryz.prog 102 [av (Tr.mk n ks), .int .i64 i, .str s] (.bool (boundB n i s)) := by
  refine fun_impl_ex_binds rfl (by simp; exact ⟨AVal.clean _, pint _, AvPure.str _⟩) (AvPure.bool _) ?_
  by_cases h : n.kind = 13 ∧ 0 < i
  · obtain ⟨h1, h2⟩ := h
    obtain ⟨j, rfl⟩ : ∃ j, i = j + 1 := ⟨i - 1, by omega⟩
    have hlt : j < n.pats.length := by have := h13 h1; omega
    have hj : ((j + 1 : Nat) : Int) - 1 = j := by omega
    have hj0 : (0 : Int) < ((j + 1 : Nat) : Int) := by omega
    have e := getD_map av n.pats j .top hlt
    have hb : Bulk.bulk n = Bulk.bulk n.kind + Bulk.bulk n.pos + Bulk.bulk n.n + Bulk.bulk n.s + Bulk.bulk n.kids + Bulk.bulk n.pats + 1 := rfl
    have hm := bulk_mem (List.getElem_mem hlt)
    have hd : n.pats.getD j default = n.pats[j] := by simp [List.getD_eq_getElem?_getD, hlt]
    have hv : boundB n (j + 1) s = hasName n.pats[j] s := by simp [boundB, h1, hlt]
    have hq : Bulk.bulk n.pats[j] = Bulk.bulk n.pats[j].nodes + 1 := rfl
    have hl := varsOf_bulk n.pats[j]
    have C1 := patNames_ok n.pats[j].nodes (by omega)
    have C2 := ContainsStr_ok (varsOf n.pats[j].nodes) s (by omega)
    rw [hv]
    clear hv
    generalize n.pats[j] = q at *
    simp +contextual -dsimp (maxSteps := 2000000) only [↓SD, SU, SB, Nat.reduceAdd, Nat.reduceBEq, Nat.reduceEqDiff, Nat.reduceLeDiff, Nat.reduceLT, Nat.reduceSub, ↓reduceIte, forall_const, implies_true, ne_eq, reduceCtorEq, Int.reduceToNat, forall_eq, Int.reduceEq, Int.reduceLT, Int.reduceLE, Int.reduceNeg, Int.reduceAdd, Int.reduceSub, ir_impl_ex_binds, rs_impl_ex_binds, av_Tr, map_len, h1, hj, hj0, hlt, e, av_Pat]
    (repeat' (first | intro _ | refine And.intro ?_ ?_))
    all_goals first | omega | skip
    refine aCallK_of _ C1 ?_
    simp +contextual -dsimp (maxSteps := 2000000) only [↓SD, SU, SB, Nat.reduceAdd, Nat.reduceBEq, Nat.reduceEqDiff, Nat.reduceLeDiff, Nat.reduceLT, Nat.reduceSub, ↓reduceIte, forall_const, implies_true, ne_eq, reduceCtorEq, Int.reduceToNat, forall_eq]
    refine aCallK_of _ C2 ?_
    simp +contextual -dsimp (maxSteps := 2000000) only [↓SD, SU, SB, Nat.reduceAdd, Nat.reduceBEq, Nat.reduceEqDiff, Nat.reduceLeDiff, Nat.reduceLT, Nat.reduceSub, ↓reduceIte, forall_const, implies_true, ne_eq, reduceCtorEq, Int.reduceToNat, forall_eq, hasName]
  · simp +contextual -dsimp (maxSteps := 2000000) only [↓SD, SU, SB, Nat.reduceAdd, Nat.reduceBEq, Nat.reduceEqDiff, Nat.reduceLeDiff, Nat.reduceLT, Nat.reduceSub, ↓reduceIte, forall_const, implies_true, ne_eq, reduceCtorEq, Int.reduceToNat, forall_eq, Int.reduceEq, Int.reduceLT, Int.reduceLE, Int.reduceNeg, Int.reduceAdd, Int.reduceSub, ir_impl_ex_binds, rs_impl_ex_binds, av_Tr, map_len]
    (repeat' (first | intro _ | refine And.intro ?_ ?_))
    all_goals first | omega | (exact absurd ⟨‹_›, by omega⟩ h) | (simp [boundB, *]; done) | (simp [boundB, *]; omega) | trace_state
theorem l16Bound_ok (n : Node) (i : Nat) (s : ByteArray) (hn : Bulk.bulk n ≤ 1048576) (hi : i ≤ 1048576) (h13 : n.kind = 13 → i ≤ n.pats.length) : CallsF Tryz.prog 101 [av n, .int .i64 i, .str s] (.bool (boundB n i s)) := by
  refine fun_spec_l16Bound rfl (by simp; exact ⟨AVal.clean _, pint _, AvPure.str _⟩) (AvPure.bool _) ?_
  by_cases h : n.kind = 13 ∧ 0 < i
  · obtain ⟨h1, h2⟩ := h
    obtain ⟨j, rfl⟩ : ∃ j, i = j + 1 := ⟨i - 1, by omega⟩
    have hlt : j < n.pats.length := by have := h13 h1; omega
    have hj : ((j + 1 : Nat) : Int) - 1 = j := by omega
    have hj0 : (0 : Int) < ((j + 1 : Nat) : Int) := by omega
    have e := getD_map av n.pats j .top hlt
    have hb : Bulk.bulk n = Bulk.bulk n.kind + Bulk.bulk n.pos + Bulk.bulk n.n + Bulk.bulk n.s + Bulk.bulk n.kids + Bulk.bulk n.pats + 1 := rfl
    have hm := bulk_mem (List.getElem_mem hlt)
    have hv : boundB n (j + 1) s = hasName n.pats[j] s := by simp [boundB, h1, hlt]
    have C1 := l09Binds_ok n.pats[j] s (by omega)
    rw [hv]
    clear hv
    generalize n.pats[j] = q at *
    rw [av_Pat] at C1
    simp +contextual -dsimp (maxSteps := 2000000) only [↓SD, SU, SB, Nat.reduceAdd, Nat.reduceBEq, Nat.reduceEqDiff, Nat.reduceLeDiff, Nat.reduceLT, Nat.reduceSub, ↓reduceIte, forall_const, implies_true, ne_eq, reduceCtorEq, Int.reduceToNat, forall_eq, Int.reduceEq, Int.reduceLT, Int.reduceLE, Int.reduceNeg, Int.reduceAdd, Int.reduceSub, ir_spec_l16Bound, rs_spec_l16Bound, av_Node, map_len, h1, hj, hj0, hlt, e, av_Pat]
    (repeat' (first | intro _ | refine And.intro ?_ ?_))
    all_goals first | omega | skip
    refine aCallK_of _ C1 ?_
    simp +contextual -dsimp (maxSteps := 2000000) only [↓SD, SU, SB, Nat.reduceAdd, Nat.reduceBEq, Nat.reduceEqDiff, Nat.reduceLeDiff, Nat.reduceLT, Nat.reduceSub, ↓reduceIte, forall_const, implies_true, ne_eq, reduceCtorEq, Int.reduceToNat, forall_eq]
  · simp +contextual -dsimp (maxSteps := 2000000) only [↓SD, SU, SB, Nat.reduceAdd, Nat.reduceBEq, Nat.reduceEqDiff, Nat.reduceLeDiff, Nat.reduceLT, Nat.reduceSub, ↓reduceIte, forall_const, implies_true, ne_eq, reduceCtorEq, Int.reduceToNat, forall_eq, Int.reduceEq, Int.reduceLT, Int.reduceLE, Int.reduceNeg, Int.reduceAdd, Int.reduceSub, ir_spec_l16Bound, rs_spec_l16Bound, av_Node, map_len]
    (repeat' (first | intro _ | refine And.intro ?_ ?_))
    all_goals first | omega | (exact absurd ⟨‹_›, by omega⟩ h) | (simp [boundB, *]; done) | (simp [boundB, *]; omega) | trace_state

theorem tr_cells (t : Tr) : (av t).cells = [av t] := by cases t; rw [av_Tr]; rfl
theorem tr_purA (t : Tr) (hp : Hp) : (av t).purA hp = av t := by cases t; rw [av_Tr]; rfl
theorem tr_pur1 (t : Tr) (hp : Hp) : (av t).pur1 hp = av t := by cases t; rw [av_Tr]; rfl
theorem tr_pur (t : Tr) (hp : Hp) : (av t).pur hp = av t := AVal.nop t hp
theorem tr_one (t : Tr) : (av t).one = true := by cases t; rw [av_Tr]; rfl
theorem tr_ok (t : Tr) : (av t).ok = true := AVal.ok t
theorem count_ok (s : ByteArray) (hs : s.size ≤ 1048576) : ∀ t : Tr, t.ok → t.size ≤ 1048576 → CallsF Tryz.prog 60 [av t, .str s] (.int .i64 (cntT s t)) := Tr.ind fun n ks ih hok hsz => by
  rw [Tr.ok] at hok
  rw [Tr.size] at hsz
  obtain ⟨⟨k3, k13, kb⟩, koks⟩ := hok
  have hlen := sizes_len ks
  refine fun_impl_ex_count rfl (by simp; exact ⟨AVal.clean _, AvPure.str _⟩) (pint _) ?_
  by_cases h3 : n.kind = 3
  · simp +contextual -dsimp (maxSteps := 2000000) only [↓SD, SU, SB, Nat.reduceAdd, Nat.reduceBEq, Nat.reduceEqDiff, Nat.reduceLeDiff, Nat.reduceLT, Nat.reduceSub, ↓reduceIte, forall_const, implies_true, ne_eq, reduceCtorEq, Int.reduceToNat, forall_eq, Int.reduceEq, Int.reduceLT, Int.reduceLE, Int.reduceNeg, Int.reduceAdd, Int.reduceSub, ir_impl_ex_count, rs_impl_ex_count, av_Tr, map_len, h3]
    (repeat' (first | intro _ | refine And.intro ?_ ?_))
    all_goals rw [cntT, if_pos h3]; simp [*]
  · simp +contextual -dsimp (maxSteps := 2000000) only [↓SD, SU, SB, Nat.reduceAdd, Nat.reduceBEq, Nat.reduceEqDiff, Nat.reduceLeDiff, Nat.reduceLT, Nat.reduceSub, ↓reduceIte, forall_const, implies_true, ne_eq, reduceCtorEq, Int.reduceToNat, forall_eq, Int.reduceEq, Int.reduceLT, Int.reduceLE, Int.reduceNeg, Int.reduceAdd, Int.reduceSub, ir_impl_ex_count, rs_impl_ex_count, av_Tr, map_len, h3]
    refine aLoop_of (X := Nat × Nat) (fun x => ⟨[(0, .obj [.int .i64 n.kind, .int .i64 n.pos, .int .i64 n.n, .str n.s, .sl (ks.map av), .sl (n.pats.map av)]), (1, .str s), (5, .int .i64 x.2), (22, .sl (ks.map av)), (23, .int .i64 ks.length), (24, .int .i64 x.1)], []⟩) (fun x => x.1 ≤ ks.length ∧ cntT s (.mk n ks) = x.2 + cntTs s n x.1 (ks.drop x.1)) (fun x => ks.length - x.1) (0, 0) ⟨Nat.zero_le _, by rw [cntT, if_neg h3, List.drop_zero]; simp⟩ (by simp +contextual -dsimp (maxSteps := 2000000) only [↓SD, SU, SB, Nat.reduceAdd, Nat.reduceBEq, Nat.reduceEqDiff, Nat.reduceLeDiff, Nat.reduceLT, Nat.reduceSub, ↓reduceIte, forall_const, implies_true, ne_eq, reduceCtorEq, Int.reduceToNat, forall_eq]) trivial ?_
    rintro ⟨k, c⟩ ⟨hk, hc⟩
    simp only at hk hc
    have hle := cntT_le s (.mk n ks)
    rw [Tr.size] at hle
    by_cases hlt : k < ks.length
    · have e := getD_map av ks k .top hlt
      have hm := List.getElem_mem hlt
      have hsm := sizes_mem hm
      have C1 := binds_ok n ks k s kb (by omega) (fun h => by have := k13 h; omega)
      have C2 := ih ks[k] hm (oks_mem koks hm) (by omega)
      rw [List.drop_eq_getElem_cons hlt, cntTs] at hc
      rw [av_Tr] at C1
      cases hb : boundB n k s with
      | true =>
        rw [hb] at C1 hc
        rw [if_pos rfl] at hc
        generalize ks[k] = t at *
        simp +contextual -dsimp (maxSteps := 2000000) only [↓SD, SU, SB, Nat.reduceAdd, Nat.reduceBEq, Nat.reduceEqDiff, Nat.reduceLeDiff, Nat.reduceLT, Nat.reduceSub, ↓reduceIte, forall_const, implies_true, ne_eq, reduceCtorEq, Int.reduceToNat, forall_eq, map_len, hlt, e, tr_cells]
        refine aCallK_of _ C1 ?_
        simp +contextual -dsimp (maxSteps := 2000000) only [↓SD, SU, SB, Nat.reduceAdd, Nat.reduceBEq, Nat.reduceEqDiff, Nat.reduceLeDiff, Nat.reduceLT, Nat.reduceSub, ↓reduceIte, forall_const, implies_true, ne_eq, reduceCtorEq, Int.reduceToNat, forall_eq]
        refine ⟨by omega, Goes.le ⟨(k + 1, c), ⟨⟨hlt, by simp only; omega⟩, (by first | omega | (simp only; omega))⟩, rfl⟩ (by simp +contextual -dsimp (maxSteps := 2000000) only [↓SD, SU, SB, Nat.reduceAdd, Nat.reduceBEq, Nat.reduceEqDiff, Nat.reduceLeDiff, Nat.reduceLT, Nat.reduceSub, ↓reduceIte, forall_const, implies_true, ne_eq, reduceCtorEq, Int.reduceToNat, forall_eq, Int.natCast_add]) trivial⟩
      | false =>
        rw [hb] at C1 hc
        rw [if_neg Bool.false_ne_true] at hc
        generalize ks[k] = t at *
        simp +contextual -dsimp (maxSteps := 2000000) only [↓SD, SU, SB, Nat.reduceAdd, Nat.reduceBEq, Nat.reduceEqDiff, Nat.reduceLeDiff, Nat.reduceLT, Nat.reduceSub, ↓reduceIte, forall_const, implies_true, ne_eq, reduceCtorEq, Int.reduceToNat, forall_eq, map_len, hlt, e, tr_cells]
        refine aCallK_of _ C1 ?_
        simp +contextual -dsimp (maxSteps := 2000000) only [↓SD, SU, SB, Nat.reduceAdd, Nat.reduceBEq, Nat.reduceEqDiff, Nat.reduceLeDiff, Nat.reduceLT, Nat.reduceSub, ↓reduceIte, forall_const, implies_true, ne_eq, reduceCtorEq, Int.reduceToNat, forall_eq, tr_purA]
        refine aCallK_of _ C2 ?_
        simp +contextual -dsimp (maxSteps := 2000000) only [↓SD, SU, SB, Nat.reduceAdd, Nat.reduceBEq, Nat.reduceEqDiff, Nat.reduceLeDiff, Nat.reduceLT, Nat.reduceSub, ↓reduceIte, forall_const, implies_true, ne_eq, reduceCtorEq, Int.reduceToNat, forall_eq]
        refine ⟨by omega, by omega, Goes.le ⟨(k + 1, c + cntT s t), ⟨⟨hlt, by simp only; omega⟩, (by first | omega | (simp only; omega))⟩, rfl⟩ (by simp +contextual -dsimp (maxSteps := 2000000) only [↓SD, SU, SB, Nat.reduceAdd, Nat.reduceBEq, Nat.reduceEqDiff, Nat.reduceLeDiff, Nat.reduceLT, Nat.reduceSub, ↓reduceIte, forall_const, implies_true, ne_eq, reduceCtorEq, Int.reduceToNat, forall_eq, Int.natCast_add]) trivial⟩
    · obtain rfl : k = ks.length := by omega
      rw [List.drop_length, cntTs] at hc
      simp +contextual -dsimp (maxSteps := 2000000) only [↓SD, SU, SB, Nat.reduceAdd, Nat.reduceBEq, Nat.reduceEqDiff, Nat.reduceLeDiff, Nat.reduceLT, Nat.reduceSub, ↓reduceIte, forall_const, implies_true, ne_eq, reduceCtorEq, Int.reduceToNat, forall_eq, map_len, Nat.lt_irrefl]
      rw [hc]; simp
end Go.Proofs.YtpomnlejlgojaaaGreat
