/-
  PLAIN NODES, AND THE REFERENCE's COUNT, by abstract texts. Conditions: none.
-/
import Derived.Test.YtpomnlejlgojaaaGreatOccA
set_option linter.unusedVariables false
set_option linter.unusedSimpArgs false
set_option maxRecDepth 100000
namespace Go.Proofs.YtpomnlejlgojaaaGreat
open Go.RowKit Go.Proofs.YtpomnlejlgojaaaGreat.Av Go.Proofs.YtpomnlejlgojaaaGreat.Ml
open Go.Proofs.YtpomnlejlgojaaaGreat.Av.AVal (av)

/-- whether a node with m children is a constant -/
def plainB (n : Node) (m : Nat) : Bool := decide (n.kind = 1) || decide (n.kind = 2) || decide (n.kind = 12) || (decide (n.kind = 4) && decide ((m : Int) = 0))
theorem isPlain_ok (n : Node) (ks : List Tr) (hl : ks.length ≤ 1048576) : CallsF Tryz.prog 49 [av (Tr.mk n ks)] (.bool (plainB n ks.length)) := by
  refine fun_impl_isPlain rfl (by simp; exact AVal.clean _) (AvPure.bool _) ?_
  simp +contextual -dsimp (maxSteps := 2000000) only [↓SD, SU, SB, Nat.reduceAdd, Nat.reduceBEq, Nat.reduceEqDiff, Nat.reduceLeDiff, Nat.reduceLT, Nat.reduceSub, ↓reduceIte, forall_const, implies_true, ne_eq, reduceCtorEq, Int.reduceToNat, forall_eq, Int.reduceEq, Int.reduceLT, Int.reduceLE, Int.reduceNeg, Int.reduceAdd, Int.reduceSub, ir_impl_isPlain, rs_impl_isPlain, av_Tr, map_len]
  (repeat' (first | intro _ | refine And.intro ?_ ?_))
  all_goals first | omega | (simp [plainB, *]; done) | (simp [plainB, *]; omega) | trace_state
theorem l16Atom_ok (n : Node) (hl : n.kids.length ≤ 1048576) : CallsF Tryz.prog 44 [av n] (.bool (plainB n n.kids.length)) := by
  refine fun_spec_l16Atom rfl (by simp; exact AVal.clean _) (AvPure.bool _) ?_
  simp +contextual -dsimp (maxSteps := 2000000) only [↓SD, SU, SB, Nat.reduceAdd, Nat.reduceBEq, Nat.reduceEqDiff, Nat.reduceLeDiff, Nat.reduceLT, Nat.reduceSub, ↓reduceIte, forall_const, implies_true, ne_eq, reduceCtorEq, Int.reduceToNat, forall_eq, Int.reduceEq, Int.reduceLT, Int.reduceLE, Int.reduceNeg, Int.reduceAdd, Int.reduceSub, ir_spec_l16Atom, rs_spec_l16Atom, av_Node, map_len]
  (repeat' (first | intro _ | refine And.intro ?_ ?_))
  all_goals first | omega | (simp [plainB, *]; done) | (simp [plainB, *]; omega) | trace_state
theorem sub_len (t : Sub) : (av t).cells.length = 7 := AVal.len t
theorem sub_pur (t : Sub) (hp : Hp) : (av t).pur hp = av t := AVal.nop t hp
theorem sub_agg (t : Sub) : AV.agg (List.take 7 (av t).cells) = av t := by
  obtain ⟨⟨n, ks⟩⟩ := t
  rw [av_Sub]; rfl
theorem l16Count_ok (s : ByteArray) (hs : s.size ≤ 1048576) : ∀ t : Tr, t.ok → t.size ≤ 1048576 → CallsF Tryz.prog 58 [av (Sub.mk t), .str s] (.int .i64 (cntT s t)) := Tr.ind fun n ks ih hok hsz => by
  rw [Tr.ok] at hok
  rw [Tr.size] at hsz
  obtain ⟨⟨k3, k13, kb⟩, koks⟩ := hok
  have hlen := sizes_len ks
  refine fun_spec_l16Count rfl (by simp; exact ⟨AVal.clean _, AvPure.str _⟩) (pint _) ?_
  by_cases h3 : n.kind = 3
  · obtain rfl : ks = [] := List.length_eq_zero_iff.1 (k3 h3)
    by_cases hn : n.s = s
    · simp +contextual -dsimp (maxSteps := 2000000) only [↓SD, SU, SB, Nat.reduceAdd, Nat.reduceBEq, Nat.reduceEqDiff, Nat.reduceLeDiff, Nat.reduceLT, Nat.reduceSub, ↓reduceIte, forall_const, implies_true, ne_eq, reduceCtorEq, Int.reduceToNat, forall_eq, Int.reduceEq, Int.reduceLT, Int.reduceLE, Int.reduceNeg, Int.reduceAdd, Int.reduceSub, ir_spec_l16Count, rs_spec_l16Count, av_Sub, map_len, h3, hn]
      rw [cntT, if_pos h3, if_pos hn]; rfl
    · simp +contextual -dsimp (maxSteps := 2000000) only [↓SD, SU, SB, Nat.reduceAdd, Nat.reduceBEq, Nat.reduceEqDiff, Nat.reduceLeDiff, Nat.reduceLT, Nat.reduceSub, ↓reduceIte, forall_const, implies_true, ne_eq, reduceCtorEq, Int.reduceToNat, forall_eq, Int.reduceEq, Int.reduceLT, Int.reduceLE, Int.reduceNeg, Int.reduceAdd, Int.reduceSub, ir_spec_l16Count, rs_spec_l16Count, av_Sub, map_len, h3, hn]
      refine aLoop_of (X := Unit) (fun x => ⟨[(1, .str s), (2, .obj [.int .i64 3, .int .i64 n.pos, .int .i64 n.n, .str n.s, .sl (n.kids.map av), .sl (n.pats.map av), .sl []]), (5, .int .i64 0), (20, .int .i64 0), (21, .int .i64 0)], []⟩) (fun x => True) (fun x => 0) () trivial (by simp +contextual -dsimp (maxSteps := 2000000) only [↓SD, SU, SB, Nat.reduceAdd, Nat.reduceBEq, Nat.reduceEqDiff, Nat.reduceLeDiff, Nat.reduceLT, Nat.reduceSub, ↓reduceIte, forall_const, implies_true, ne_eq, reduceCtorEq, Int.reduceToNat, forall_eq]) trivial ?_
      rintro _ _
      simp +contextual -dsimp (maxSteps := 2000000) only [↓SD, SU, SB, Nat.reduceAdd, Nat.reduceBEq, Nat.reduceEqDiff, Nat.reduceLeDiff, Nat.reduceLT, Nat.reduceSub, ↓reduceIte, forall_const, implies_true, ne_eq, reduceCtorEq, Int.reduceToNat, forall_eq, Int.reduceEq, Int.reduceLT, Int.reduceLE, Int.reduceNeg, Int.reduceAdd, Int.reduceSub]
      rw [cntT, if_pos h3, if_neg hn]; rfl
  · simp +contextual -dsimp (maxSteps := 2000000) only [↓SD, SU, SB, Nat.reduceAdd, Nat.reduceBEq, Nat.reduceEqDiff, Nat.reduceLeDiff, Nat.reduceLT, Nat.reduceSub, ↓reduceIte, forall_const, implies_true, ne_eq, reduceCtorEq, Int.reduceToNat, forall_eq, Int.reduceEq, Int.reduceLT, Int.reduceLE, Int.reduceNeg, Int.reduceAdd, Int.reduceSub, ir_spec_l16Count, rs_spec_l16Count, av_Sub, map_len, h3]
    refine aLoop_of (X := Nat × Nat) (fun x => ⟨[(1, .str s), (2, .obj [.int .i64 n.kind, .int .i64 n.pos, .int .i64 n.n, .str n.s, .sl (n.kids.map av), .sl (n.pats.map av), .sl ((ks.map Sub.mk).map av)]), (5, .int .i64 x.2), (20, .int .i64 ks.length), (21, .int .i64 x.1)], []⟩) (fun x => x.1 ≤ ks.length ∧ cntT s (.mk n ks) = x.2 + cntTs s n x.1 (ks.drop x.1)) (fun x => ks.length - x.1) (0, 0) ⟨Nat.zero_le _, by rw [cntT, if_neg h3, List.drop_zero]; simp⟩ (by simp +contextual -dsimp (maxSteps := 2000000) only [↓SD, SU, SB, Nat.reduceAdd, Nat.reduceBEq, Nat.reduceEqDiff, Nat.reduceLeDiff, Nat.reduceLT, Nat.reduceSub, ↓reduceIte, forall_const, implies_true, ne_eq, reduceCtorEq, Int.reduceToNat, forall_eq, map_len]) trivial ?_
    rintro ⟨k, c⟩ ⟨hk, hc⟩
    simp only at hk hc
    have hle := cntT_le s (.mk n ks)
    rw [Tr.size] at hle
    by_cases hlt : k < ks.length
    · have hlt' : k < (ks.map Sub.mk).length := by simpa using hlt
      have e := getD_map av (ks.map Sub.mk) k .top hlt'
      rw [List.getElem_map] at e
      have hm := List.getElem_mem hlt
      have hsm := sizes_mem hm
      have C1 := l16Bound_ok n k s kb (by omega) (fun h => by have := k13 h; omega)
      have C2 := ih ks[k] hm (oks_mem koks hm) (by omega)
      rw [List.drop_eq_getElem_cons hlt, cntTs] at hc
      rw [av_Node] at C1
      cases hb : boundB n k s with
      | true =>
        rw [hb] at C1 hc
        rw [if_pos rfl] at hc
        generalize ks[k] = t at *
        simp +contextual -dsimp (maxSteps := 2000000) only [↓SD, SU, SB, Nat.reduceAdd, Nat.reduceBEq, Nat.reduceEqDiff, Nat.reduceLeDiff, Nat.reduceLT, Nat.reduceSub, ↓reduceIte, forall_const, implies_true, ne_eq, reduceCtorEq, Int.reduceToNat, forall_eq, map_len, hlt, e]
        refine aCallK_of _ C1 ?_
        simp +contextual -dsimp (maxSteps := 2000000) only [↓SD, SU, SB, Nat.reduceAdd, Nat.reduceBEq, Nat.reduceEqDiff, Nat.reduceLeDiff, Nat.reduceLT, Nat.reduceSub, ↓reduceIte, forall_const, implies_true, ne_eq, reduceCtorEq, Int.reduceToNat, forall_eq]
        refine ⟨by omega, Goes.le ⟨(k + 1, c), ⟨⟨hlt, by simp only; omega⟩, (by first | omega | (simp only; omega))⟩, rfl⟩ (by simp +contextual -dsimp (maxSteps := 2000000) only [↓SD, SU, SB, Nat.reduceAdd, Nat.reduceBEq, Nat.reduceEqDiff, Nat.reduceLeDiff, Nat.reduceLT, Nat.reduceSub, ↓reduceIte, forall_const, implies_true, ne_eq, reduceCtorEq, Int.reduceToNat, forall_eq, Int.natCast_add]) trivial⟩
      | false =>
        rw [hb] at C1 hc
        rw [if_neg Bool.false_ne_true] at hc
        generalize ks[k] = t at *
        simp +contextual -dsimp (maxSteps := 2000000) only [↓SD, SU, SB, Nat.reduceAdd, Nat.reduceBEq, Nat.reduceEqDiff, Nat.reduceLeDiff, Nat.reduceLT, Nat.reduceSub, ↓reduceIte, forall_const, implies_true, ne_eq, reduceCtorEq, Int.reduceToNat, forall_eq, map_len, hlt, e, sub_len]
        refine aCallK_of _ C1 ?_
        simp +contextual -dsimp (maxSteps := 2000000) only [↓SD, SU, SB, Nat.reduceAdd, Nat.reduceBEq, Nat.reduceEqDiff, Nat.reduceLeDiff, Nat.reduceLT, Nat.reduceSub, ↓reduceIte, forall_const, implies_true, ne_eq, reduceCtorEq, Int.reduceToNat, forall_eq, map_len, hlt, e, sub_len, sub_agg]
        refine aCallK_of _ C2 ?_
        simp +contextual -dsimp (maxSteps := 2000000) only [↓SD, SU, SB, Nat.reduceAdd, Nat.reduceBEq, Nat.reduceEqDiff, Nat.reduceLeDiff, Nat.reduceLT, Nat.reduceSub, ↓reduceIte, forall_const, implies_true, ne_eq, reduceCtorEq, Int.reduceToNat, forall_eq]
        refine ⟨by omega, by omega, Goes.le ⟨(k + 1, c + cntT s t), ⟨⟨hlt, by simp only; omega⟩, (by first | omega | (simp only; omega))⟩, rfl⟩ (by simp +contextual -dsimp (maxSteps := 2000000) only [↓SD, SU, SB, Nat.reduceAdd, Nat.reduceBEq, Nat.reduceEqDiff, Nat.reduceLeDiff, Nat.reduceLT, Nat.reduceSub, ↓reduceIte, forall_const, implies_true, ne_eq, reduceCtorEq, Int.reduceToNat, forall_eq, Int.natCast_add]) trivial⟩
    · obtain rfl : k = ks.length := by omega
      rw [List.drop_length, cntTs] at hc
      simp +contextual -dsimp (maxSteps := 2000000) only [↓SD, SU, SB, Nat.reduceAdd, Nat.reduceBEq, Nat.reduceEqDiff, Nat.reduceLeDiff, Nat.reduceLT, Nat.reduceSub, ↓reduceIte, forall_const, implies_true, ne_eq, reduceCtorEq, Int.reduceToNat, forall_eq, map_len, Nat.lt_irrefl]
      rw [hc]; simp
end Go.Proofs.YtpomnlejlgojaaaGreat
