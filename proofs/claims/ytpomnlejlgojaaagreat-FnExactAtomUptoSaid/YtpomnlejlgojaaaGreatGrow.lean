/-
  COPIES OF PATTERNS, AND THE TREES, of the program, by abstract texts. Conditions: none.
-/
import Derived.Test.YtpomnlejlgojaaaGreatOccB
set_option linter.unusedVariables false
set_option linter.unusedSimpArgs false
set_option maxRecDepth 100000
namespace Go.Proofs.YtpomnlejlgojaaaGreat
open Go.RowKit Go.Proofs.YtpomnlejlgojaaaGreat.Av Go.Proofs.YtpomnlejlgojaaaGreat.Ml
open Go.Proofs.YtpomnlejlgojaaaGreat.Av.AVal (av)

def ClonePost (l : List PNode) (r : AV) (hp' : Hp) : Prop := ∃ v, r = .row 8 v l.length ∧ hp' = [(8, ⟨v, false, 70, 4, l.map av⟩)]
theorem ClonePNode_ok (a : PNode) (l : List PNode) (hl : l.length < 1048576) : CallsH Tryz.prog 213 [.sl ((a :: l).map av)] [] (ClonePost (a :: l)) := by
  refine funH_slices_Clone_impl_PNode_impl_PNode rfl ?_
  simp +contextual -dsimp (maxSteps := 2000000) only [↓SD, SU, SB, Nat.reduceAdd, Nat.reduceBEq, Nat.reduceEqDiff, Nat.reduceLeDiff, Nat.reduceLT, Nat.reduceSub, ↓reduceIte, forall_const, implies_true, ne_eq, reduceCtorEq, Int.reduceToNat, forall_eq, ir_slices_Clone_impl_PNode_impl_PNode, rs_slices_Clone_impl_PNode_impl_PNode, map_len]
  intro v
  refine ⟨⟨?_, by omega, by unfold maxLen; omega⟩, fun u => ?_⟩
  · rintro y (rfl | hy)
    · rw [AVal.nop]; exact AVal.len a
    · rw [map_nop] at hy
      obtain ⟨x, _, rfl⟩ := List.mem_map.1 hy
      exact AVal.len x
  · rw [AVal.nop, map_nop]
    refine Goes.post [(8, ⟨u, false, 70, 4, (a :: l).map av⟩)] ?_
    simp +contextual -dsimp (maxSteps := 2000000) only [↓SD, SU, SB, Nat.reduceAdd, Nat.reduceBEq, Nat.reduceEqDiff, Nat.reduceLeDiff, Nat.reduceLT, Nat.reduceSub, ↓reduceIte, forall_const, implies_true, ne_eq, reduceCtorEq, Int.reduceToNat, forall_eq]
    exact ⟨u, rfl, rfl⟩
def CloneIPost (l : List Int) (r : AV) (hp' : Hp) : Prop := r = .sl (l.map av) ∨ (r = .nils ∧ AV.sl (l.map av) = AV.sl [])
theorem CloneInt_ok (l : List Int) (hl : l.length ≤ 1048576) : CallsF Tryz.prog 214 [.sl (l.map av)] (.sl (l.map av)) := by
  refine callsF_of_H (Post := CloneIPost l) (funH_slices_Clone_int_int rfl ?_) (by simp; exact lav_clean l) (lav_clean l) (fun r hp' h => by exact h)
  simp +contextual -dsimp (maxSteps := 2000000) only [↓SD, SU, SB, Nat.reduceAdd, Nat.reduceBEq, Nat.reduceEqDiff, Nat.reduceLeDiff, Nat.reduceLT, Nat.reduceSub, ↓reduceIte, forall_const, implies_true, ne_eq, reduceCtorEq, Int.reduceToNat, forall_eq, ir_slices_Clone_int_int, rs_slices_Clone_int_int, map_len]
  refine ⟨fun h => ?_, fun v => ⟨⟨?_, by omega, by unfold maxLen; omega⟩, fun u => ?_⟩⟩
  · refine Goes.post [] ?_
    simp +contextual -dsimp (maxSteps := 2000000) only [↓SD, SU, SB, Nat.reduceAdd, Nat.reduceBEq, Nat.reduceEqDiff, Nat.reduceLeDiff, Nat.reduceLT, Nat.reduceSub, ↓reduceIte, forall_const, implies_true, ne_eq, reduceCtorEq, Int.reduceToNat, forall_eq]
    exact .inr ⟨rfl, by rw [h]⟩
  · rintro y hy
    rw [map_nop] at hy
    obtain ⟨x, _, rfl⟩ := List.mem_map.1 hy
    exact AVal.len x
  · rw [map_nop]
    refine Goes.post [] ?_
    simp +contextual -dsimp (maxSteps := 2000000) only [↓SD, SU, SB, Nat.reduceAdd, Nat.reduceBEq, Nat.reduceEqDiff, Nat.reduceLeDiff, Nat.reduceLT, Nat.reduceSub, ↓reduceIte, forall_const, implies_true, ne_eq, reduceCtorEq, Int.reduceToNat, forall_eq, map_nop, map_len, take_map]
    exact .inl rfl

theorem ClonePNode_ok' (l : List PNode) (h : l ≠ []) (hl : l.length ≤ 1048576) : CallsH Tryz.prog 213 [.sl (l.map av)] [] (ClonePost l) := by
  rcases l with _ | ⟨a, l⟩
  · exact absurd rfl h
  · exact ClonePNode_ok a l (by simp at hl; omega)
theorem copyPat_ok (q : Pat) (hq : q.nodes ≠ []) (hx : Bulk.bulk q ≤ 1048576) : CallsF Tryz.prog 160 [av q] (av q) := by
  obtain ⟨l⟩ := q
  have hl := bulk_length l
  have hb : Bulk.bulk l + 1 ≤ 1048576 := hx
  refine fun_impl_copyPat rfl (by simp; exact AVal.clean _) (AVal.clean _) ?_
  have C := ClonePNode_ok' l hq (by omega)
  simp +contextual -dsimp (maxSteps := 2000000) only [↓SD, SU, SB, Nat.reduceAdd, Nat.reduceBEq, Nat.reduceEqDiff, Nat.reduceLeDiff, Nat.reduceLT, Nat.reduceSub, ↓reduceIte, forall_const, implies_true, ne_eq, reduceCtorEq, Int.reduceToNat, forall_eq, ir_impl_copyPat, rs_impl_copyPat, av_Pat, map_len]
  intro v
  refine aCallH_of [] C (by simp +contextual -dsimp (maxSteps := 2000000) only [↓SD, SU, SB, Nat.reduceAdd, Nat.reduceBEq, Nat.reduceEqDiff, Nat.reduceLeDiff, Nat.reduceLT, Nat.reduceSub, ↓reduceIte, forall_const, implies_true, ne_eq, reduceCtorEq, Int.reduceToNat, forall_eq]) ?_
  rintro r hp' ⟨u, rfl, rfl⟩
  simp +contextual -dsimp (maxSteps := 2000000) only [↓SD, SU, SB, Nat.reduceAdd, Nat.reduceBEq, Nat.reduceEqDiff, Nat.reduceLeDiff, Nat.reduceLT, Nat.reduceSub, ↓reduceIte, forall_const, implies_true, ne_eq, reduceCtorEq, Int.reduceToNat, forall_eq, map_len]
  intro v3
  refine aLoop_of (X := Nat) (fun k => ⟨[(2, .ptr 2 v 0 0), (3, .ptr 3 v3 0 0), (11, .row 8 u l.length), (12, .int .i64 l.length), (13, .int .i64 k)], [(2, ⟨v, false, 68, 1, [.agg [.nils]]⟩), (3, ⟨v3, false, 68, 1, [.agg [.row 8 u l.length]]⟩), (8, ⟨u, false, 70, 4, l.map av⟩)]⟩) (fun k => k ≤ l.length) (fun k => l.length - k) 0 (Nat.zero_le _) (by simp +contextual -dsimp (maxSteps := 2000000) only [↓SD, SU, SB, Nat.reduceAdd, Nat.reduceBEq, Nat.reduceEqDiff, Nat.reduceLeDiff, Nat.reduceLT, Nat.reduceSub, ↓reduceIte, forall_const, implies_true, ne_eq, reduceCtorEq, Int.reduceToNat, forall_eq]) (by simp +contextual -dsimp (maxSteps := 2000000) only [↓SD, SU, SB, Nat.reduceAdd, Nat.reduceBEq, Nat.reduceEqDiff, Nat.reduceLeDiff, Nat.reduceLT, Nat.reduceSub, ↓reduceIte, forall_const, implies_true, ne_eq, reduceCtorEq, Int.reduceToNat, forall_eq]) ?_
  rintro k hk
  by_cases hlt : k < l.length
  · have e := getD_map av l k .top hlt
    have hm := bulk_mem (List.getElem_mem hlt)
    have hset : (l.map av).set k (av l[k]) = l.map av := by
      apply List.ext_getElem?
      intro i
      by_cases h : i = k
      · subst h; simp [hlt]
      · simp [List.getElem?_set, Ne.symm h]
    have hb1 : Bulk.bulk l[k] = Bulk.bulk l[k].kind + Bulk.bulk l[k].n + Bulk.bulk l[k].s + Bulk.bulk l[k].kids + 1 := rfl
    have hl1 := bulk_length l[k].kids
    have CI := CloneInt_ok l[k].kids (by omega)
    generalize l[k] = a at *
    rw [av_PNode] at hset
    simp +contextual -dsimp (maxSteps := 2000000) only [↓SD, SU, SB, Nat.reduceAdd, Nat.reduceBEq, Nat.reduceEqDiff, Nat.reduceLeDiff, Nat.reduceLT, Nat.reduceSub, ↓reduceIte, forall_const, implies_true, ne_eq, reduceCtorEq, Int.reduceToNat, forall_eq, map_len, hlt, e, av_PNode]
    intro w5
    refine aCallK_of _ CI ?_
    simp +contextual -dsimp (maxSteps := 2000000) only [↓SD, SU, SB, Nat.reduceAdd, Nat.reduceBEq, Nat.reduceEqDiff, Nat.reduceLeDiff, Nat.reduceLT, Nat.reduceSub, ↓reduceIte, forall_const, implies_true, ne_eq, reduceCtorEq, Int.reduceToNat, forall_eq, map_len, hlt, e, av_PNode, hset]
    exact ⟨by omega, Goes.le ⟨k + 1, ⟨hlt, (by first | omega | (simp only; omega))⟩, rfl⟩ (by simp +contextual -dsimp (maxSteps := 2000000) only [↓SD, SU, SB, Nat.reduceAdd, Nat.reduceBEq, Nat.reduceEqDiff, Nat.reduceLeDiff, Nat.reduceLT, Nat.reduceSub, ↓reduceIte, forall_const, implies_true, ne_eq, reduceCtorEq, Int.reduceToNat, forall_eq, Int.natCast_add]) (by simp +contextual -dsimp (maxSteps := 2000000) only [↓SD, SU, SB, Nat.reduceAdd, Nat.reduceBEq, Nat.reduceEqDiff, Nat.reduceLeDiff, Nat.reduceLT, Nat.reduceSub, ↓reduceIte, forall_const, implies_true, ne_eq, reduceCtorEq, Int.reduceToNat, forall_eq])⟩
  · obtain rfl : k = l.length := by omega
    simp +contextual -dsimp (maxSteps := 2000000) only [↓SD, SU, SB, Nat.reduceAdd, Nat.reduceBEq, Nat.reduceEqDiff, Nat.reduceLeDiff, Nat.reduceLT, Nat.reduceSub, ↓reduceIte, forall_const, implies_true, ne_eq, reduceCtorEq, Int.reduceToNat, forall_eq, map_len, Nat.lt_irrefl, map_nop, List.take_length, take_map]

theorem copyPats_ok (l : List Pat) (hq : ∀ q ∈ l, q.nodes ≠ []) (hx : Bulk.bulk l ≤ 1048576) : CallsF Tryz.prog 92 [.sl (l.map av)] (.sl (l.map av)) := by
  have hl := bulk_length l
  refine fun_impl_copyPats rfl (by simp; exact lav_clean l) (lav_clean l) ?_
  simp +contextual -dsimp (maxSteps := 2000000) only [↓SD, SU, SB, Nat.reduceAdd, Nat.reduceBEq, Nat.reduceEqDiff, Nat.reduceLeDiff, Nat.reduceLT, Nat.reduceSub, ↓reduceIte, forall_const, implies_true, ne_eq, reduceCtorEq, Int.reduceToNat, forall_eq, ir_impl_copyPats, rs_impl_copyPats, map_len]
  intro v
  refine aLoop_of (X := Nat × Nat) (fun x => ⟨[(3, .row 6 x.2 x.1), (7, .sl (l.map av)), (8, .int .i64 l.length), (9, .int .i64 x.1)], [(6, ⟨x.2, false, 68, 1, (l.take x.1).map av⟩)]⟩) (fun x => x.1 ≤ l.length) (fun x => l.length - x.1) (0, v) (Nat.zero_le _) (by simp +contextual -dsimp (maxSteps := 2000000) only [↓SD, SU, SB, Nat.reduceAdd, Nat.reduceBEq, Nat.reduceEqDiff, Nat.reduceLeDiff, Nat.reduceLT, Nat.reduceSub, ↓reduceIte, forall_const, implies_true, ne_eq, reduceCtorEq, Int.reduceToNat, forall_eq]) (by simp +contextual -dsimp (maxSteps := 2000000) only [↓SD, SU, SB, Nat.reduceAdd, Nat.reduceBEq, Nat.reduceEqDiff, Nat.reduceLeDiff, Nat.reduceLT, Nat.reduceSub, ↓reduceIte, forall_const, implies_true, ne_eq, reduceCtorEq, Int.reduceToNat, forall_eq]) ?_
  rintro ⟨k, u⟩ hk
  simp only at hk
  by_cases hlt : k < l.length
  · have e := getD_map av l k .top hlt
    have hm := bulk_mem (List.getElem_mem hlt)
    have C := copyPat_ok l[k] (hq _ (List.getElem_mem hlt)) (by omega)
    have ht : l.take (k + 1) = l.take k ++ [l[k]] := List.take_succ_eq_append_getElem hlt
    generalize l[k] = a at *
    rw [av_Pat] at C
    simp +contextual -dsimp (maxSteps := 2000000) only [↓SD, SU, SB, Nat.reduceAdd, Nat.reduceBEq, Nat.reduceEqDiff, Nat.reduceLeDiff, Nat.reduceLT, Nat.reduceSub, ↓reduceIte, forall_const, implies_true, ne_eq, reduceCtorEq, Int.reduceToNat, forall_eq, map_len, hlt, e, av_Pat]
    intro w5
    refine aCallK_of _ C ?_
    have hk2 : (l.take k).length = k := by simp; omega
    have ht2 : List.take k ((l.take k).map av) = (l.take k).map av := List.take_of_length_le (by simp; omega)
    simp +contextual -dsimp (maxSteps := 2000000) only [↓SD, SU, SB, Nat.reduceAdd, Nat.reduceBEq, Nat.reduceEqDiff, Nat.reduceLeDiff, Nat.reduceLT, Nat.reduceSub, ↓reduceIte, forall_const, implies_true, ne_eq, reduceCtorEq, Int.reduceToNat, forall_eq, map_len, hlt, e, av_Pat, hk2, ht2]
    refine ⟨⟨by omega, by unfold maxLen; omega⟩, fun u' => ⟨by omega, Goes.le ⟨(k + 1, u'), ⟨hlt, (by first | omega | (simp only; omega))⟩, rfl⟩ (by simp +contextual -dsimp (maxSteps := 2000000) only [↓SD, SU, SB, Nat.reduceAdd, Nat.reduceBEq, Nat.reduceEqDiff, Nat.reduceLeDiff, Nat.reduceLT, Nat.reduceSub, ↓reduceIte, forall_const, implies_true, ne_eq, reduceCtorEq, Int.reduceToNat, forall_eq, Int.natCast_add]) (by simp +contextual -dsimp (maxSteps := 2000000) only [↓SD, SU, SB, Nat.reduceAdd, Nat.reduceBEq, Nat.reduceEqDiff, Nat.reduceLeDiff, Nat.reduceLT, Nat.reduceSub, ↓reduceIte, forall_const, implies_true, ne_eq, reduceCtorEq, Int.reduceToNat, forall_eq, ht, List.map_append, av_Pat])⟩⟩
  · obtain rfl : k = l.length := by omega
    simp +contextual -dsimp (maxSteps := 2000000) only [↓SD, SU, SB, Nat.reduceAdd, Nat.reduceBEq, Nat.reduceEqDiff, Nat.reduceLeDiff, Nat.reduceLT, Nat.reduceSub, ↓reduceIte, forall_const, implies_true, ne_eq, reduceCtorEq, Int.reduceToNat, forall_eq, map_len, Nat.lt_irrefl, map_nop, List.take_length, take_map]

theorem grow_ok (l : List Node) (hk : ∀ i, i < l.length → ∀ k ∈ nkids l i, (i : Int) < k ∧ k < l.length) (hx : Bulk.bulk l ≤ 1048576) (hp : ∀ n ∈ l, ∀ q ∈ n.pats, q.nodes ≠ []) : ∀ (f i : Nat), i < l.length → l.length - i ≤ f → CallsF Tryz.prog 50 [.sl (l.map av), .int .i64 i] (av (growT l f i)) := by
  intro f
  induction f with
  | zero => intro i hi hf; omega
  | succ f ih =>
    intro i hi hf
    have hl := bulk_length l
    have e := getD_map av l i .top hi
    have em := List.getElem_mem hi
    obtain ⟨b1, b2, b3, b4⟩ := node_small hx em
    have C := copyPats_ok l[i].pats (hp _ em) b3
    have hK : nkids l i = l[i].kids := by simp [nkids, hi]
    have hg : growT l (f + 1) i = .mk l[i] (l[i].kids.map fun k => growT l f k.toNat) := by rw [growT, hK]; simp [hi]
    have hks := hk i hi
    rw [hK] at hks
    refine fun_impl_grow rfl (by simp; exact ⟨lav_clean l, pint _⟩) (AVal.clean _) ?_
    rw [hg]
    clear hg hK
    generalize l[i] = n at *
    simp +contextual -dsimp (maxSteps := 2000000) only [↓SD, SU, SB, Nat.reduceAdd, Nat.reduceBEq, Nat.reduceEqDiff, Nat.reduceLeDiff, Nat.reduceLT, Nat.reduceSub, ↓reduceIte, forall_const, implies_true, ne_eq, reduceCtorEq, Int.reduceToNat, forall_eq, ir_impl_grow, rs_impl_grow, map_len, hi, e, av_Node]
    intro w5
    refine aCallK_of _ C ?_
    simp +contextual -dsimp (maxSteps := 2000000) only [↓SD, SU, SB, Nat.reduceAdd, Nat.reduceBEq, Nat.reduceEqDiff, Nat.reduceLeDiff, Nat.reduceLT, Nat.reduceSub, ↓reduceIte, forall_const, implies_true, ne_eq, reduceCtorEq, Int.reduceToNat, forall_eq, map_len, hi, e, av_Node]
    intro w
    refine aLoop_goes (X := Nat × Nat) (fun x => ⟨[(0, .sl (l.map av)), (6, .ptr 25 w 0 0), (27, .sl (n.kids.map av)), (28, .int .i64 n.kids.length), (29, .int .i64 x.1)], [(25, ⟨w, false, 111, 6, [.agg [.int .i64 n.kind, .int .i64 n.pos, .int .i64 n.n, .str n.s, .row 42 x.2 x.1, .sl (n.pats.map av)]]⟩), (42, ⟨x.2, false, 61, 1, ((n.kids.take x.1).map fun k => growT l f k.toNat).map av⟩)]⟩) (fun x => x.1 ≤ n.kids.length) (fun x => n.kids.length - x.1) (Goes.adoptB 25 0 4 42 61 1 rfl rfl Nat.zero_lt_one rfl (by decide) (fun v => Goes.le ⟨(0, v), Nat.zero_le _, rfl⟩ (by simp +contextual -dsimp (maxSteps := 2000000) only [↓SD, SU, SB, Nat.reduceAdd, Nat.reduceBEq, Nat.reduceEqDiff, Nat.reduceLeDiff, Nat.reduceLT, Nat.reduceSub, ↓reduceIte, forall_const, implies_true, ne_eq, reduceCtorEq, Int.reduceToNat, forall_eq]) (by simp +contextual -dsimp (maxSteps := 2000000) only [↓SD, SU, SB, Nat.reduceAdd, Nat.reduceBEq, Nat.reduceEqDiff, Nat.reduceLeDiff, Nat.reduceLT, Nat.reduceSub, ↓reduceIte, forall_const, implies_true, ne_eq, reduceCtorEq, Int.reduceToNat, forall_eq]))) ?_
    rintro ⟨j, u⟩ hj
    simp only at hj
    by_cases hlt : j < n.kids.length
    · have e2 := getD_map av n.kids j .top hlt
      have hkj := hks _ (List.getElem_mem hlt)
      have ht : n.kids.take (j + 1) = n.kids.take j ++ [n.kids[j]] := List.take_succ_eq_append_getElem hlt
      obtain ⟨m, hm⟩ : ∃ m : Nat, n.kids[j] = m := ⟨n.kids[j].toNat, by omega⟩
      rw [hm] at e2 hkj ht
      have C2 := ih m (by omega) (by omega)
      have hk2 : (n.kids.take j).length = j := by simp; omega
      have ht2 : List.take j (((n.kids.take j).map fun k => growT l f k.toNat).map av) = ((n.kids.take j).map fun k => growT l f k.toNat).map av := List.take_of_length_le (by simp; omega)
      simp +contextual -dsimp (maxSteps := 2000000) only [↓SD, SU, SB, Nat.reduceAdd, Nat.reduceBEq, Nat.reduceEqDiff, Nat.reduceLeDiff, Nat.reduceLT, Nat.reduceSub, ↓reduceIte, forall_const, implies_true, ne_eq, reduceCtorEq, Int.reduceToNat, forall_eq, map_len, hlt, e2, av_int]
      refine aCallK_of _ C2 ?_
      simp +contextual -dsimp (maxSteps := 2000000) only [↓SD, SU, SB, Nat.reduceAdd, Nat.reduceBEq, Nat.reduceEqDiff, Nat.reduceLeDiff, Nat.reduceLT, Nat.reduceSub, ↓reduceIte, forall_const, implies_true, ne_eq, reduceCtorEq, Int.reduceToNat, forall_eq, map_len, hlt, tr_cells, tr_pur, tr_pur1, tr_purA, tr_one, tr_ok, hk2, ht2]
      refine ⟨⟨by omega, by unfold maxLen; omega⟩, fun u' => ⟨by omega, Goes.le ⟨(j + 1, u'), ⟨hlt, (by first | omega | (simp only; omega))⟩, rfl⟩ (by simp +contextual -dsimp (maxSteps := 2000000) only [↓SD, SU, SB, Nat.reduceAdd, Nat.reduceBEq, Nat.reduceEqDiff, Nat.reduceLeDiff, Nat.reduceLT, Nat.reduceSub, ↓reduceIte, forall_const, implies_true, ne_eq, reduceCtorEq, Int.reduceToNat, forall_eq, Int.natCast_add]) (by simp +contextual -dsimp (maxSteps := 2000000) only [↓SD, SU, SB, Nat.reduceAdd, Nat.reduceBEq, Nat.reduceEqDiff, Nat.reduceLeDiff, Nat.reduceLT, Nat.reduceSub, ↓reduceIte, forall_const, implies_true, ne_eq, reduceCtorEq, Int.reduceToNat, forall_eq, ht, List.map_append, Int.toNat_natCast])⟩⟩
    · obtain rfl : j = n.kids.length := by omega
      simp +contextual -dsimp (maxSteps := 2000000) only [↓SD, SU, SB, Nat.reduceAdd, Nat.reduceBEq, Nat.reduceEqDiff, Nat.reduceLeDiff, Nat.reduceLT, Nat.reduceSub, ↓reduceIte, forall_const, implies_true, ne_eq, reduceCtorEq, Int.reduceToNat, forall_eq, map_len, Nat.lt_irrefl, map_nop, List.take_length, take_map]
      rw [av_Tr, List.take_of_length_le (by simp)]
end Go.Proofs.YtpomnlejlgojaaaGreat
