/-
  Occurs, FreeIn, Atom OF THE PROGRAM, by abstract texts. Conditions: none.
-/
import Derived.Test.YtpomnlejlgojaaaGreatGrow
set_option linter.unusedVariables false
set_option linter.unusedSimpArgs false
set_option maxRecDepth 100000
namespace Go.Proofs.YtpomnlejlgojaaaGreat
open Go.RowKit Go.Proofs.YtpomnlejlgojaaaGreat.Av Go.Proofs.YtpomnlejlgojaaaGreat.Ml
open Go.Proofs.YtpomnlejlgojaaaGreat.Av.AVal (av)

theorem node_T {nm : Node → Bool} {l : List Node} {n : Node} (h : nodeB nm l n = true) (hb : Bulk.bulk n ≤ 1048576) : nodeT n n.kids.length := by
  unfold nodeB at h
  split at h
  · cases h
  rename_i h0
  refine ⟨fun hk => ?_, fun hk => ?_, hb⟩
  · have ha : arityK n.kind = 0 := by rw [hk]; rfl
    rw [ha] at h0
    omega
  · simp [hk] at h
    omega
theorem prog_facts {p : Program} (hx : Bulk.bulk p ≤ 1048576) (hb : progB p = true) : 1 ≤ p.nodes.length ∧ p.nodes.length ≤ 600 ∧ treeB (nkids p.nodes) p.nodes.length = true ∧ (∀ n ∈ p.nodes, nodeT n n.kids.length) ∧ (∀ n ∈ p.nodes, ∀ q ∈ n.pats, q.nodes ≠ []) := by
  obtain ⟨q1, q2, q3, q4⟩ := prog_small hx
  simp only [progB, shapeP, Bool.and_eq_true, decide_eq_true_eq, List.all_eq_true] at hb
  obtain ⟨⟨⟨⟨⟨h1, h2⟩, h3⟩, h4⟩, h5⟩, h6⟩ := hb
  refine ⟨by omega, by omega, h3, fun n hn => node_T (h4 n hn) ?_, fun n hn q hq => ?_⟩
  · have := bulk_mem hn; omega
  · have := h6 n hn q hq
    intro h
    rw [h] at this
    simp [patB] at this

/-- whether a place is one of a right program -/
def placeB (p : Program) (i : Int) : Bool := progB p && (decide (0 ≤ i) && decide (i < p.nodes.length))
def occI (p : Program) (i : Int) (s : ByteArray) : Int := if placeB p i then (cntT s (treeAt p.nodes i.toNat) : Int) else -1
theorem implOccurs_ok (p : Program) (i : Int) (s : ByteArray) (hx : Bulk.bulk p ≤ 1048576) (hs : s.size ≤ 1048576) : CallsF Tryz.prog 23 [av p, .int .i64 i, .str s] (.int .i64 (occI p i s)) := by
  obtain ⟨q1, q2, q3, q4⟩ := prog_small hx
  refine fun_impl_Occurs rfl (by simp; exact ⟨AVal.clean p, pint _, AvPure.str _⟩) (pint _) ?_
  have C := implProgramOk_ok p hx
  rw [av_Program] at C
  simp +contextual -dsimp (maxSteps := 2000000) only [↓SD, SU, SB, Nat.reduceAdd, Nat.reduceBEq, Nat.reduceEqDiff, Nat.reduceLeDiff, Nat.reduceLT, Nat.reduceSub, ↓reduceIte, forall_const, implies_true, ne_eq, reduceCtorEq, Int.reduceToNat, forall_eq, ir_impl_Occurs, rs_impl_Occurs, av_Program, map_len]
  cases hb : progB p with
  | false =>
    rw [hb] at C
    refine aCallK_of _ C ?_
    simp +contextual -dsimp (maxSteps := 2000000) only [↓SD, SU, SB, Nat.reduceAdd, Nat.reduceBEq, Nat.reduceEqDiff, Nat.reduceLeDiff, Nat.reduceLT, Nat.reduceSub, ↓reduceIte, forall_const, implies_true, ne_eq, reduceCtorEq, Int.reduceToNat, forall_eq]
    simp [occI, placeB, hb]
  | true =>
    rw [hb] at C
    obtain ⟨f1, f2, f3, f4, f5⟩ := prog_facts hx hb
    refine aCallK_of _ C ?_
    simp +contextual -dsimp (maxSteps := 2000000) only [↓SD, SU, SB, Nat.reduceAdd, Nat.reduceBEq, Nat.reduceEqDiff, Nat.reduceLeDiff, Nat.reduceLT, Nat.reduceSub, ↓reduceIte, forall_const, implies_true, ne_eq, reduceCtorEq, Int.reduceToNat, forall_eq, map_len]
    refine ⟨by omega, ?_⟩
    have W := within_ok i 0 ((p.nodes.length : Int) - 1)
    cases hw : (decide (0 ≤ i) && decide (i ≤ (p.nodes.length : Int) - 1)) with
    | false =>
      rw [hw] at W
      refine aCallK_of _ W ?_
      simp +contextual -dsimp (maxSteps := 2000000) only [↓SD, SU, SB, Nat.reduceAdd, Nat.reduceBEq, Nat.reduceEqDiff, Nat.reduceLeDiff, Nat.reduceLT, Nat.reduceSub, ↓reduceIte, forall_const, implies_true, ne_eq, reduceCtorEq, Int.reduceToNat, forall_eq, map_len]
      have : placeB p i = false := by
        simp only [placeB, hb, Bool.true_and, Bool.and_eq_false_iff, decide_eq_false_iff_not] at hw ⊢
        omega
      simp [occI, this]
    | true =>
      rw [hw] at W
      simp only [Bool.and_eq_true, decide_eq_true_eq] at hw
      have hp : placeB p i = true := by simp only [placeB, hb, Bool.and_eq_true, decide_eq_true_eq]; exact ⟨trivial, by omega, by omega⟩
      obtain ⟨j, rfl⟩ : ∃ j : Nat, i = j := ⟨i.toNat, by omega⟩
      have hk : ∀ i, i < p.nodes.length → ∀ k ∈ nkids p.nodes i, (i : Int) < k ∧ k < p.nodes.length := fun i hi k hk => tree_in f3 hi hk
      have C2 := grow_ok p.nodes hk q2 f5 p.nodes.length j (by omega) (by omega)
      have C3 := count_ok s hs (growT p.nodes p.nodes.length j) (treeAt_ok hk f4 _ _ (by omega) (by omega)) (by have := treeAt_size f3 (i := j) (by omega); unfold treeAt at this; omega)
      have ho : occI p j s = cntT s (growT p.nodes p.nodes.length j) := by simp [occI, hp, treeAt]
      rw [ho]
      generalize growT p.nodes p.nodes.length j = t at *
      refine aCallK_of _ W ?_
      simp +contextual -dsimp (maxSteps := 2000000) only [↓SD, SU, SB, Nat.reduceAdd, Nat.reduceBEq, Nat.reduceEqDiff, Nat.reduceLeDiff, Nat.reduceLT, Nat.reduceSub, ↓reduceIte, forall_const, implies_true, ne_eq, reduceCtorEq, Int.reduceToNat, forall_eq, map_len]
      refine aCallK_of _ C2 ?_
      simp +contextual -dsimp (maxSteps := 2000000) only [↓SD, SU, SB, Nat.reduceAdd, Nat.reduceBEq, Nat.reduceEqDiff, Nat.reduceLeDiff, Nat.reduceLT, Nat.reduceSub, ↓reduceIte, forall_const, implies_true, ne_eq, reduceCtorEq, Int.reduceToNat, forall_eq, tr_purA]
      refine aCallK_of _ C3 ?_
      simp +contextual -dsimp (maxSteps := 2000000) only [↓SD, SU, SB, Nat.reduceAdd, Nat.reduceBEq, Nat.reduceEqDiff, Nat.reduceLeDiff, Nat.reduceLT, Nat.reduceSub, ↓reduceIte, forall_const, implies_true, ne_eq, reduceCtorEq, Int.reduceToNat, forall_eq]

theorem av_prog_load (p : Program) : av p = .agg [.sl (p.types.map av), .sl (p.nodes.map av)] := av_Program p
theorem implFreeIn_ok (p : Program) (i : Int) (s : ByteArray) (hx : Bulk.bulk p ≤ 1048576) (hs : s.size ≤ 1048576) : CallsF Tryz.prog 21 [av p, .int .i64 i, .str s] (.bool (decide (0 < occI p i s))) := by
  refine fun_impl_FreeIn rfl (by simp; exact ⟨AVal.clean p, pint _, AvPure.str _⟩) (AvPure.bool _) ?_
  have C := implOccurs_ok p i s hx hs
  rw [av_Program] at C
  simp +contextual -dsimp (maxSteps := 2000000) only [↓SD, SU, SB, Nat.reduceAdd, Nat.reduceBEq, Nat.reduceEqDiff, Nat.reduceLeDiff, Nat.reduceLT, Nat.reduceSub, ↓reduceIte, forall_const, implies_true, ne_eq, reduceCtorEq, Int.reduceToNat, forall_eq, ir_impl_FreeIn, rs_impl_FreeIn, av_Program, map_len]
  refine aCallK_of _ C ?_
  simp +contextual -dsimp (maxSteps := 2000000) only [↓SD, SU, SB, Nat.reduceAdd, Nat.reduceBEq, Nat.reduceEqDiff, Nat.reduceLeDiff, Nat.reduceLT, Nat.reduceSub, ↓reduceIte, forall_const, implies_true, ne_eq, reduceCtorEq, Int.reduceToNat, forall_eq]
/-- the node of a place -/
def atomB (p : Program) (i : Int) : Bool := placeB p i && plainB (p.nodes.getD i.toNat default) (p.nodes.getD i.toNat default).kids.length
theorem implAtom_ok (p : Program) (i : Int) (hx : Bulk.bulk p ≤ 1048576) : CallsF Tryz.prog 16 [av p, .int .i64 i] (.bool (atomB p i)) := by
  obtain ⟨q1, q2, q3, q4⟩ := prog_small hx
  refine fun_impl_Atom rfl (by simp; exact ⟨AVal.clean p, pint _⟩) (AvPure.bool _) ?_
  have C := implProgramOk_ok p hx
  rw [av_Program] at C
  simp +contextual -dsimp (maxSteps := 2000000) only [↓SD, SU, SB, Nat.reduceAdd, Nat.reduceBEq, Nat.reduceEqDiff, Nat.reduceLeDiff, Nat.reduceLT, Nat.reduceSub, ↓reduceIte, forall_const, implies_true, ne_eq, reduceCtorEq, Int.reduceToNat, forall_eq, ir_impl_Atom, rs_impl_Atom, av_Program, map_len]
  cases hb : progB p with
  | false =>
    rw [hb] at C
    refine aCallK_of _ C ?_
    simp +contextual -dsimp (maxSteps := 2000000) only [↓SD, SU, SB, Nat.reduceAdd, Nat.reduceBEq, Nat.reduceEqDiff, Nat.reduceLeDiff, Nat.reduceLT, Nat.reduceSub, ↓reduceIte, forall_const, implies_true, ne_eq, reduceCtorEq, Int.reduceToNat, forall_eq]
    simp [atomB, placeB, hb]
  | true =>
    rw [hb] at C
    obtain ⟨f1, f2, f3, f4, f5⟩ := prog_facts hx hb
    refine aCallK_of _ C ?_
    simp +contextual -dsimp (maxSteps := 2000000) only [↓SD, SU, SB, Nat.reduceAdd, Nat.reduceBEq, Nat.reduceEqDiff, Nat.reduceLeDiff, Nat.reduceLT, Nat.reduceSub, ↓reduceIte, forall_const, implies_true, ne_eq, reduceCtorEq, Int.reduceToNat, forall_eq, map_len]
    refine ⟨by omega, ?_⟩
    have W := within_ok i 0 ((p.nodes.length : Int) - 1)
    cases hw : (decide (0 ≤ i) && decide (i ≤ (p.nodes.length : Int) - 1)) with
    | false =>
      rw [hw] at W
      refine aCallK_of _ W ?_
      simp +contextual -dsimp (maxSteps := 2000000) only [↓SD, SU, SB, Nat.reduceAdd, Nat.reduceBEq, Nat.reduceEqDiff, Nat.reduceLeDiff, Nat.reduceLT, Nat.reduceSub, ↓reduceIte, forall_const, implies_true, ne_eq, reduceCtorEq, Int.reduceToNat, forall_eq, map_len]
      have : placeB p i = false := by
        simp only [placeB, hb, Bool.true_and, Bool.and_eq_false_iff, decide_eq_false_iff_not] at hw ⊢
        omega
      simp [atomB, this]
    | true =>
      rw [hw] at W
      simp only [Bool.and_eq_true, decide_eq_true_eq] at hw
      have hp : placeB p i = true := by simp only [placeB, hb, Bool.and_eq_true, decide_eq_true_eq]; exact ⟨trivial, by omega, by omega⟩
      obtain ⟨j, rfl⟩ : ∃ j : Nat, i = j := ⟨i.toNat, by omega⟩
      have hk : ∀ i, i < p.nodes.length → ∀ k ∈ nkids p.nodes i, (i : Int) < k ∧ k < p.nodes.length := fun i hi k hk => tree_in f3 hi hk
      have C2 := grow_ok p.nodes hk q2 f5 p.nodes.length j (by omega) (by omega)
      have hm : p.nodes.getD j default ∈ p.nodes := by
        have : p.nodes.getD j default = p.nodes[j]'(by omega) := by simp [List.getD_eq_getElem?_getD, show j < p.nodes.length by omega]
        rw [this]; exact List.getElem_mem _
      obtain ⟨b1, b2, b3, b4⟩ := node_small q2 hm
      have hg := treeAt_mk hk (i := j) (by omega)
      unfold treeAt at hg
      have C3 := isPlain_ok (p.nodes.getD j default) ((nkids p.nodes j).map fun k => growT p.nodes p.nodes.length k.toNat) (by simpa [nkids] using b1)
      rw [← hg, List.length_map] at C3
      have ho : atomB p j = plainB (p.nodes.getD j default) (nkids p.nodes j).length := by simp [atomB, hp, nkids]
      rw [ho]
      generalize growT p.nodes p.nodes.length j = t at *
      refine aCallK_of _ W ?_
      simp +contextual -dsimp (maxSteps := 2000000) only [↓SD, SU, SB, Nat.reduceAdd, Nat.reduceBEq, Nat.reduceEqDiff, Nat.reduceLeDiff, Nat.reduceLT, Nat.reduceSub, ↓reduceIte, forall_const, implies_true, ne_eq, reduceCtorEq, Int.reduceToNat, forall_eq, map_len]
      refine aCallK_of _ C2 ?_
      simp +contextual -dsimp (maxSteps := 2000000) only [↓SD, SU, SB, Nat.reduceAdd, Nat.reduceBEq, Nat.reduceEqDiff, Nat.reduceLeDiff, Nat.reduceLT, Nat.reduceSub, ↓reduceIte, forall_const, implies_true, ne_eq, reduceCtorEq, Int.reduceToNat, forall_eq, tr_purA]
      refine aCallK_of _ C3 ?_
      simp +contextual -dsimp (maxSteps := 2000000) only [↓SD, SU, SB, Nat.reduceAdd, Nat.reduceBEq, Nat.reduceEqDiff, Nat.reduceLeDiff, Nat.reduceLT, Nat.reduceSub, ↓reduceIte, forall_const, implies_true, ne_eq, reduceCtorEq, Int.reduceToNat, forall_eq]
end Go.Proofs.YtpomnlejlgojaaaGreat
