/-
  PatOk OF THE REFERENCE, by its abstract text. Conditions: none.
-/
import Derived.Test.YtohalepkikjinaaPatOk
set_option linter.unusedVariables false
set_option linter.unusedSimpArgs false
set_option maxRecDepth 100000
namespace Go.Proofs.Ytohalepkikjinaa
open Go.RowKit Go.Proofs.Ytohalepkikjinaa.Av Go.Proofs.Ytohalepkikjinaa.Ml
open Go.Proofs.Ytohalepkikjinaa.Av.AVal (av)

theorem varsOf_any {l : List PNode} {i : Nat} (hi : i ≤ l.length) (s : ByteArray) : ((varsOf (l.take i)).any fun x => decide (s = x)) = true ↔ ∃ j, ∃ h : j < l.length, j < i ∧ l[j].kind = 2 ∧ l[j].s = s := by
  rw [List.any_eq_true]
  simp only [varsOf, List.mem_filterMap, decide_eq_true_eq]
  constructor
  · rintro ⟨x, ⟨n, hn, hx⟩, rfl⟩
    obtain ⟨j, hj, rfl⟩ := List.mem_take_iff_getElem.1 hn
    split at hx
    · rename_i hk
      exact ⟨j, by omega, by omega, hk, by simpa using hx⟩
    · cases hx
  · rintro ⟨j, hj, hji, hk, rfl⟩
    exact ⟨_, ⟨l[j], List.mem_take_iff_getElem.2 ⟨j, by omega, rfl⟩, by simp [hk]⟩, rfl⟩

/-- no node ahead of j has the name of a -/
def NoDup (l : List PNode) (a : PNode) (j : Nat) : Prop := ∀ i, ∀ h : i < l.length, i < j → ¬ (a.kind = 2 ∧ l[i].kind = 2 ∧ l[i].s = a.s)
theorem specPatOk_ok (l : List PNode) (hx : Bulk.bulk l ≤ 1048576) : CallsF Try.prog 14 [.agg [.sl (l.map av)]] (.bool (patB l)) := by
  have hl := bulk_length l
  refine fun_spec_PatOk rfl (by simp; exact AvPure.agg (by simp; exact lav_clean l)) (AvPure.bool _) ?_
  simp +contextual -dsimp (maxSteps := 2000000) only [↓SD, SU, SB, Nat.reduceAdd, Nat.reduceBEq, Nat.reduceEqDiff, Nat.reduceLeDiff, Nat.reduceLT, Nat.reduceSub, ↓reduceIte, zA, zI, zN, reduceCtorEq, Int.reduceToNat, zE, ir_spec_PatOk, rs_spec_PatOk, map_len]
  refine ⟨fun h1 => ⟨fun h2 => by rw [patB_small (by omega)], fun h2 => ?_⟩, fun h1 => by rw [patB_small (by omega)]⟩
  refine aLoop_of (X := Nat) (fun k => ⟨[(1, .obj [.sl (l.map av)]), (17, .sl (l.map av)), (18, .int .i64 l.length), (19, .int .i64 k)], []⟩) (fun k => k ≤ l.length ∧ ∀ i, i < k → patIB l i = true) (fun k => l.length - k) 0 ⟨Nat.zero_le _, fun i h => by omega⟩ (by simp +contextual -dsimp only [↓SD, SU, SB, Nat.reduceAdd, Nat.reduceBEq, Nat.reduceEqDiff, Nat.reduceLeDiff, Nat.reduceLT, Nat.reduceSub, ↓reduceIte, zA, zI, zN, reduceCtorEq, Int.reduceToNat, zE]) trivial ?_
  intro k ⟨hk, hp⟩
  by_cases hlt : k < l.length
  · have e := getD_map av l k .top hlt
    obtain ⟨s1, s2⟩ := pnode_small hx k hlt
    have C3 := l04PNode_ok l l[k] (by omega) (by omega) (by omega)
    have hI : patIB l k = (pnodeB l l[k] && !(decide (l[k].kind = 2) && (varsOf (l.take k)).any fun x => decide (l[k].s = x))) := by simp only [patIB, getD_at hlt]
    have hany := varsOf_any (l := l) (i := k) (by omega) l[k].s
    generalize l[k] = a at *
    rw [av_PNode] at C3
    simp +contextual -dsimp (maxSteps := 2000000) only [↓SD, SU, SB, Nat.reduceAdd, Nat.reduceBEq, Nat.reduceEqDiff, Nat.reduceLeDiff, Nat.reduceLT, Nat.reduceSub, ↓reduceIte, zA, zI, zN, reduceCtorEq, Int.reduceToNat, zE, map_len, hlt, e, av_PNode]
    intro w
    cases hb : pnodeB l a with
    | false =>
      rw [hb] at C3
      refine aCallK_of _ C3 ?_
      simp +contextual -dsimp (maxSteps := 2000000) only [↓SD, SU, SB, Nat.reduceAdd, Nat.reduceBEq, Nat.reduceEqDiff, Nat.reduceLeDiff, Nat.reduceLT, Nat.reduceSub, ↓reduceIte, zA, zI, zN, reduceCtorEq, Int.reduceToNat, zE]
      rw [patB_no hlt (by rw [hI, hb]; rfl)]
    | true =>
      rw [hb] at C3
      refine aCallK_of _ C3 ?_
      simp +contextual -dsimp (maxSteps := 2000000) only [↓SD, SU, SB, Nat.reduceAdd, Nat.reduceBEq, Nat.reduceEqDiff, Nat.reduceLeDiff, Nat.reduceLT, Nat.reduceSub, ↓reduceIte, zA, zI, zN, reduceCtorEq, Int.reduceToNat, zE]
      refine aLoop_of (X := Nat) (fun j => ⟨[(1, .obj [.sl (l.map av)]), (3, .int .i64 k), (4, .ptr 4 w 0 0), (5, .int .i64 j), (17, .sl (l.map av)), (18, .int .i64 l.length), (19, .int .i64 k)], [(4, ⟨w, false, 69, 4, [av a]⟩)]⟩) (fun j => j ≤ k ∧ NoDup l a j) (fun j => k - j) 0 ⟨Nat.zero_le _, fun i _ h => by omega⟩ (by simp +contextual -dsimp only [↓SD, SU, SB, Nat.reduceAdd, Nat.reduceBEq, Nat.reduceEqDiff, Nat.reduceLeDiff, Nat.reduceLT, Nat.reduceSub, ↓reduceIte, zA, zI, zN, reduceCtorEq, Int.reduceToNat, zE]) (by simp +contextual -dsimp only [↓SD, SU, SB, Nat.reduceAdd, Nat.reduceBEq, Nat.reduceEqDiff, Nat.reduceLeDiff, Nat.reduceLT, Nat.reduceSub, ↓reduceIte, zA, zI, zN, reduceCtorEq, Int.reduceToNat, zE, av_PNode]) ?_
      intro j ⟨hj, hq⟩
      by_cases hjk : j < k
      · have hjl : j < l.length := by omega
        have e2 := getD_map av l j .top hjl
        simp +contextual -dsimp (maxSteps := 2000000) only [↓SD, SU, SB, Nat.reduceAdd, Nat.reduceBEq, Nat.reduceEqDiff, Nat.reduceLeDiff, Nat.reduceLT, Nat.reduceSub, ↓reduceIte, zA, zI, zN, reduceCtorEq, Int.reduceToNat, zE, map_len, hjk, hjl, e2, av_PNode]
        have hq2 : ¬ (a.kind = 2 ∧ l[j].kind = 2 ∧ l[j].s = a.s) → NoDup l a (j + 1) := fun h0 i hi hij => by
          rcases Nat.lt_succ_iff_lt_or_eq.1 hij with h1 | rfl
          · exact hq i hi h1
          · exact h0
        (repeat' (first | intro _ | refine And.intro ?_ ?_))
        all_goals first | omega | skip
        · rename_i g1 g2 g3
          have : ((varsOf (l.take k)).any fun x => decide (a.s = x)) = true := hany.2 ⟨j, hjl, hjk, g2, g3⟩
          rw [patB_no hlt (by rw [hI, hb, g1, this]; rfl)]
        · rename_i g1 g2 g3
          exact Goes.le ⟨j + 1, ⟨⟨hjk, hq2 (fun h => g3 h.2.2)⟩, (by first | omega | (simp only; omega))⟩, rfl⟩ (by simp +contextual -dsimp only [↓SD, SU, SB, Nat.reduceAdd, Nat.reduceBEq, Nat.reduceEqDiff, Nat.reduceLeDiff, Nat.reduceLT, Nat.reduceSub, ↓reduceIte, zA, zI, zN, reduceCtorEq, Int.reduceToNat, zE, Int.natCast_add]) (by simp +contextual -dsimp only [↓SD, SU, SB, Nat.reduceAdd, Nat.reduceBEq, Nat.reduceEqDiff, Nat.reduceLeDiff, Nat.reduceLT, Nat.reduceSub, ↓reduceIte, zA, zI, zN, reduceCtorEq, Int.reduceToNat, zE, av_PNode, g1])
        · rename_i g1 g2
          exact Goes.le ⟨j + 1, ⟨⟨hjk, hq2 (fun h => g2 h.2.1)⟩, (by first | omega | (simp only; omega))⟩, rfl⟩ (by simp +contextual -dsimp only [↓SD, SU, SB, Nat.reduceAdd, Nat.reduceBEq, Nat.reduceEqDiff, Nat.reduceLeDiff, Nat.reduceLT, Nat.reduceSub, ↓reduceIte, zA, zI, zN, reduceCtorEq, Int.reduceToNat, zE, Int.natCast_add]) (by simp +contextual -dsimp only [↓SD, SU, SB, Nat.reduceAdd, Nat.reduceBEq, Nat.reduceEqDiff, Nat.reduceLeDiff, Nat.reduceLT, Nat.reduceSub, ↓reduceIte, zA, zI, zN, reduceCtorEq, Int.reduceToNat, zE, av_PNode, g1])
        · rename_i g1
          exact Goes.le ⟨j + 1, ⟨⟨hjk, hq2 (fun h => g1 h.1)⟩, (by first | omega | (simp only; omega))⟩, rfl⟩ (by simp +contextual -dsimp only [↓SD, SU, SB, Nat.reduceAdd, Nat.reduceBEq, Nat.reduceEqDiff, Nat.reduceLeDiff, Nat.reduceLT, Nat.reduceSub, ↓reduceIte, zA, zI, zN, reduceCtorEq, Int.reduceToNat, zE, Int.natCast_add]) (by simp +contextual -dsimp only [↓SD, SU, SB, Nat.reduceAdd, Nat.reduceBEq, Nat.reduceEqDiff, Nat.reduceLeDiff, Nat.reduceLT, Nat.reduceSub, ↓reduceIte, zA, zI, zN, reduceCtorEq, Int.reduceToNat, zE, av_PNode])
      · obtain rfl : j = k := by omega
        have hIk : patIB l j = true := by
          rw [hI, hb, Bool.true_and, Bool.not_eq_true', Bool.and_eq_false_iff]
          by_cases g : a.kind = 2
          · right
            rw [← Bool.not_eq_true, hany]
            rintro ⟨i, h, hi, g2, g3⟩
            exact hq i h hi ⟨g, g2, g3⟩
          · left; exact decide_eq_false g
        simp +contextual -dsimp (maxSteps := 2000000) only [↓SD, SU, SB, Nat.reduceAdd, Nat.reduceBEq, Nat.reduceEqDiff, Nat.reduceLeDiff, Nat.reduceLT, Nat.reduceSub, ↓reduceIte, zA, zI, zN, reduceCtorEq, Int.reduceToNat, zE, Nat.lt_irrefl]
        refine ⟨by omega, Goes.le ⟨j + 1, ⟨⟨hlt, fun i hi => (Nat.lt_succ_iff_lt_or_eq.1 hi).elim (hp i) (fun e => e ▸ hIk)⟩, (by first | omega | (simp only; omega))⟩, rfl⟩ (by simp +contextual -dsimp only [↓SD, SU, SB, Nat.reduceAdd, Nat.reduceBEq, Nat.reduceEqDiff, Nat.reduceLeDiff, Nat.reduceLT, Nat.reduceSub, ↓reduceIte, zA, zI, zN, reduceCtorEq, Int.reduceToNat, zE, Int.natCast_add]) trivial⟩
  · obtain rfl : k = l.length := by omega
    have C := l04PEnd_ok l hx (l.length + 1) 0 (by omega) (by omega)
    simp +contextual -dsimp (maxSteps := 2000000) only [↓SD, SU, SB, Nat.reduceAdd, Nat.reduceBEq, Nat.reduceEqDiff, Nat.reduceLeDiff, Nat.reduceLT, Nat.reduceSub, ↓reduceIte, zA, zI, zN, reduceCtorEq, Int.reduceToNat, zE, map_len, Nat.lt_irrefl]
    refine aCallK_of _ C ?_
    simp +contextual -dsimp (maxSteps := 2000000) only [↓SD, SU, SB, Nat.reduceAdd, Nat.reduceBEq, Nat.reduceEqDiff, Nat.reduceLeDiff, Nat.reduceLT, Nat.reduceSub, ↓reduceIte, zA, zI, zN, reduceCtorEq, Int.reduceToNat, zE, map_len]
    congr 1
    cases ht : treeB (pkids l) l.length with
    | true =>
      rw [patB_of (by omega) (by omega) ht hp]
      unfold treeB at ht
      rw [of_decide_eq_true ht]; simp [endI]
    | false =>
      rw [patB_tree ht]
      unfold treeB at ht
      cases ho : endF (pkids l) l.length (l.length + 1) 0 with
      | none => simp [endI]
      | some m =>
        rw [ho] at ht
        have hne : m ≠ l.length := fun e => by simp [e] at ht
        exact decide_eq_false (by simp only [endI]; omega)

end Go.Proofs.Ytohalepkikjinaa
