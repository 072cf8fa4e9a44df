/-
  DataOk OF THE REFERENCE, by abstract texts. Conditions: none.
-/
import Derived.Test.YtfdkgbejhdmpbaaDataP
import Derived.Test.YtfdkgbejhdmpbaaWrapN
import Derived.Test.YtfdkgbejhdmpbaaGiven
set_option linter.unusedVariables false
set_option linter.unusedSimpArgs false
set_option maxRecDepth 100000
namespace Go.Proofs.Ytfdkgbejhdmpbaa
open Go.RowKit Go.Proofs.Ytfdkgbejhdmpbaa.Av Go.Proofs.Ytfdkgbejhdmpbaa.Ml
open Go.Proofs.Ytfdkgbejhdmpbaa.Av.AVal (av)

theorem l07End_ok (l : List DNode) (hx : Bulk.bulk l ≤ 1048576) : ∀ (f i : Nat), l.length - i < f → i ≤ 1048576 → CallsF Try.prog 51 [.agg [.sl (l.map av)], .int .i64 i] (.int .i64 (endI (endF (dkids l) l.length f i))) := by
  have hl := bulk_length l
  intro f
  induction f with
  | zero => intro i h; omega
  | succ f ih =>
    intro i hf hi0
    refine fun_spec_l07End rfl (by simp; exact ⟨AvPure.agg (by simp; exact lav_clean l), pint _⟩) (pint _) ?_
    by_cases hi : i < l.length
    · have e := getD_map av l i .top hi
      have hs := (dnode_small hx i hi).1
      have hK : dkids l i = l[i].kids := by rw [dkids, getD_at hi]
      have hE : endF (dkids l) l.length (f + 1) i = kidsF (endF (dkids l) l.length f) l[i].kids (i + 1) := by rw [endF, if_pos hi, hK]
      rw [hE]
      generalize l[i] = a at *
      simp +contextual -dsimp (maxSteps := 2000000) only [↓SD, SU, SB, Nat.reduceAdd, Nat.reduceBEq, Nat.reduceEqDiff, Nat.reduceLeDiff, Nat.reduceLT, Nat.reduceSub, ↓reduceIte, zA, zI, zN, reduceCtorEq, Int.reduceToNat, zE, ir_spec_l07End, rs_spec_l07End, map_len, hi, e, av_DNode, Nat.not_le]
      refine ⟨by omega, by omega, ?_⟩
      refine aLoop_of (X := Nat × Nat) (fun x => ⟨[(2, .obj [.sl (l.map av)]), (5, .int .i64 x.2), (20, .sl (a.kids.map av)), (21, .int .i64 a.kids.length), (22, .int .i64 x.1)], []⟩) (fun x => x.1 ≤ a.kids.length ∧ i < x.2 ∧ x.2 ≤ l.length ∧ kidsF (endF (dkids l) l.length f) a.kids (i + 1) = kidsF (endF (dkids l) l.length f) (a.kids.drop x.1) x.2) (fun x => a.kids.length - x.1) (0, i + 1) ⟨Nat.zero_le _, by simp, by simp only; omega, rfl⟩ (by simp +contextual -dsimp only [↓SD, SU, SB, Nat.reduceAdd, Nat.reduceBEq, Nat.reduceEqDiff, Nat.reduceLeDiff, Nat.reduceLT, Nat.reduceSub, ↓reduceIte, zA, zI, zN, reduceCtorEq, Int.reduceToNat, zE, Int.natCast_add]) trivial ?_
      rintro ⟨j, m⟩ ⟨hj, hm1, hm2, he⟩
      simp only at hj hm1 hm2 he
      by_cases hlt : j < a.kids.length
      · have e2 := getD_map av a.kids j .top hlt
        rw [List.drop_eq_getElem_cons hlt, kidsF] at he
        have C := ih m (by omega) (by omega)
        by_cases hkm : a.kids[j] = (m : Int)
        · rw [if_pos hkm] at he
          simp +contextual -dsimp (maxSteps := 2000000) only [↓SD, SU, SB, Nat.reduceAdd, Nat.reduceBEq, Nat.reduceEqDiff, Nat.reduceLeDiff, Nat.reduceLT, Nat.reduceSub, ↓reduceIte, zA, zI, zN, reduceCtorEq, Int.reduceToNat, zE, map_len, hlt, e2, av_int, hkm]
          refine aCallK_of _ C ?_
          cases hm' : endF (dkids l) l.length f m with
          | none =>
            rw [hm'] at he
            simp +contextual -dsimp (maxSteps := 2000000) only [↓SD, SU, SB, Nat.reduceAdd, Nat.reduceBEq, Nat.reduceEqDiff, Nat.reduceLeDiff, Nat.reduceLT, Nat.reduceSub, ↓reduceIte, zA, zI, zN, reduceCtorEq, Int.reduceToNat, zE, Int.reduceEq, Int.reduceLT, Int.reduceLE, Int.reduceNeg, Int.reduceAdd, Int.reduceSub, endI]
            rw [he]
          | some m' =>
            rw [hm'] at he
            have := end_le (dkids l) l.length f m m' hm'
            have hneg : ¬ ((m' : Int) < 0) := by omega
            simp +contextual -dsimp (maxSteps := 2000000) only [↓SD, SU, SB, Nat.reduceAdd, Nat.reduceBEq, Nat.reduceEqDiff, Nat.reduceLeDiff, Nat.reduceLT, Nat.reduceSub, ↓reduceIte, zA, zI, zN, reduceCtorEq, Int.reduceToNat, zE, endI, hneg]
            refine ⟨by omega, Goes.le ⟨(j + 1, m'), ⟨⟨hlt, by simp only; omega, this.2, he⟩, (by first | omega | (simp only; omega))⟩, rfl⟩ (by simp +contextual -dsimp only [↓SD, SU, SB, Nat.reduceAdd, Nat.reduceBEq, Nat.reduceEqDiff, Nat.reduceLeDiff, Nat.reduceLT, Nat.reduceSub, ↓reduceIte, zA, zI, zN, reduceCtorEq, Int.reduceToNat, zE, Int.natCast_add]) trivial⟩
        · rw [if_neg hkm] at he
          simp +contextual -dsimp (maxSteps := 2000000) only [↓SD, SU, SB, Nat.reduceAdd, Nat.reduceBEq, Nat.reduceEqDiff, Nat.reduceLeDiff, Nat.reduceLT, Nat.reduceSub, ↓reduceIte, zA, zI, zN, reduceCtorEq, Int.reduceToNat, zE, map_len, hlt, e2, av_int, hkm]
          rw [he]; rfl
      · obtain rfl : j = a.kids.length := by omega
        rw [List.drop_length, kidsF] at he
        simp +contextual -dsimp (maxSteps := 2000000) only [↓SD, SU, SB, Nat.reduceAdd, Nat.reduceBEq, Nat.reduceEqDiff, Nat.reduceLeDiff, Nat.reduceLT, Nat.reduceSub, ↓reduceIte, zA, zI, zN, reduceCtorEq, Int.reduceToNat, zE, map_len, Nat.lt_irrefl]
        rw [he]; rfl
    · have hE : endF (dkids l) l.length (f + 1) i = none := by rw [endF, if_neg hi]
      have hi' : l.length ≤ i := by omega
      simp +contextual -dsimp (maxSteps := 2000000) only [↓SD, SU, SB, Nat.reduceAdd, Nat.reduceBEq, Nat.reduceEqDiff, Nat.reduceLeDiff, Nat.reduceLT, Nat.reduceSub, ↓reduceIte, zA, zI, zN, reduceCtorEq, Int.reduceToNat, zE, ir_spec_l07End, rs_spec_l07End, map_len, hi', hE]
      rfl
theorem dataS_no {l : List DNode} {k : Nat} (h : k < l.length) (hb : dnodeB l l[k] = false) : dataB l = false := dataB_no h hb
set_option maxHeartbeats 4000000 in
theorem specDataOk_ok (l : List DNode) (hx : Bulk.bulk l ≤ 1048576) (hr : ∀ n ∈ l, -9223372036854775808 ≤ n.n ∧ n.n ≤ 9223372036854775807) : CallsF Try.prog 30 [.agg [.sl (l.map av)]] (.bool (dataB l)) := by
  have hl := bulk_length l
  refine fun_spec_DataOk rfl (by simp; exact AvPure.agg (by simp; exact lav_clean l)) (AvPure.bool _) ?_
  simp +contextual -dsimp (maxSteps := 2000000) only [↓SD, SU, SB, Nat.reduceAdd, Nat.reduceBEq, Nat.reduceEqDiff, Nat.reduceLeDiff, Nat.reduceLT, Nat.reduceSub, ↓reduceIte, zA, zI, zN, reduceCtorEq, Int.reduceToNat, zE, Int.reduceEq, Int.reduceLT, Int.reduceLE, Int.reduceNeg, Int.reduceAdd, Int.reduceSub, ir_spec_DataOk, rs_spec_DataOk, map_len]
  refine ⟨fun h1 => ⟨fun h2 => by rw [dataB_small (by omega)], fun h2 => ?_⟩, fun h1 => by rw [dataB_small (by omega)]⟩
  refine aLoop_of (X := Nat) (fun k => ⟨[(1, .obj [.sl (l.map av)]), (18, .sl (l.map av)), (19, .int .i64 l.length), (20, .int .i64 k)], []⟩) (fun k => k ≤ l.length ∧ (l.take k).all (dnodeB l) = true) (fun k => l.length - k) 0 ⟨Nat.zero_le _, rfl⟩ (by simp +contextual -dsimp only [↓SD, SU, SB, Nat.reduceAdd, Nat.reduceBEq, Nat.reduceEqDiff, Nat.reduceLeDiff, Nat.reduceLT, Nat.reduceSub, ↓reduceIte, zA, zI, zN, reduceCtorEq, Int.reduceToNat, zE]) trivial ?_
  rintro k ⟨hk, hp⟩
  by_cases hlt : k < l.length
  · have e := getD_map av l k .top hlt
    obtain ⟨s1, s2⟩ := dnode_small hx k hlt
    have hr1 := hr _ (List.getElem_mem hlt)
    have hno : dnodeB l l[k] = false → dataB l = false := dataB_no hlt
    have hyes : dnodeB l l[k] = true → (l.take (k + 1)).all (dnodeB l) = true := fun h => by rw [all_take' _ hlt hp]; exact h
    obtain ⟨D, hD⟩ : ∃ D, D = dataB l := ⟨_, rfl⟩
    rw [← hD] at hno ⊢
    clear hD hp
    generalize l[k] = a at *
    obtain ⟨kind, nn, s, kids⟩ := a
    simp only at s1 s2 hr1
    obtain ⟨m, CW, hm⟩ := wrapN_ok nn hr1
    rcases kids with _ | ⟨k0, _ | ⟨k1, _ | ⟨k2, ks⟩⟩⟩
    case cons.nil =>
      by_cases g : 0 ≤ k0 ∧ k0 < l.length
      · obtain ⟨g0, g1⟩ := g
        have g2 : k0.toNat < l.length := by omega
        have e2 := av_getD l default g2
        rw [av_DNode] at e2
        have ho : onlyKind DNode.kind l [k0] 5 = decide ((l.getD k0.toNat default).kind = 5) := by
          unfold onlyKind
          simp only [decide_eq_true g0, decide_eq_true g1, Bool.true_and]
        generalize l.getD k0.toNat default = y at e2 ho
        simp +contextual -dsimp (maxSteps := 2000000) only [↓SD, SU, SB, Nat.reduceAdd, Nat.reduceBEq, Nat.reduceEqDiff, Nat.reduceLeDiff, Nat.reduceLT, Nat.reduceSub, ↓reduceIte, zA, zI, zN, reduceCtorEq, Int.reduceToNat, zE, Int.reduceEq, Int.reduceLT, Int.reduceLE, Int.reduceNeg, Int.reduceAdd, Int.reduceSub, map_len, hlt, e, av_DNode, av_int, g0, g1, g2, e2]
        intro v
        (repeat' (first | intro _ | refine And.intro ?_ ?_))
        all_goals first | omega | skip
        all_goals first | (refine aCallK_of _ CW ?_; simp +contextual -dsimp (maxSteps := 2000000) only [↓SD, SU, SB, Nat.reduceAdd, Nat.reduceBEq, Nat.reduceEqDiff, Nat.reduceLeDiff, Nat.reduceLT, Nat.reduceSub, ↓reduceIte, zA, zI, zN, reduceCtorEq, Int.reduceToNat, zE, Int.reduceEq, Int.reduceLT, Int.reduceLE, Int.reduceNeg, Int.reduceAdd, Int.reduceSub, *, map_len]; (repeat' (first | intro _ | refine And.intro ?_ ?_))) | (refine aCallK_of _ (l04ConOk_ok _ _ _ (by omega)) ?_; simp +contextual -dsimp (maxSteps := 2000000) only [↓SD, SU, SB, Nat.reduceAdd, Nat.reduceBEq, Nat.reduceEqDiff, Nat.reduceLeDiff, Nat.reduceLT, Nat.reduceSub, ↓reduceIte, zA, zI, zN, reduceCtorEq, Int.reduceToNat, zE, Int.reduceEq, Int.reduceLT, Int.reduceLE, Int.reduceNeg, Int.reduceAdd, Int.reduceSub, *, map_len]; (repeat' (first | intro _ | refine And.intro ?_ ?_))) | skip
        all_goals first | omega | skip
        all_goals first
          | (refine congrArg AV.bool (hno ?_).symm; first | (simp [dnodeB, ho, *]; done) | (simp [dnodeB, ho, *]; omega) | (simp [dnodeB, ho, *]; intro _ _; omega))
          | (refine Goes.le ⟨k + 1, ⟨⟨hlt, hyes ?_⟩, (by first | omega | (simp only; omega))⟩, rfl⟩ (by simp +contextual -dsimp only [↓SD, SU, SB, Nat.reduceAdd, Nat.reduceBEq, Nat.reduceEqDiff, Nat.reduceLeDiff, Nat.reduceLT, Nat.reduceSub, ↓reduceIte, zA, zI, zN, reduceCtorEq, Int.reduceToNat, zE, Int.natCast_add]) trivial; first | (simp [dnodeB, ho, *]; done) | (simp [dnodeB, ho, *]; omega))
          | trace_state
      · have ho : onlyKind DNode.kind l [k0] 5 = false := onlyKind_out (by simpa using g)
        by_cases g0 : 0 ≤ k0
        case' pos => have g1 : ¬ k0 < l.length := fun h => g ⟨g0, h⟩
        case' pos => simp +contextual -dsimp (maxSteps := 2000000) only [↓SD, SU, SB, Nat.reduceAdd, Nat.reduceBEq, Nat.reduceEqDiff, Nat.reduceLeDiff, Nat.reduceLT, Nat.reduceSub, ↓reduceIte, zA, zI, zN, reduceCtorEq, Int.reduceToNat, zE, Int.reduceEq, Int.reduceLT, Int.reduceLE, Int.reduceNeg, Int.reduceAdd, Int.reduceSub, map_len, hlt, e, av_DNode, av_int, g0, g1]
        case' neg => simp +contextual -dsimp (maxSteps := 2000000) only [↓SD, SU, SB, Nat.reduceAdd, Nat.reduceBEq, Nat.reduceEqDiff, Nat.reduceLeDiff, Nat.reduceLT, Nat.reduceSub, ↓reduceIte, zA, zI, zN, reduceCtorEq, Int.reduceToNat, zE, Int.reduceEq, Int.reduceLT, Int.reduceLE, Int.reduceNeg, Int.reduceAdd, Int.reduceSub, map_len, hlt, e, av_DNode, av_int, g0]
        all_goals clear g
        all_goals
          intro v
          (repeat' (first | intro _ | refine And.intro ?_ ?_))
          all_goals first | omega | skip
          all_goals first | (refine aCallK_of _ CW ?_; simp +contextual -dsimp (maxSteps := 2000000) only [↓SD, SU, SB, Nat.reduceAdd, Nat.reduceBEq, Nat.reduceEqDiff, Nat.reduceLeDiff, Nat.reduceLT, Nat.reduceSub, ↓reduceIte, zA, zI, zN, reduceCtorEq, Int.reduceToNat, zE, Int.reduceEq, Int.reduceLT, Int.reduceLE, Int.reduceNeg, Int.reduceAdd, Int.reduceSub, *, map_len]; (repeat' (first | intro _ | refine And.intro ?_ ?_))) | (refine aCallK_of _ (l04ConOk_ok _ _ _ (by omega)) ?_; simp +contextual -dsimp (maxSteps := 2000000) only [↓SD, SU, SB, Nat.reduceAdd, Nat.reduceBEq, Nat.reduceEqDiff, Nat.reduceLeDiff, Nat.reduceLT, Nat.reduceSub, ↓reduceIte, zA, zI, zN, reduceCtorEq, Int.reduceToNat, zE, Int.reduceEq, Int.reduceLT, Int.reduceLE, Int.reduceNeg, Int.reduceAdd, Int.reduceSub, *, map_len]; (repeat' (first | intro _ | refine And.intro ?_ ?_))) | skip
          all_goals first | omega | skip
          all_goals first
            | (refine congrArg AV.bool (hno ?_).symm; first | (simp [dnodeB, ho, *]; done) | (simp [dnodeB, ho, *]; omega) | (simp [dnodeB, ho, *]; intro _ _; omega))
            | (refine Goes.le ⟨k + 1, ⟨⟨hlt, hyes ?_⟩, (by first | omega | (simp only; omega))⟩, rfl⟩ (by simp +contextual -dsimp only [↓SD, SU, SB, Nat.reduceAdd, Nat.reduceBEq, Nat.reduceEqDiff, Nat.reduceLeDiff, Nat.reduceLT, Nat.reduceSub, ↓reduceIte, zA, zI, zN, reduceCtorEq, Int.reduceToNat, zE, Int.natCast_add]) trivial; first | (simp [dnodeB, ho, *]; done) | (simp [dnodeB, ho, *]; omega))
            | trace_state
    case cons.cons.cons =>
      have q0 : ¬ ((ks.length + 1 + 1 + 1 : Nat) : Int) = 0 := by omega
      have q1 : ¬ ((ks.length + 1 + 1 + 1 : Nat) : Int) = 1 := by omega
      have q2 : ¬ ((ks.length + 1 + 1 + 1 : Nat) : Int) = 2 := by omega
      simp +contextual -dsimp (maxSteps := 2000000) only [↓SD, SU, SB, Nat.reduceAdd, Nat.reduceBEq, Nat.reduceEqDiff, Nat.reduceLeDiff, Nat.reduceLT, Nat.reduceSub, ↓reduceIte, zA, zI, zN, reduceCtorEq, Int.reduceToNat, zE, Int.reduceEq, Int.reduceLT, Int.reduceLE, Int.reduceNeg, Int.reduceAdd, Int.reduceSub, map_len, hlt, e, av_DNode, av_int, q0, q1, q2]
      intro v
      (repeat' (first | intro _ | refine And.intro ?_ ?_))
      all_goals first | omega | skip
      all_goals first | (refine aCallK_of _ CW ?_; simp +contextual -dsimp (maxSteps := 2000000) only [↓SD, SU, SB, Nat.reduceAdd, Nat.reduceBEq, Nat.reduceEqDiff, Nat.reduceLeDiff, Nat.reduceLT, Nat.reduceSub, ↓reduceIte, zA, zI, zN, reduceCtorEq, Int.reduceToNat, zE, Int.reduceEq, Int.reduceLT, Int.reduceLE, Int.reduceNeg, Int.reduceAdd, Int.reduceSub, *, map_len]; (repeat' (first | intro _ | refine And.intro ?_ ?_))) | (refine aCallK_of _ (l04ConOk_ok _ _ _ (by omega)) ?_; simp +contextual -dsimp (maxSteps := 2000000) only [↓SD, SU, SB, Nat.reduceAdd, Nat.reduceBEq, Nat.reduceEqDiff, Nat.reduceLeDiff, Nat.reduceLT, Nat.reduceSub, ↓reduceIte, zA, zI, zN, reduceCtorEq, Int.reduceToNat, zE, Int.reduceEq, Int.reduceLT, Int.reduceLE, Int.reduceNeg, Int.reduceAdd, Int.reduceSub, *, map_len]; (repeat' (first | intro _ | refine And.intro ?_ ?_))) | skip
      all_goals first | omega | skip
      all_goals (try push_cast at *)
      all_goals first
        | (refine congrArg AV.bool (hno ?_).symm; first | (simp [dnodeB, onlyKind, *]; done) | (simp [dnodeB, onlyKind, *]; omega) | (simp [dnodeB, onlyKind, *]; intro _ _; omega))
        | (refine Goes.le ⟨k + 1, ⟨⟨hlt, hyes ?_⟩, (by first | omega | (simp only; omega))⟩, rfl⟩ (by simp +contextual -dsimp only [↓SD, SU, SB, Nat.reduceAdd, Nat.reduceBEq, Nat.reduceEqDiff, Nat.reduceLeDiff, Nat.reduceLT, Nat.reduceSub, ↓reduceIte, zA, zI, zN, reduceCtorEq, Int.reduceToNat, zE, Int.natCast_add]) trivial; first | (simp [dnodeB, onlyKind, *]; done) | (simp [dnodeB, onlyKind, *]; omega))
        | trace_state
    all_goals
      simp +contextual -dsimp (maxSteps := 2000000) only [↓SD, SU, SB, Nat.reduceAdd, Nat.reduceBEq, Nat.reduceEqDiff, Nat.reduceLeDiff, Nat.reduceLT, Nat.reduceSub, ↓reduceIte, zA, zI, zN, reduceCtorEq, Int.reduceToNat, zE, Int.reduceEq, Int.reduceLT, Int.reduceLE, Int.reduceNeg, Int.reduceAdd, Int.reduceSub, map_len, hlt, e, av_DNode, av_int]
      intro v
      (repeat' (first | intro _ | refine And.intro ?_ ?_))
      all_goals first | omega | skip
      all_goals first | (refine aCallK_of _ CW ?_; simp +contextual -dsimp (maxSteps := 2000000) only [↓SD, SU, SB, Nat.reduceAdd, Nat.reduceBEq, Nat.reduceEqDiff, Nat.reduceLeDiff, Nat.reduceLT, Nat.reduceSub, ↓reduceIte, zA, zI, zN, reduceCtorEq, Int.reduceToNat, zE, Int.reduceEq, Int.reduceLT, Int.reduceLE, Int.reduceNeg, Int.reduceAdd, Int.reduceSub, *, map_len]; (repeat' (first | intro _ | refine And.intro ?_ ?_))) | (refine aCallK_of _ (l04ConOk_ok _ _ _ (by omega)) ?_; simp +contextual -dsimp (maxSteps := 2000000) only [↓SD, SU, SB, Nat.reduceAdd, Nat.reduceBEq, Nat.reduceEqDiff, Nat.reduceLeDiff, Nat.reduceLT, Nat.reduceSub, ↓reduceIte, zA, zI, zN, reduceCtorEq, Int.reduceToNat, zE, Int.reduceEq, Int.reduceLT, Int.reduceLE, Int.reduceNeg, Int.reduceAdd, Int.reduceSub, *, map_len]; (repeat' (first | intro _ | refine And.intro ?_ ?_))) | skip
      all_goals first | omega | skip
      all_goals first
        | (refine congrArg AV.bool (hno ?_).symm; first | (simp [dnodeB, onlyKind, *]; done) | (simp [dnodeB, onlyKind, *]; omega) | (simp [dnodeB, onlyKind, *]; intro _ _; omega))
        | (refine Goes.le ⟨k + 1, ⟨⟨hlt, hyes ?_⟩, (by first | omega | (simp only; omega))⟩, rfl⟩ (by simp +contextual -dsimp only [↓SD, SU, SB, Nat.reduceAdd, Nat.reduceBEq, Nat.reduceEqDiff, Nat.reduceLeDiff, Nat.reduceLT, Nat.reduceSub, ↓reduceIte, zA, zI, zN, reduceCtorEq, Int.reduceToNat, zE, Int.natCast_add]) trivial; first | (simp [dnodeB, onlyKind, *]; done) | (simp [dnodeB, onlyKind, *]; omega))
        | trace_state
  · obtain rfl : k = l.length := by omega
    rw [List.take_length] at hp
    have C := l07End_ok l hx (l.length + 1) 0 (by omega) (by omega)
    simp +contextual -dsimp (maxSteps := 2000000) only [↓SD, SU, SB, Nat.reduceAdd, Nat.reduceBEq, Nat.reduceEqDiff, Nat.reduceLeDiff, Nat.reduceLT, Nat.reduceSub, ↓reduceIte, zA, zI, zN, reduceCtorEq, Int.reduceToNat, zE, map_len, Nat.lt_irrefl]
    refine aCallK_of _ C ?_
    simp +contextual -dsimp (maxSteps := 2000000) only [↓SD, SU, SB, Nat.reduceAdd, Nat.reduceBEq, Nat.reduceEqDiff, Nat.reduceLeDiff, Nat.reduceLT, Nat.reduceSub, ↓reduceIte, zA, zI, zN, reduceCtorEq, Int.reduceToNat, zE, map_len]
    congr 1
    cases ht : treeB (dkids l) l.length with
    | true =>
      rw [dataB_of (by omega) (by omega) ht, hp]
      unfold treeB at ht
      rw [of_decide_eq_true ht]; simp [endI]
    | false =>
      rw [dataB_tree ht]
      unfold treeB at ht
      cases ho : endF (dkids l) l.length (l.length + 1) 0 with
      | none => simp [endI]
      | some m =>
        rw [ho] at ht
        have hne : m ≠ l.length := fun e => by simp [e] at ht
        exact decide_eq_false (by simp only [endI]; omega)
end Go.Proofs.Ytfdkgbejhdmpbaa
