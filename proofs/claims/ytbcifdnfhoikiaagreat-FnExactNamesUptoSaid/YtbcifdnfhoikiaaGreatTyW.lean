/-
  TyOk OF THE PROGRAM AND OF THE REFERENCE, by abstract texts. Conditions: none.
-/
import Derived.Test.YtbcifdnfhoikiaaGreatPackQ
import Derived.Test.YtbcifdnfhoikiaaGreatPatOk
import Derived.Test.YtbcifdnfhoikiaaGreatIrTy
set_option linter.unusedVariables false
set_option linter.unusedSimpArgs false
set_option maxRecDepth 100000
namespace Go.Proofs.YtbcifdnfhoikiaaGreat
open Go.RowKit Go.Proofs.YtbcifdnfhoikiaaGreat.Av Go.Proofs.YtbcifdnfhoikiaaGreat.Ml
open Go.Proofs.YtbcifdnfhoikiaaGreat.Av.AVal (av)

/-- what a type's head says of its arity -/
def headB (x : TyItem) : Bool :=
  if x.name = bs [45, 62] ∨ x.name = bs [42] then decide (x.arity = 2)
  else if x.name = bs [114, 101, 102] then decide (x.arity = 1)
  else nameB x.name
theorem tyName_ok (x : TyItem) (hs : x.name.size ≤ 1048576) : CallsF Tryz.prog 210 [av x] (.bool (headB x)) := by
  refine fun_impl_tyName rfl (by simp; exact AVal.clean x) (AvPure.bool _) ?_
  obtain ⟨v, nm, ar⟩ := x
  simp only at hs ⊢
  simp +contextual -dsimp (maxSteps := 2000000) only [↓SD, SU, SB, Nat.reduceAdd, Nat.reduceBEq, Nat.reduceEqDiff, Nat.reduceLeDiff, Nat.reduceLT, Nat.reduceSub, ↓reduceIte, zA, zI, zN, reduceCtorEq, Int.reduceToNat, zE, Int.reduceEq, Int.reduceLT, Int.reduceLE, Int.reduceNeg, Int.reduceAdd, Int.reduceSub, ir_impl_tyName, rs_impl_tyName, av_TyItem]
  (repeat' (first | intro _ | refine And.intro ?_ ?_))
  all_goals first | (refine aCallK_of _ (implNameOk_ok _ (by omega)) ?_; simp +contextual -dsimp (maxSteps := 2000000) only [↓SD, SU, SB, Nat.reduceAdd, Nat.reduceBEq, Nat.reduceEqDiff, Nat.reduceLeDiff, Nat.reduceLT, Nat.reduceSub, ↓reduceIte, zA, zI, zN, reduceCtorEq, Int.reduceToNat, zE, Int.reduceEq, Int.reduceLT, Int.reduceLE, Int.reduceNeg, Int.reduceAdd, Int.reduceSub, *]) | skip
  all_goals first | (simp [headB, *]; done) | (rename_i h; simp [headB, h]; intros; simp_all [bs]; done) | (simp_all [headB, bs]; done) | trace_state
theorem item_small {l : List TyItem} (hx : Bulk.bulk l ≤ 1048576) {x : TyItem} (hn : x ∈ l) : x.name.size ≤ 1048576 := by
  have h1 := bulk_mem hn
  have h2 : Bulk.bulk x = Bulk.bulk x.var + Bulk.bulk x.name + Bulk.bulk x.arity + 1 := rfl
  have h4 : Bulk.bulk x.name = x.name.size + 1 := rfl
  omega
theorem itemB_head {x : TyItem} (hn : ¬ x.name = bs []) (hv : x.var = 0) : itemB x = ((decide (0 ≤ x.arity) && decide (x.arity ≤ 2)) && headB x) := by
  unfold itemB headB
  rw [if_neg hn, if_pos hv]
  split
  · by_cases h : x.arity = 2 <;> simp [h]
  · split
    · by_cases h : x.arity = 1 <;> simp [h]
    · rw [Bool.and_comm]

theorem arL_drop {l : List TyItem} {k : Nat} (h : k < l.length) : arL (l.drop k) = l[k].arity.toNat :: arL (l.drop (k + 1)) := by
  rw [List.drop_eq_getElem_cons h]; rfl
theorem tyItemsB_no {l : List TyItem} {k : Nat} (h : k < l.length) (hb : itemB l[k] = false) : tyItemsB l = false := by
  unfold tyItemsB; rw [all_false' _ h hb]; rfl
set_option maxHeartbeats 1000000 in
theorem tyOk_ok (l : List TyItem) (hx : Bulk.bulk l ≤ 1048576) : CallsF Tryz.prog 198 [.sl (l.map av)] (.bool (tyItemsB l)) := by
  have hl := bulk_length l
  refine fun_impl_tyOk rfl (by simp; exact lav_clean l) (AvPure.bool _) ?_
  simp +contextual -dsimp (maxSteps := 2000000) only [↓SD, SU, SB, Nat.reduceAdd, Nat.reduceBEq, Nat.reduceEqDiff, Nat.reduceLeDiff, Nat.reduceLT, Nat.reduceSub, ↓reduceIte, zA, zI, zN, reduceCtorEq, Int.reduceToNat, zE, ir_impl_tyOk, rs_impl_tyOk, map_len]
  refine aLoop_of (X := Nat × Nat) (fun x => ⟨[(3, .int .i64 x.2), (6, .sl (l.map av)), (7, .int .i64 l.length), (8, .int .i64 x.1)], []⟩) (fun x => x.1 ≤ l.length ∧ (l.take x.1).all itemB = true ∧ x.2 ≤ 1 + 2 * x.1 ∧ skipT 1 (arL l) = skipT x.2 (arL (l.drop x.1))) (fun x => l.length - x.1) (0, 1) ⟨Nat.zero_le _, rfl, by simp, rfl⟩ (by simp +contextual -dsimp only [↓SD, SU, SB, Nat.reduceAdd, Nat.reduceBEq, Nat.reduceEqDiff, Nat.reduceLeDiff, Nat.reduceLT, Nat.reduceSub, ↓reduceIte, zA, zI, zN, reduceCtorEq, Int.reduceToNat, zE]) trivial ?_
  rintro ⟨k, c⟩ ⟨hk, hp, hc, he⟩
  simp only at hk hp hc he
  by_cases hlt : k < l.length
  · have e := getD_map av l k .top hlt
    have hs := item_small hx (List.getElem_mem hlt)
    rw [arL_drop hlt] at he
    have hbad : itemB l[k] = false → tyItemsB l = false := tyItemsB_no hlt
    have hgood : itemB l[k] = true → (l.take (k + 1)).all itemB = true := fun h => by rw [all_take' _ hlt hp]; exact h
    have CH := tyName_ok l[k] hs
    have hi := @itemB_head l[k]
    have hia := @itemB_ar l[k]
    generalize l[k] = x at *
    obtain ⟨var, nm, ar⟩ := x
    simp only at hs he hi hia
    rw [av_TyItem] at CH
    cases c with
    | zero =>
      rw [skipT_zero] at he
      have hno : tyItemsB l = false := by unfold tyItemsB; rw [he]; simp
      simp +contextual -dsimp (maxSteps := 2000000) only [↓SD, SU, SB, Nat.reduceAdd, Nat.reduceBEq, Nat.reduceEqDiff, Nat.reduceLeDiff, Nat.reduceLT, Nat.reduceSub, ↓reduceIte, zA, zI, zN, reduceCtorEq, Int.reduceToNat, zE, map_len, hlt, e, av_TyItem]
      rw [hno]
    | succ c =>
      rw [skipT_cons] at he
      have hc0 : ¬ ((c + 1 : Nat) : Int) = 0 := by omega
      have hc1 : ((c + 1 : Nat) : Int) - 1 = c := by omega
      by_cases hn : nm = bs []
      · have hib : itemB ⟨var, nm, ar⟩ = ((decide (0 ≤ var) && decide (var ≤ 9999)) && decide (ar = 0)) := by simp [itemB, hn]
        subst hn
        have CW := within_ok var 0 9999
        by_cases hw : 0 ≤ var ∧ var ≤ 9999
        · rw [decide_eq_true hw.1, decide_eq_true hw.2] at CW hib
          by_cases har : ar = 0
          · subst har
            simp +contextual -dsimp (maxSteps := 2000000) only [↓SD, SU, SB, Nat.reduceAdd, Nat.reduceBEq, Nat.reduceEqDiff, Nat.reduceLeDiff, Nat.reduceLT, Nat.reduceSub, ↓reduceIte, zA, zI, zN, reduceCtorEq, Int.reduceToNat, zE, map_len, hlt, e, av_TyItem, hc0, hc1]
            intro v
            refine ⟨by omega, ?_⟩
            refine aCallK_of _ CW ?_
            simp +contextual -dsimp (maxSteps := 2000000) only [↓SD, SU, SB, Nat.reduceAdd, Nat.reduceBEq, Nat.reduceEqDiff, Nat.reduceLeDiff, Nat.reduceLT, Nat.reduceSub, ↓reduceIte, zA, zI, zN, reduceCtorEq, Int.reduceToNat, zE]
            exact ⟨by omega, Goes.le ⟨(k + 1, c), ⟨⟨hlt, hgood (by rw [hib]; rfl), by simp only; omega, by simpa using he⟩, (by first | omega | (simp only; omega))⟩, rfl⟩ (by simp +contextual -dsimp only [↓SD, SU, SB, Nat.reduceAdd, Nat.reduceBEq, Nat.reduceEqDiff, Nat.reduceLeDiff, Nat.reduceLT, Nat.reduceSub, ↓reduceIte, zA, zI, zN, reduceCtorEq, Int.reduceToNat, zE, Int.natCast_add]) trivial⟩
          · simp +contextual -dsimp (maxSteps := 2000000) only [↓SD, SU, SB, Nat.reduceAdd, Nat.reduceBEq, Nat.reduceEqDiff, Nat.reduceLeDiff, Nat.reduceLT, Nat.reduceSub, ↓reduceIte, zA, zI, zN, reduceCtorEq, Int.reduceToNat, zE, map_len, hlt, e, av_TyItem, hc0, hc1, har]
            intro v
            refine ⟨by omega, ?_⟩
            refine aCallK_of _ CW ?_
            simp +contextual -dsimp (maxSteps := 2000000) only [↓SD, SU, SB, Nat.reduceAdd, Nat.reduceBEq, Nat.reduceEqDiff, Nat.reduceLeDiff, Nat.reduceLT, Nat.reduceSub, ↓reduceIte, zA, zI, zN, reduceCtorEq, Int.reduceToNat, zE, har]
            rw [hbad (by rw [hib, decide_eq_false har]; rfl)]
        · have hf : (decide (0 ≤ var) && decide (var ≤ 9999)) = false := by
            rw [Bool.and_eq_false_iff, decide_eq_false_iff_not, decide_eq_false_iff_not]; omega
          rw [hf] at CW hib
          simp +contextual -dsimp (maxSteps := 2000000) only [↓SD, SU, SB, Nat.reduceAdd, Nat.reduceBEq, Nat.reduceEqDiff, Nat.reduceLeDiff, Nat.reduceLT, Nat.reduceSub, ↓reduceIte, zA, zI, zN, reduceCtorEq, Int.reduceToNat, zE, map_len, hlt, e, av_TyItem, hc0, hc1]
          intro v
          refine ⟨by omega, ?_⟩
          refine aCallK_of _ CW ?_
          simp +contextual -dsimp (maxSteps := 2000000) only [↓SD, SU, SB, Nat.reduceAdd, Nat.reduceBEq, Nat.reduceEqDiff, Nat.reduceLeDiff, Nat.reduceLT, Nat.reduceSub, ↓reduceIte, zA, zI, zN, reduceCtorEq, Int.reduceToNat, zE]
          rw [hbad (by rw [hib]; rfl)]
      · by_cases hv : var = 0
        · subst hv
          have hib := hi hn rfl
          have CW := within_ok ar 0 2
          by_cases hr : 0 ≤ ar ∧ ar ≤ 2
          · rw [decide_eq_true hr.1, decide_eq_true hr.2] at CW hib
            have hca : ((c : Nat) : Int) + ar = ((ar.toNat + c : Nat) : Int) := by omega
            cases hh : headB ⟨0, nm, ar⟩ with
            | false =>
              rw [hh] at CH hib
              simp +contextual -dsimp (maxSteps := 2000000) only [↓SD, SU, SB, Nat.reduceAdd, Nat.reduceBEq, Nat.reduceEqDiff, Nat.reduceLeDiff, Nat.reduceLT, Nat.reduceSub, ↓reduceIte, zA, zI, zN, reduceCtorEq, Int.reduceToNat, zE, map_len, hlt, e, av_TyItem, hc0, hc1, hn]
              intro v
              refine ⟨by omega, ?_⟩
              refine aCallK_of _ CW ?_
              simp +contextual -dsimp (maxSteps := 2000000) only [↓SD, SU, SB, Nat.reduceAdd, Nat.reduceBEq, Nat.reduceEqDiff, Nat.reduceLeDiff, Nat.reduceLT, Nat.reduceSub, ↓reduceIte, zA, zI, zN, reduceCtorEq, Int.reduceToNat, zE]
              refine aCallK_of _ CH ?_
              simp +contextual -dsimp (maxSteps := 2000000) only [↓SD, SU, SB, Nat.reduceAdd, Nat.reduceBEq, Nat.reduceEqDiff, Nat.reduceLeDiff, Nat.reduceLT, Nat.reduceSub, ↓reduceIte, zA, zI, zN, reduceCtorEq, Int.reduceToNat, zE]
              rw [hbad (by rw [hib]; rfl)]
            | true =>
              rw [hh] at CH hib
              simp +contextual -dsimp (maxSteps := 2000000) only [↓SD, SU, SB, Nat.reduceAdd, Nat.reduceBEq, Nat.reduceEqDiff, Nat.reduceLeDiff, Nat.reduceLT, Nat.reduceSub, ↓reduceIte, zA, zI, zN, reduceCtorEq, Int.reduceToNat, zE, map_len, hlt, e, av_TyItem, hc0, hc1, hn]
              intro v
              refine ⟨by omega, ?_⟩
              refine aCallK_of _ CW ?_
              simp +contextual -dsimp (maxSteps := 2000000) only [↓SD, SU, SB, Nat.reduceAdd, Nat.reduceBEq, Nat.reduceEqDiff, Nat.reduceLeDiff, Nat.reduceLT, Nat.reduceSub, ↓reduceIte, zA, zI, zN, reduceCtorEq, Int.reduceToNat, zE]
              refine aCallK_of _ CH ?_
              simp +contextual -dsimp (maxSteps := 2000000) only [↓SD, SU, SB, Nat.reduceAdd, Nat.reduceBEq, Nat.reduceEqDiff, Nat.reduceLeDiff, Nat.reduceLT, Nat.reduceSub, ↓reduceIte, zA, zI, zN, reduceCtorEq, Int.reduceToNat, zE, hca]
              refine ⟨by omega, by omega, Goes.le ⟨(k + 1, ar.toNat + c), ⟨⟨hlt, hgood (by rw [hib]; rfl), by simp only; omega, he⟩, (by first | omega | (simp only; omega))⟩, rfl⟩ (by simp +contextual -dsimp only [↓SD, SU, SB, Nat.reduceAdd, Nat.reduceBEq, Nat.reduceEqDiff, Nat.reduceLeDiff, Nat.reduceLT, Nat.reduceSub, ↓reduceIte, zA, zI, zN, reduceCtorEq, Int.reduceToNat, zE, Int.natCast_add]) trivial⟩
          · have hf : (decide (0 ≤ ar) && decide (ar ≤ 2)) = false := by
              rw [Bool.and_eq_false_iff, decide_eq_false_iff_not, decide_eq_false_iff_not]; omega
            rw [hf] at CW hib
            simp +contextual -dsimp (maxSteps := 2000000) only [↓SD, SU, SB, Nat.reduceAdd, Nat.reduceBEq, Nat.reduceEqDiff, Nat.reduceLeDiff, Nat.reduceLT, Nat.reduceSub, ↓reduceIte, zA, zI, zN, reduceCtorEq, Int.reduceToNat, zE, map_len, hlt, e, av_TyItem, hc0, hc1, hn]
            intro v
            refine ⟨by omega, ?_⟩
            refine aCallK_of _ CW ?_
            simp +contextual -dsimp (maxSteps := 2000000) only [↓SD, SU, SB, Nat.reduceAdd, Nat.reduceBEq, Nat.reduceEqDiff, Nat.reduceLeDiff, Nat.reduceLT, Nat.reduceSub, ↓reduceIte, zA, zI, zN, reduceCtorEq, Int.reduceToNat, zE]
            rw [hbad (by rw [hib]; rfl)]
        · simp +contextual -dsimp (maxSteps := 2000000) only [↓SD, SU, SB, Nat.reduceAdd, Nat.reduceBEq, Nat.reduceEqDiff, Nat.reduceLeDiff, Nat.reduceLT, Nat.reduceSub, ↓reduceIte, zA, zI, zN, reduceCtorEq, Int.reduceToNat, zE, map_len, hlt, e, av_TyItem, hc0, hc1, hn, hv]
          (repeat' (first | intro _ | refine And.intro ?_ ?_))
          all_goals first | omega | skip
          rw [hbad (by simp [itemB, hn, hv])]
  · obtain rfl : k = l.length := by omega
    rw [List.take_length] at hp
    rw [List.drop_length] at he
    simp +contextual -dsimp (maxSteps := 2000000) only [↓SD, SU, SB, Nat.reduceAdd, Nat.reduceBEq, Nat.reduceEqDiff, Nat.reduceLeDiff, Nat.reduceLT, Nat.reduceSub, ↓reduceIte, zA, zI, zN, reduceCtorEq, Int.reduceToNat, zE, map_len, Nat.lt_irrefl]
    congr 1
    unfold tyItemsB
    rw [he, hp, Bool.true_and]
    cases c with
    | zero => simp [skipT_zero, arL]
    | succ c => simp [arL, skipT_nil]; omega

theorem tyB_big {l : List TyItem} (h : ¬ (l.length : Int) ≤ 200) : tyB l = false := by unfold tyB; rw [decide_eq_false h]; rfl
theorem implTyOk_ok (l : List TyItem) (hx : Bulk.bulk l ≤ 1048576) : CallsF Tryz.prog 172 [.agg [.sl (l.map av)]] (.bool (tyB l)) := by
  have hl := bulk_length l
  refine fun_impl_TyOk rfl (by simp; exact AvPure.agg (by simp; exact lav_clean l)) (AvPure.bool _) ?_
  by_cases h : (l.length : Int) ≤ 200
  · simp +contextual -dsimp (maxSteps := 2000000) only [↓SD, SU, SB, Nat.reduceAdd, Nat.reduceBEq, Nat.reduceEqDiff, Nat.reduceLeDiff, Nat.reduceLT, Nat.reduceSub, ↓reduceIte, zA, zI, zN, reduceCtorEq, Int.reduceToNat, zE, ir_impl_TyOk, rs_impl_TyOk, map_len, h]
    refine aCallK_of _ (tyOk_ok l hx) ?_
    simp +contextual -dsimp (maxSteps := 2000000) only [↓SD, SU, SB, Nat.reduceAdd, Nat.reduceBEq, Nat.reduceEqDiff, Nat.reduceLeDiff, Nat.reduceLT, Nat.reduceSub, ↓reduceIte, zA, zI, zN, reduceCtorEq, Int.reduceToNat, zE]
    unfold tyB; rw [decide_eq_true h]; rfl
  · simp +contextual -dsimp (maxSteps := 2000000) only [↓SD, SU, SB, Nat.reduceAdd, Nat.reduceBEq, Nat.reduceEqDiff, Nat.reduceLeDiff, Nat.reduceLT, Nat.reduceSub, ↓reduceIte, zA, zI, zN, reduceCtorEq, Int.reduceToNat, zE, ir_impl_TyOk, rs_impl_TyOk, map_len, h]
    rw [tyB_big h]

theorem l04Item_ok (x : TyItem) (hs : x.name.size ≤ 1048576) : CallsF Tryz.prog 160 [av x] (.bool (itemB x)) := by
  refine fun_spec_l04Item rfl (by simp; exact AVal.clean x) (AvPure.bool _) ?_
  obtain ⟨v, nm, ar⟩ := x
  simp only at hs ⊢
  by_cases hn : nm = bs []
  · subst hn
    simp +contextual -dsimp (maxSteps := 2000000) only [↓SD, SU, SB, Nat.reduceAdd, Nat.reduceBEq, Nat.reduceEqDiff, Nat.reduceLeDiff, Nat.reduceLT, Nat.reduceSub, ↓reduceIte, zA, zI, zN, reduceCtorEq, Int.reduceToNat, zE, Int.reduceEq, Int.reduceLT, Int.reduceLE, Int.reduceNeg, Int.reduceAdd, Int.reduceSub, ir_spec_l04Item, rs_spec_l04Item, av_TyItem]
    (repeat' (first | intro _ | refine And.intro ?_ ?_))
    all_goals simp [itemB, *]
  · by_cases hv : v = 0
    · subst hv
      have hib := itemB_head (x := ⟨0, nm, ar⟩) hn rfl
      rw [hib]
      simp +contextual -dsimp (maxSteps := 2000000) only [↓SD, SU, SB, Nat.reduceAdd, Nat.reduceBEq, Nat.reduceEqDiff, Nat.reduceLeDiff, Nat.reduceLT, Nat.reduceSub, ↓reduceIte, zA, zI, zN, reduceCtorEq, Int.reduceToNat, zE, Int.reduceEq, Int.reduceLT, Int.reduceLE, Int.reduceNeg, Int.reduceAdd, Int.reduceSub, ir_spec_l04Item, rs_spec_l04Item, av_TyItem, hn]
      (repeat' (first | intro _ | refine And.intro ?_ ?_))
      all_goals first | (refine aCallK_of _ (specNameOk_ok _ (by omega)) ?_; simp +contextual -dsimp (maxSteps := 2000000) only [↓SD, SU, SB, Nat.reduceAdd, Nat.reduceBEq, Nat.reduceEqDiff, Nat.reduceLeDiff, Nat.reduceLT, Nat.reduceSub, ↓reduceIte, zA, zI, zN, reduceCtorEq, Int.reduceToNat, zE, Int.reduceEq, Int.reduceLT, Int.reduceLE, Int.reduceNeg, Int.reduceAdd, Int.reduceSub, *]; (repeat' (first | intro _ | refine And.intro ?_ ?_))) | skip
      all_goals first | (simp [headB, *]; done) | (rename_i h; subst h; simp [headB]; done) | (simp_all [headB]; done) | trace_state
    · simp +contextual -dsimp (maxSteps := 2000000) only [↓SD, SU, SB, Nat.reduceAdd, Nat.reduceBEq, Nat.reduceEqDiff, Nat.reduceLeDiff, Nat.reduceLT, Nat.reduceSub, ↓reduceIte, zA, zI, zN, reduceCtorEq, Int.reduceToNat, zE, Int.reduceEq, Int.reduceLT, Int.reduceLE, Int.reduceNeg, Int.reduceAdd, Int.reduceSub, ir_spec_l04Item, rs_spec_l04Item, av_TyItem, hn, hv]
      simp [itemB, hn, hv]

theorem endT_le (A : List Nat) : ∀ (f p m : Nat), endT A f p = some m → p < m ∧ m ≤ A.length := by
  intro f
  induction f with
  | zero => intro p m h; cases h
  | succ f ih =>
    intro p m h
    have hit : ∀ c q m, q ≤ A.length → iterT (endT A f) c q = some m → q ≤ m ∧ m ≤ A.length := by
      intro c
      induction c with
      | zero => intro q m hq h; cases h; exact ⟨Nat.le_refl _, hq⟩
      | succ c ihc =>
        intro q m hq h
        rw [iterT] at h
        cases he : endT A f q with
        | none => rw [he] at h; cases h
        | some r =>
          rw [he] at h
          have h1 := ih q r he
          have h2 := ihc r m h1.2 h
          omega
    unfold endT at h
    split at h
    · have := hit _ _ _ (by omega) h; omega
    · cases h
theorem l04End_ok (l : List TyItem) (hx : Bulk.bulk l ≤ 1048576) (hi : l.all itemB = true) : ∀ (f p : Nat), l.length - p < f → p ≤ 1048576 → CallsF Tryz.prog 161 [.agg [.sl (l.map av)], .int .i64 p] (.int .i64 (endI (endT (arL l) f p))) := by
  have hl := bulk_length l
  have hA : (arL l).length = l.length := by simp [arL]
  intro f
  induction f with
  | zero => intro p h; omega
  | succ f ih =>
    intro p hf hp0
    refine fun_spec_l04End rfl (by simp; exact ⟨AvPure.agg (by simp; exact lav_clean l), pint _⟩) (pint _) ?_
    by_cases hp : p < l.length
    · have e := getD_map av l p .top hp
      have hit := itemB_ar (List.all_eq_true.1 hi l[p] (List.getElem_mem hp))
      have hE : endT (arL l) (f + 1) p = iterT (endT (arL l) f) l[p].arity.toNat (p + 1) := by
        rw [endT, if_pos (by omega)]
        congr 1
        simp [arL, List.getD_eq_getElem?_getD, hp]
      rw [hE]
      generalize l[p] = a at *
      obtain ⟨var, nm, ar⟩ := a
      simp only at hit ⊢
      have hp' : ¬ l.length ≤ p := by omega
      simp +contextual -dsimp (maxSteps := 2000000) only [↓SD, SU, SB, Nat.reduceAdd, Nat.reduceBEq, Nat.reduceEqDiff, Nat.reduceLeDiff, Nat.reduceLT, Nat.reduceSub, ↓reduceIte, zA, zI, zN, reduceCtorEq, Int.reduceToNat, zE, ir_spec_l04End, rs_spec_l04End, map_len, hp, hp', e, av_TyItem]
      (repeat' (first | intro _ | refine And.intro ?_ ?_))
      all_goals first | omega | skip
      refine aLoop_of (X := Nat × Option Nat) (fun x => ⟨[(1, .int .i64 p), (2, .obj [.sl (l.map av)]), (5, .int .i64 (endI x.2)), (6, .int .i64 x.1)], []⟩) (fun x => x.1 ≤ ar.toNat ∧ (∀ q, x.2 = some q → p < q ∧ q ≤ l.length) ∧ iterT (endT (arL l) f) ar.toNat (p + 1) = x.2.bind (iterT (endT (arL l) f) (ar.toNat - x.1))) (fun x => ar.toNat - x.1) (0, some (p + 1)) ⟨Nat.zero_le _, fun q h => by cases h; omega, rfl⟩ (by simp +contextual -dsimp only [↓SD, SU, SB, Nat.reduceAdd, Nat.reduceBEq, Nat.reduceEqDiff, Nat.reduceLeDiff, Nat.reduceLT, Nat.reduceSub, ↓reduceIte, zA, zI, zN, reduceCtorEq, Int.reduceToNat, zE, endI, Int.natCast_add]) trivial ?_
      rintro ⟨i, o⟩ ⟨hi1, hq, he⟩
      simp only at hi1 hq he
      have hii : decide ((i : Int) < ar) = decide (i < ar.toNat) := by congr 1; apply propext; omega
      cases o with
      | none =>
        simp +contextual -dsimp (maxSteps := 2000000) only [↓SD, SU, SB, Nat.reduceAdd, Nat.reduceBEq, Nat.reduceEqDiff, Nat.reduceLeDiff, Nat.reduceLT, Nat.reduceSub, ↓reduceIte, zA, zI, zN, reduceCtorEq, Int.reduceToNat, zE, Int.reduceEq, Int.reduceLT, Int.reduceLE, Int.reduceNeg, Int.reduceAdd, Int.reduceSub, map_len, hp, e, av_TyItem, endI]
        rw [he]
        exact ⟨fun _ => rfl, fun _ => rfl⟩
      | some q =>
        obtain ⟨q1, q2⟩ := hq q rfl
        have hq0 : (0 : Int) ≤ q := by omega
        by_cases hlt : (i : Int) < ar
        · have C := ih q (by omega) (by omega)
          have hstep : iterT (endT (arL l) f) ar.toNat (p + 1) = (endT (arL l) f q).bind (iterT (endT (arL l) f) (ar.toNat - (i + 1))) := by
            rw [he, show ar.toNat - i = (ar.toNat - (i + 1)) + 1 by omega]
            rfl
          have hle := endT_le (arL l) f q
          simp +contextual -dsimp (maxSteps := 2000000) only [↓SD, SU, SB, Nat.reduceAdd, Nat.reduceBEq, Nat.reduceEqDiff, Nat.reduceLeDiff, Nat.reduceLT, Nat.reduceSub, ↓reduceIte, zA, zI, zN, reduceCtorEq, Int.reduceToNat, zE, map_len, hp, e, av_TyItem, endI, hlt, hq0]
          refine aCallK_of _ C ?_
          simp +contextual -dsimp (maxSteps := 2000000) only [↓SD, SU, SB, Nat.reduceAdd, Nat.reduceBEq, Nat.reduceEqDiff, Nat.reduceLeDiff, Nat.reduceLT, Nat.reduceSub, ↓reduceIte, zA, zI, zN, reduceCtorEq, Int.reduceToNat, zE]
          refine ⟨by omega, Goes.le ⟨(i + 1, endT (arL l) f q), ⟨⟨by simp only; omega, fun m hm => by have := hle m hm; omega, hstep⟩, (by first | omega | (simp only; omega))⟩, rfl⟩ (by simp +contextual -dsimp only [↓SD, SU, SB, Nat.reduceAdd, Nat.reduceBEq, Nat.reduceEqDiff, Nat.reduceLeDiff, Nat.reduceLT, Nat.reduceSub, ↓reduceIte, zA, zI, zN, reduceCtorEq, Int.reduceToNat, zE, Int.natCast_add]) trivial⟩
        · obtain rfl : i = ar.toNat := by omega
          rw [Nat.sub_self] at he
          have he' : iterT (endT (arL l) f) ar.toNat (p + 1) = some q := by rw [he]; rfl
          simp +contextual -dsimp (maxSteps := 2000000) only [↓SD, SU, SB, Nat.reduceAdd, Nat.reduceBEq, Nat.reduceEqDiff, Nat.reduceLeDiff, Nat.reduceLT, Nat.reduceSub, ↓reduceIte, zA, zI, zN, reduceCtorEq, Int.reduceToNat, zE, map_len, hp, e, av_TyItem, endI, hlt, hq0]
          rw [he']
    · have hE : endT (arL l) (f + 1) p = none := by rw [endT, if_neg (by omega)]
      have hp' : l.length ≤ p := by omega
      simp +contextual -dsimp (maxSteps := 2000000) only [↓SD, SU, SB, Nat.reduceAdd, Nat.reduceBEq, Nat.reduceEqDiff, Nat.reduceLeDiff, Nat.reduceLT, Nat.reduceSub, ↓reduceIte, zA, zI, zN, reduceCtorEq, Int.reduceToNat, zE, ir_spec_l04End, rs_spec_l04End, map_len, hp', hE]
      (repeat' (first | intro _ | refine And.intro ?_ ?_))
      all_goals first | omega | rfl

theorem specTyOk_ok (l : List TyItem) (hx : Bulk.bulk l ≤ 1048576) : CallsF Tryz.prog 99 [.agg [.sl (l.map av)]] (.bool (tyB l)) := by
  have hl := bulk_length l
  have hA : (arL l).length = l.length := by simp [arL]
  refine fun_spec_TyOk rfl (by simp; exact AvPure.agg (by simp; exact lav_clean l)) (AvPure.bool _) ?_
  simp +contextual -dsimp (maxSteps := 2000000) only [↓SD, SU, SB, Nat.reduceAdd, Nat.reduceBEq, Nat.reduceEqDiff, Nat.reduceLeDiff, Nat.reduceLT, Nat.reduceSub, ↓reduceIte, zA, zI, zN, reduceCtorEq, Int.reduceToNat, zE, ir_spec_TyOk, rs_spec_TyOk, map_len]
  refine ⟨fun h => by rw [tyB_big (by omega)], fun h => ?_⟩
  refine aLoop_of (X := Nat) (fun k => ⟨[(1, .obj [.sl (l.map av)]), (10, .sl (l.map av)), (11, .int .i64 l.length), (12, .int .i64 k)], []⟩) (fun k => k ≤ l.length ∧ (l.take k).all itemB = true) (fun k => l.length - k) 0 ⟨Nat.zero_le _, rfl⟩ (by simp +contextual -dsimp only [↓SD, SU, SB, Nat.reduceAdd, Nat.reduceBEq, Nat.reduceEqDiff, Nat.reduceLeDiff, Nat.reduceLT, Nat.reduceSub, ↓reduceIte, zA, zI, zN, reduceCtorEq, Int.reduceToNat, zE]) trivial ?_
  rintro k ⟨hk, hp⟩
  by_cases hlt : k < l.length
  · have e := getD_map av l k .top hlt
    have C := l04Item_ok l[k] (item_small hx (List.getElem_mem hlt))
    rw [av_TyItem] at C
    simp +contextual -dsimp (maxSteps := 2000000) only [↓SD, SU, SB, Nat.reduceAdd, Nat.reduceBEq, Nat.reduceEqDiff, Nat.reduceLeDiff, Nat.reduceLT, Nat.reduceSub, ↓reduceIte, zA, zI, zN, reduceCtorEq, Int.reduceToNat, zE, map_len, hlt, e, av_TyItem]
    intro v
    refine aCallK_of _ C ?_
    simp +contextual -dsimp (maxSteps := 2000000) only [↓SD, SU, SB, Nat.reduceAdd, Nat.reduceBEq, Nat.reduceEqDiff, Nat.reduceLeDiff, Nat.reduceLT, Nat.reduceSub, ↓reduceIte, zA, zI, zN, reduceCtorEq, Int.reduceToNat, zE]
    refine ⟨fun hb => ?_, fun hb => ⟨by omega, Goes.le ⟨k + 1, ⟨⟨hlt, by rw [all_take' _ hlt hp]; exact hb⟩, (by first | omega | (simp only; omega))⟩, rfl⟩ (by simp +contextual -dsimp only [↓SD, SU, SB, Nat.reduceAdd, Nat.reduceBEq, Nat.reduceEqDiff, Nat.reduceLeDiff, Nat.reduceLT, Nat.reduceSub, ↓reduceIte, zA, zI, zN, reduceCtorEq, Int.reduceToNat, zE, Int.natCast_add]) trivial⟩⟩
    unfold tyB; rw [tyItemsB_no hlt hb, Bool.and_false]
  · obtain rfl : k = l.length := by omega
    rw [List.take_length] at hp
    have C := l04End_ok l hx hp (l.length + 1) 0 (by omega) (by omega)
    simp +contextual -dsimp (maxSteps := 2000000) only [↓SD, SU, SB, Nat.reduceAdd, Nat.reduceBEq, Nat.reduceEqDiff, Nat.reduceLeDiff, Nat.reduceLT, Nat.reduceSub, ↓reduceIte, zA, zI, zN, reduceCtorEq, Int.reduceToNat, zE, map_len, Nat.lt_irrefl]
    refine aCallK_of _ C ?_
    simp +contextual -dsimp (maxSteps := 2000000) only [↓SD, SU, SB, Nat.reduceAdd, Nat.reduceBEq, Nat.reduceEqDiff, Nat.reduceLeDiff, Nat.reduceLT, Nat.reduceSub, ↓reduceIte, zA, zI, zN, reduceCtorEq, Int.reduceToNat, zE, map_len]
    congr 1
    rw [endT_skip _ _ _ (by omega), List.drop_zero]
    unfold tyB tyItemsB
    rw [hp, decide_eq_true (p := (l.length : Int) ≤ 200) (by omega), Bool.true_and, Bool.true_and, hA]
    cases hs : skipT 1 (arL l) with
    | none =>
      rw [decide_eq_false (p := (none : Option (List Nat)) = some []) (by simp)]
      exact decide_eq_false (by simp only [Option.map_none, endI]; omega)
    | some r =>
      have := skipT_len _ _ _ hs
      rw [hA] at this
      cases r with
      | nil => simp [endI]
      | cons a r =>
        have h0 : ((a :: r).length) = r.length + 1 := rfl
        rw [decide_eq_false (p := some (a :: r) = some []) (by simp)]
        exact decide_eq_false (by simp only [Option.map_some, endI]; omega)

end Go.Proofs.YtbcifdnfhoikiaaGreat
