/-
  THE GROUND OF DATA, in one text. Conditions: none.
-/
import Derived.Test.YtabifanjbckchaaGreatPackJ

set_option linter.unusedVariables false
set_option linter.unusedSimpArgs false
set_option maxRecDepth 100000
namespace Go.Proofs.YtabifanjbckchaaGreat
open Go.RowKit Go.Proofs.YtabifanjbckchaaGreat.Av Go.Proofs.YtabifanjbckchaaGreat.Ml
open Go.Proofs.YtabifanjbckchaaGreat.Av.AVal (av)

/-- a fact is noted: the facts then, and whether something is wrong -/
def setM (M : List Fc) (y : Fc) : List Fc × Bool := if y.v < 0 ∨ y.e < 0 then (M, true) else match lookF M y.k with
  | none => (M ++ [y], false)
  | some z => (M, decide ¬ (z.v = y.v ∧ z.e = y.e))
theorem setM_neg {M : List Fc} {y : Fc} (h : y.v < 0 ∨ y.e < 0) : setM M y = (M, true) := if_pos h
theorem setM_none {M : List Fc} {y : Fc} (h : ¬ (y.v < 0 ∨ y.e < 0)) (hl : lookF M y.k = none) : setM M y = (M ++ [y], false) := by unfold setM; rw [if_neg h, hl]
theorem setM_some {M : List Fc} {y z : Fc} (h : ¬ (y.v < 0 ∨ y.e < 0)) (hl : lookF M y.k = some z) : setM M y = (M, decide ¬ (z.v = y.v ∧ z.e = y.e)) := by unfold setM; rw [if_neg h, hl]
/-- what all noted facts are -/
structure Nt (c : Code) (M : List Fc) : Prop where
  o : ∀ x ∈ M, Hts c x ∧ FcB M.length x
  n : (M.map Fc.k).Nodup
theorem setM_ok {c : Code} {M : List Fc} {y : Fc} (h : Nt c M) (hy : Hts c y) (hB : FcB (M.length + 1) y) : Nt c (setM M y).1 ∧ M <+: (setM M y).1 ∧ ((setM M y).2 = true → hgtsOk c = false) ∧ ((setM M y).2 = false → y ∈ (setM M y).1) := by
  have hneg : ¬ (y.v < 0 ∨ y.e < 0) := by unfold FcB at hB; omega
  cases hl : lookF M y.k with
  | none =>
    rw [setM_none hneg hl]
    refine ⟨⟨fun x hx => ?_, ?_⟩, List.prefix_append _ _, fun e => (by cases e), fun _ => (by simp)⟩
    · have hlen : (M ++ [y]).length = M.length + 1 := by simp
      rw [hlen]
      rcases List.mem_append.1 hx with e | e
      · exact ⟨(h.o x e).1, (h.o x e).2.mono (by omega)⟩
      · simp at e; subst e; exact ⟨hy, hB⟩
    · rw [List.map_append, List.nodup_append]
      refine ⟨h.n, by simp, fun a ha b hb' e => ?_⟩
      simp at hb'; subst hb'; subst e
      obtain ⟨z, hz, e⟩ := List.mem_map.1 ha
      exact look_none hl z hz e
  | some z =>
    rw [setM_some hneg hl]
    obtain ⟨hz, hzk⟩ := look_mem hl
    refine ⟨h, List.prefix_rfl, fun e => ?_, fun e => ?_⟩
    · simp only [decide_eq_true_eq] at e
      exact clash_no (h.o z hz).1 hy hzk (fun e2 => e (by rw [e2]; exact ⟨rfl, rfl⟩))
    · simp only [decide_eq_false_iff_not, Classical.not_not] at e
      have : z = y := by
        obtain ⟨a1, a2, a3⟩ := z
        obtain ⟨b1, b2, b3⟩ := y
        simp only at hzk e
        rw [hzk, e.1, e.2]
      rw [← this]; exact hz

/-- the reference's heap at work -/
def hbox (c : Code) (n : Nat) (M : List Fc) (b : Bool) (w u1 u2 u3 : Nat) : Hp := [(13, ⟨w, false, 46, 6, [.agg [.sl (c.ins.map av), .sl (c.pats.map av), .row 25 u1 n, .row 34 u2 n, .row 46 u3 M.length, .bool b]]⟩), (25, ⟨u1, false, 3, 1, (valsF n M).map av⟩), (34, ⟨u2, false, 3, 1, (envsF n M).map av⟩), (46, ⟨u3, false, 3, 1, (M.map fun x => (x.k : Int)).map av⟩)]
def SetPost (c : Code) (n : Nat) (M : List Fc) (b : Bool) (w u1 u2 : Nat) (r : AV) (hp' : Hp) : Prop := ∃ u3, r = .tup [] ∧ hp' = hbox c n M b w u1 u2 u3
theorem l18Set_ok (c : Code) (n : Nat) (M : List Fc) (b : Bool) (w u1 u2 u3 : Nat) (hM : M.length ≤ 3000) (y : Fc) (hk : y.k < n) (hpos : ∀ z ∈ M, 0 ≤ z.v) :
    CallsH Tryz.prog 19 [.ptr 13 w 0 0, .int .i64 y.k, .int .i64 y.v, .int .i64 y.e] (hbox c n M b w u1 u2 u3) (SetPost c n (setM M y).1 (b || (setM M y).2) w u1 u2) := by
  refine funH_spec_l18Set rfl ?_
  have hvl := valsF_len n M
  have hel := envsF_len n M
  have ev := getD_map av (valsF n M) y.k .top (by rw [hvl]; exact hk)
  have ee := getD_map av (envsF n M) y.k .top (by rw [hel]; exact hk)
  rw [valsF_get M hk] at ev
  rw [envsF_get M hk] at ee
  unfold hbox
  by_cases h1 : y.v < 0
  · rw [setM_neg (.inl h1)]
    simp +contextual -dsimp (maxSteps := 2000000) only [↓SD, SU, SB, Nat.reduceAdd, Nat.reduceBEq, Nat.reduceEqDiff, Nat.reduceLeDiff, Nat.reduceLT, Nat.reduceSub, ↓reduceIte, zA, zI, zN, reduceCtorEq, Int.reduceToNat, zE, Int.reduceEq, Int.reduceLT, Int.reduceLE, Int.reduceNeg, Int.reduceAdd, Int.reduceSub, ir_spec_l18Set, rs_spec_l18Set, h1]
    refine Goes.post (hbox c n M true w u1 u2 u3) ?_
    unfold hbox
    simp +contextual -dsimp (maxSteps := 2000000) only [↓SD, SU, SB, Nat.reduceAdd, Nat.reduceBEq, Nat.reduceEqDiff, Nat.reduceLeDiff, Nat.reduceLT, Nat.reduceSub, ↓reduceIte, zA, zI, zN, reduceCtorEq, Int.reduceToNat, zE, false_and]
    exact ⟨u3, rfl, by simp [hbox]⟩
  by_cases h2 : y.e < 0
  · rw [setM_neg (.inr h2)]
    simp +contextual -dsimp (maxSteps := 2000000) only [↓SD, SU, SB, Nat.reduceAdd, Nat.reduceBEq, Nat.reduceEqDiff, Nat.reduceLeDiff, Nat.reduceLT, Nat.reduceSub, ↓reduceIte, zA, zI, zN, reduceCtorEq, Int.reduceToNat, zE, Int.reduceEq, Int.reduceLT, Int.reduceLE, Int.reduceNeg, Int.reduceAdd, Int.reduceSub, ir_spec_l18Set, rs_spec_l18Set, h1, h2]
    refine Goes.post (hbox c n M true w u1 u2 u3) ?_
    unfold hbox
    simp +contextual -dsimp (maxSteps := 2000000) only [↓SD, SU, SB, Nat.reduceAdd, Nat.reduceBEq, Nat.reduceEqDiff, Nat.reduceLeDiff, Nat.reduceLT, Nat.reduceSub, ↓reduceIte, zA, zI, zN, reduceCtorEq, Int.reduceToNat, zE, false_and]
    exact ⟨u3, rfl, by simp [hbox]⟩
  have hn : ¬ (y.v < 0 ∨ y.e < 0) := by omega
  cases hl : lookF M y.k with
  | none =>
    rw [setM_none hn hl]
    rw [hl] at ev ee
    simp only [Option.map_none, Option.getD_none] at ev ee
    have hvs : ((valsF n M).map (av : Int → AV)).set y.k (.int .i64 y.v) = (valsF n (M ++ [y])).map av := by
      rw [← valsF_set hl, List.map_set]; rfl
    have hes : ((envsF n M).map (av : Int → AV)).set y.k (.int .i64 y.e) = (envsF n (M ++ [y])).map av := by
      rw [← envsF_set hl, List.map_set]; rfl
    have hml : ((M.map fun x => (x.k : Int)).map (av : Int → AV)).length = M.length := by simp
    have ht : List.take M.length ((M.map fun x => (x.k : Int)).map (av : Int → AV)) = (M.map fun x => (x.k : Int)).map av := List.take_of_length_le (by simp)
    have hap : (M.map fun x => (x.k : Int)).map (av : Int → AV) ++ [.int .i64 (y.k : Int)] = ((M ++ [y]).map fun x => (x.k : Int)).map av := by simp [av_int]
    generalize hG : (M.map fun x => (x.k : Int)).map (av : Int → AV) = G at *
    simp +contextual -dsimp (maxSteps := 2000000) only [↓SD, SU, SB, Nat.reduceAdd, Nat.reduceBEq, Nat.reduceEqDiff, Nat.reduceLeDiff, Nat.reduceLT, Nat.reduceSub, ↓reduceIte, zA, zI, zN, reduceCtorEq, Int.reduceToNat, zE, Int.reduceEq, Int.reduceLT, Int.reduceLE, Int.reduceNeg, Int.reduceAdd, Int.reduceSub, ir_spec_l18Set, rs_spec_l18Set, h1, h2, hk, hvl, hel, map_len, ev, ee, av_int, hvs, hes, hml, ht]
    refine ⟨⟨by omega, by unfold maxLen; omega⟩, fun v => ?_⟩
    refine Goes.post (hbox c n (M ++ [y]) b w u1 u2 v) ?_
    unfold hbox
    rw [← hap]
    simp +contextual -dsimp (maxSteps := 2000000) only [↓SD, SU, SB, Nat.reduceAdd, Nat.reduceBEq, Nat.reduceEqDiff, Nat.reduceLeDiff, Nat.reduceLT, Nat.reduceSub, ↓reduceIte, zA, zI, zN, reduceCtorEq, Int.reduceToNat, zE, false_and, List.length_append]
    exact ⟨v, rfl, by unfold hbox; rw [← hap, List.length_append]; rfl⟩
  | some z =>
    rw [setM_some hn hl]
    obtain ⟨hz, hzk⟩ := look_mem hl
    have hz0 := hpos z hz
    have hz1 : ¬ z.v < 0 := by omega
    rw [hl] at ev ee
    simp only [Option.map_some, Option.getD_some] at ev ee
    by_cases hv : z.v = y.v
    · have h1' : ¬ y.v < 0 := h1
      by_cases he : z.e = y.e
      · have : (decide ¬ (z.v = y.v ∧ z.e = y.e)) = false := by simp [hv, he]
        rw [this]
        simp +contextual -dsimp (maxSteps := 2000000) only [↓SD, SU, SB, Nat.reduceAdd, Nat.reduceBEq, Nat.reduceEqDiff, Nat.reduceLeDiff, Nat.reduceLT, Nat.reduceSub, ↓reduceIte, zA, zI, zN, reduceCtorEq, Int.reduceToNat, zE, Int.reduceEq, Int.reduceLT, Int.reduceLE, Int.reduceNeg, Int.reduceAdd, Int.reduceSub, ir_spec_l18Set, rs_spec_l18Set, h1, h2, hk, hvl, hel, map_len, ev, ee, av_int, hz1, hv, he]
        refine Goes.post (hbox c n M b w u1 u2 u3) ?_
        unfold hbox
        simp +contextual -dsimp (maxSteps := 2000000) only [↓SD, SU, SB, Nat.reduceAdd, Nat.reduceBEq, Nat.reduceEqDiff, Nat.reduceLeDiff, Nat.reduceLT, Nat.reduceSub, ↓reduceIte, zA, zI, zN, reduceCtorEq, Int.reduceToNat, zE, false_and]
        exact ⟨u3, rfl, by simp [hbox]⟩
      · have : (decide ¬ (z.v = y.v ∧ z.e = y.e)) = true := by simp [hv, he]
        rw [this]
        simp +contextual -dsimp (maxSteps := 2000000) only [↓SD, SU, SB, Nat.reduceAdd, Nat.reduceBEq, Nat.reduceEqDiff, Nat.reduceLeDiff, Nat.reduceLT, Nat.reduceSub, ↓reduceIte, zA, zI, zN, reduceCtorEq, Int.reduceToNat, zE, Int.reduceEq, Int.reduceLT, Int.reduceLE, Int.reduceNeg, Int.reduceAdd, Int.reduceSub, ir_spec_l18Set, rs_spec_l18Set, h1, h2, hk, hvl, hel, map_len, ev, ee, av_int, hz1, hv, he]
        refine Goes.post (hbox c n M true w u1 u2 u3) ?_
        unfold hbox
        simp +contextual -dsimp (maxSteps := 2000000) only [↓SD, SU, SB, Nat.reduceAdd, Nat.reduceBEq, Nat.reduceEqDiff, Nat.reduceLeDiff, Nat.reduceLT, Nat.reduceSub, ↓reduceIte, zA, zI, zN, reduceCtorEq, Int.reduceToNat, zE, false_and]
        exact ⟨u3, rfl, by simp [hbox]⟩
    · have : (decide ¬ (z.v = y.v ∧ z.e = y.e)) = true := by simp [hv]
      rw [this]
      simp +contextual -dsimp (maxSteps := 2000000) only [↓SD, SU, SB, Nat.reduceAdd, Nat.reduceBEq, Nat.reduceEqDiff, Nat.reduceLeDiff, Nat.reduceLT, Nat.reduceSub, ↓reduceIte, zA, zI, zN, reduceCtorEq, Int.reduceToNat, zE, Int.reduceEq, Int.reduceLT, Int.reduceLE, Int.reduceNeg, Int.reduceAdd, Int.reduceSub, ir_spec_l18Set, rs_spec_l18Set, h1, h2, hk, hvl, hel, map_len, ev, ee, av_int, hz1, hv]
      refine Goes.post (hbox c n M true w u1 u2 u3) ?_
      unfold hbox
      simp +contextual -dsimp (maxSteps := 2000000) only [↓SD, SU, SB, Nat.reduceAdd, Nat.reduceBEq, Nat.reduceEqDiff, Nat.reduceLeDiff, Nat.reduceLT, Nat.reduceSub, ↓reduceIte, zA, zI, zN, reduceCtorEq, Int.reduceToNat, zE, false_and]
      exact ⟨u3, rfl, by simp [hbox]⟩
end Go.Proofs.YtabifanjbckchaaGreat


set_option linter.unusedVariables false
set_option linter.unusedSimpArgs false
set_option maxRecDepth 100000
namespace Go.Proofs.YtabifanjbckchaaGreat
open Go.RowKit Go.Proofs.YtabifanjbckchaaGreat.Av Go.Proofs.YtabifanjbckchaaGreat.Ml
open Go.Proofs.YtabifanjbckchaaGreat.Av.AVal (av)

theorem needsS_ok (i : Ins) : CallsF Tryz.prog 34 [av i] (.int .i64 (needI i)) := by
  refine fun_spec_l18Needs rfl (by simp; exact AVal.clean i) (pint _) ?_
  simp +contextual -dsimp (maxSteps := 2000000) only [↓SD, SU, SB, Nat.reduceAdd, Nat.reduceBEq, Nat.reduceEqDiff, Nat.reduceLeDiff, Nat.reduceLT, Nat.reduceSub, ↓reduceIte, zA, zI, zN, reduceCtorEq, Int.reduceToNat, zE, Int.reduceEq, Int.reduceLT, Int.reduceLE, Int.reduceNeg, Int.reduceAdd, Int.reduceSub, ir_spec_l18Needs, rs_spec_l18Needs, av_Ins]
  (repeat' (first | intro _ | refine And.intro ?_ ?_))
  all_goals (simp [needI, *]; done)
theorem makesS_ok (i : Ins) : CallsF Tryz.prog 36 [av i] (.int .i64 (makeI i)) := by
  refine fun_spec_l18Makes rfl (by simp; exact AVal.clean i) (pint _) ?_
  simp +contextual -dsimp (maxSteps := 2000000) only [↓SD, SU, SB, Nat.reduceAdd, Nat.reduceBEq, Nat.reduceEqDiff, Nat.reduceLeDiff, Nat.reduceLT, Nat.reduceSub, ↓reduceIte, zA, zI, zN, reduceCtorEq, Int.reduceToNat, zE, Int.reduceEq, Int.reduceLT, Int.reduceLE, Int.reduceNeg, Int.reduceAdd, Int.reduceSub, ir_spec_l18Makes, rs_spec_l18Makes, av_Ins]
  (repeat' (first | intro _ | refine And.intro ?_ ?_))
  all_goals (simp [makeI, *]; done)
theorem namesS_ok (l : List PNode) (hx : Bulk.bulk l ≤ 1048576) : CallsF Tryz.prog 54 [.agg [.sl (l.map av)]] (.int .i64 ((varsOf l).length : Int)) := by
  have hl := bulk_length l
  refine fun_spec_l18Names rfl (by simp; exact AvPure.agg (by simp; exact lav_clean l)) (pint _) ?_
  simp +contextual -dsimp (maxSteps := 2000000) only [↓SD, SU, SB, Nat.reduceAdd, Nat.reduceBEq, Nat.reduceEqDiff, Nat.reduceLeDiff, Nat.reduceLT, Nat.reduceSub, ↓reduceIte, zA, zI, zN, reduceCtorEq, Int.reduceToNat, zE, Int.reduceEq, Int.reduceLT, Int.reduceLE, Int.reduceNeg, Int.reduceAdd, Int.reduceSub, ir_spec_l18Names, rs_spec_l18Names, map_len]
  refine aLoop_of (X := Nat) (fun k => ⟨[(3, .int .i64 ((varsOf (l.take k)).length : Int)), (7, .sl (l.map av)), (8, .int .i64 l.length), (9, .int .i64 k)], []⟩) (fun k => k ≤ l.length) (fun k => l.length - k) 0 (Nat.zero_le _) (by simp +contextual -dsimp only [↓SD, SU, SB, Nat.reduceAdd, Nat.reduceBEq, Nat.reduceEqDiff, Nat.reduceLeDiff, Nat.reduceLT, Nat.reduceSub, ↓reduceIte, zA, zI, zN, reduceCtorEq, Int.reduceToNat, zE, varsOf, List.filterMap_nil]) (by trivial) ?_
  intro k hk
  by_cases hlt : k < l.length
  · have e := getD_map av l k .top hlt
    have hv := varsOf_snoc hlt
    have hvl := varsOf_len (l.take k)
    rw [List.length_take] at hvl
    generalize l[k] = a at *
    by_cases h2 : a.kind = 2
    · rw [if_pos h2] at hv
      simp +contextual -dsimp (maxSteps := 2000000) only [↓SD, SU, SB, Nat.reduceAdd, Nat.reduceBEq, Nat.reduceEqDiff, Nat.reduceLeDiff, Nat.reduceLT, Nat.reduceSub, ↓reduceIte, zA, zI, zN, reduceCtorEq, Int.reduceToNat, zE, Int.reduceEq, Int.reduceLT, Int.reduceLE, Int.reduceNeg, Int.reduceAdd, Int.reduceSub, map_len, hlt, e, av_PNode, h2]
      intro w
      (repeat' (first | intro _ | refine And.intro ?_ ?_))
      all_goals first | omega | skip
      exact Goes.le ⟨k + 1, ⟨hlt, (by first | omega | (simp only; omega))⟩, rfl⟩ (by simp +contextual -dsimp only [↓SD, SU, SB, Nat.reduceAdd, Nat.reduceBEq, Nat.reduceEqDiff, Nat.reduceLeDiff, Nat.reduceLT, Nat.reduceSub, ↓reduceIte, zA, zI, zN, reduceCtorEq, Int.reduceToNat, zE, Int.natCast_add, hv, List.length_append]) (by trivial)
    · rw [if_neg h2, List.append_nil] at hv
      simp +contextual -dsimp (maxSteps := 2000000) only [↓SD, SU, SB, Nat.reduceAdd, Nat.reduceBEq, Nat.reduceEqDiff, Nat.reduceLeDiff, Nat.reduceLT, Nat.reduceSub, ↓reduceIte, zA, zI, zN, reduceCtorEq, Int.reduceToNat, zE, Int.reduceEq, Int.reduceLT, Int.reduceLE, Int.reduceNeg, Int.reduceAdd, Int.reduceSub, map_len, hlt, e, av_PNode, h2]
      intro w
      (repeat' (first | intro _ | refine And.intro ?_ ?_))
      all_goals first | omega | skip
      exact Goes.le ⟨k + 1, ⟨hlt, (by first | omega | (simp only; omega))⟩, rfl⟩ (by simp +contextual -dsimp only [↓SD, SU, SB, Nat.reduceAdd, Nat.reduceBEq, Nat.reduceEqDiff, Nat.reduceLeDiff, Nat.reduceLT, Nat.reduceSub, ↓reduceIte, zA, zI, zN, reduceCtorEq, Int.reduceToNat, zE, Int.natCast_add, hv]) (by trivial)
  · obtain rfl : k = l.length := by omega
    simp +contextual -dsimp (maxSteps := 2000000) only [↓SD, SU, SB, Nat.reduceAdd, Nat.reduceBEq, Nat.reduceEqDiff, Nat.reduceLeDiff, Nat.reduceLT, Nat.reduceSub, ↓reduceIte, zA, zI, zN, reduceCtorEq, Int.reduceToNat, zE, Int.reduceEq, Int.reduceLT, Int.reduceLE, Int.reduceNeg, Int.reduceAdd, Int.reduceSub, map_len, Nat.lt_irrefl, List.take_length]
theorem moreS_ok (c : Code) (hx : Bulk.bulk c ≤ 1048576) (hb : codeB c = true) (i : Ins) (hi : insB c.ins.length c.pats.length i = true) : CallsF Tryz.prog 37 [av c, av i] (.int .i64 (moreI c i)) := by
  obtain ⟨⟨hl, hq⟩, hs, hp⟩ := code_small hx
  have hmr := more_rng hb hi
  refine fun_spec_l18More rfl (by simp; exact ⟨AVal.clean c, AVal.clean i⟩) (pint _) ?_
  by_cases h20 : i.op = 20
  · obtain ⟨ins, pats⟩ := c
    obtain ⟨op, a, b, s⟩ := i
    dsimp only at h20 hl hq hs hp
    subst h20
    have ha : 0 ≤ a ∧ a < pats.length := by
      unfold insB leadB at hi
      simp at hi
      omega
    obtain ⟨m, rfl⟩ : ∃ m : Nat, a = m := ⟨a.toNat, by omega⟩
    have hm : m < pats.length := by omega
    have e1 := getD_map av pats m .top hm
    have CP := namesS_ok (pats[m]).nodes (hp _ (List.getElem_mem hm))
    have hr : moreI ⟨ins, pats⟩ ⟨20, (m : Int), b, s⟩ = ((varsOf (pats[m]).nodes).length : Int) := by
      unfold moreI namesI; simp [List.getD_eq_getElem?_getD, hm]
    rw [hr]
    generalize pats[m] = q at *
    simp +contextual -dsimp (maxSteps := 2000000) only [↓SD, SU, SB, Nat.reduceAdd, Nat.reduceBEq, Nat.reduceEqDiff, Nat.reduceLeDiff, Nat.reduceLT, Nat.reduceSub, ↓reduceIte, zA, zI, zN, reduceCtorEq, Int.reduceToNat, zE, Int.reduceEq, Int.reduceLT, Int.reduceLE, Int.reduceNeg, Int.reduceAdd, Int.reduceSub, ir_spec_l18More, rs_spec_l18More, av_Code, av_Ins, hm, e1, av_Pat, map_len]
    refine aCallK_of _ CP ?_
    simp +contextual -dsimp (maxSteps := 2000000) only [↓SD, SU, SB, Nat.reduceAdd, Nat.reduceBEq, Nat.reduceEqDiff, Nat.reduceLeDiff, Nat.reduceLT, Nat.reduceSub, ↓reduceIte, zA, zI, zN, reduceCtorEq, Int.reduceToNat, zE, Int.reduceEq, Int.reduceLT, Int.reduceLE, Int.reduceNeg, Int.reduceAdd, Int.reduceSub]
  · have e : moreI c i = if i.op = 9 ∨ i.op = 14 then 1 else if i.op = 15 then -i.a else 0 := by unfold moreI; rw [if_neg h20]
    by_cases h15 : i.op = 15
    · have e2 : moreI c i = -i.a := by rw [e]; simp [h15]
      rw [e2] at hmr ⊢
      simp +contextual -dsimp (maxSteps := 2000000) only [↓SD, SU, SB, Nat.reduceAdd, Nat.reduceBEq, Nat.reduceEqDiff, Nat.reduceLeDiff, Nat.reduceLT, Nat.reduceSub, ↓reduceIte, zA, zI, zN, reduceCtorEq, Int.reduceToNat, zE, Int.reduceEq, Int.reduceLT, Int.reduceLE, Int.reduceNeg, Int.reduceAdd, Int.reduceSub, ir_spec_l18More, rs_spec_l18More, av_Code, av_Ins, h15]
      omega
    · simp +contextual -dsimp (maxSteps := 2000000) only [↓SD, SU, SB, Nat.reduceAdd, Nat.reduceBEq, Nat.reduceEqDiff, Nat.reduceLeDiff, Nat.reduceLT, Nat.reduceSub, ↓reduceIte, zA, zI, zN, reduceCtorEq, Int.reduceToNat, zE, Int.reduceEq, Int.reduceLT, Int.reduceLE, Int.reduceNeg, Int.reduceAdd, Int.reduceSub, ir_spec_l18More, rs_spec_l18More, av_Code, av_Ins, h20, h15]
      (repeat' (first | intro _ | refine And.intro ?_ ?_))
      all_goals (simp [e, *]; done)
theorem goesS2_ok (i : Ins) : CallsF Tryz.prog 35 [av i] (.bool (goesB i)) := goesS_ok i
/-- behind a step: what is noted, whether something is wrong -/
structure StepP (c : Code) (M : List Fc) (x : Fc) (M' : List Fc) (b' : Bool) : Prop where
  nt : Nt c M'
  pre : M <+: M'
  bad : b' = true → hgtsOk c = false
  good : b' = false → ¬ badF c x ∧ ∀ y ∈ leapF c x, y ∈ M'
def StepPost (c : Code) (n : Nat) (M : List Fc) (x : Fc) (w u1 u2 : Nat) (r : AV) (hp' : Hp) : Prop := ∃ M' b' u3, StepP c M x M' b' ∧ r = .tup [] ∧ hp' = hbox c n M' b' w u1 u2 u3
theorem hbox_get (c : Code) (n : Nat) (M : List Fc) (b : Bool) (w u1 u2 u3 : Nat) : hbox c n M b w u1 u2 u3 = [(13, ⟨w, false, 46, 6, [.agg [.sl (c.ins.map av), .sl (c.pats.map av), .row 25 u1 n, .row 34 u2 n, .row 46 u3 M.length, .bool b]]⟩), (25, ⟨u1, false, 3, 1, (valsF n M).map av⟩), (34, ⟨u2, false, 3, 1, (envsF n M).map av⟩), (46, ⟨u3, false, 3, 1, (M.map fun x => (x.k : Int)).map av⟩)] := rfl
theorem look_of {M : List Fc} (h : (M.map Fc.k).Nodup) {x : Fc} (hx : x ∈ M) : lookF M x.k = some x := by
  cases hl : lookF M x.k with
  | none => exact absurd rfl (look_none hl x hx)
  | some z =>
    obtain ⟨hz, hzk⟩ := look_mem hl
    rw [nodup_key h z hz x hx hzk]
theorem targ_cases {c : Code} {i : Ins} (hi : insB c.ins.length c.pats.length i = true) (v e : Int) :
    (i.op = 8 ∧ ((i.a.toNat : Nat) : Int) = i.a ∧ i.a.toNat < c.ins.length ∧ targF i v e = [⟨i.a.toNat, 0, e + 1⟩]) ∨ (i.op = 9 ∧ ((i.a.toNat : Nat) : Int) = i.a ∧ i.a.toNat < c.ins.length ∧ targF i v e = [⟨i.a.toNat, 0, e + 2⟩]) ∨
    (i.op = 12 ∧ ((i.a.toNat : Nat) : Int) = i.a ∧ i.a.toNat < c.ins.length ∧ targF i v e = [⟨i.a.toNat, v, e⟩]) ∨ (i.op = 20 ∧ ((i.b.toNat : Nat) : Int) = i.b ∧ i.b.toNat < c.ins.length ∧ targF i v e = [⟨i.b.toNat, v, e⟩]) ∨
    (i.op = 13 ∧ ((i.a.toNat : Nat) : Int) = i.a ∧ i.a.toNat < c.ins.length ∧ targF i v e = [⟨i.a.toNat, v - 1, e⟩]) ∨ (i.op = 18 ∧ ((i.a.toNat : Nat) : Int) = i.a ∧ i.a.toNat < c.ins.length ∧ targF i v e = [⟨i.a.toNat, v, e + 1⟩]) ∨
    ((i.op ≠ 8 ∧ i.op ≠ 9 ∧ i.op ≠ 12 ∧ i.op ≠ 20 ∧ i.op ≠ 13 ∧ i.op ≠ 18) ∧ targF i v e = []) := by
  unfold insB leadB at hi
  unfold targF
  by_cases h8 : i.op = 8
  · left; simp [h8] at hi ⊢; omega
  right
  by_cases h9 : i.op = 9
  · left; simp [h9] at hi ⊢; omega
  right
  by_cases h12 : i.op = 12
  · left; simp [h12] at hi ⊢; omega
  right
  by_cases h20 : i.op = 20
  · left; simp [h20] at hi ⊢; omega
  right
  by_cases h13 : i.op = 13
  · left; simp [h13] at hi ⊢; omega
  right
  by_cases h18 : i.op = 18
  · left; simp [h18] at hi ⊢; omega
  right
  exact ⟨⟨h8, h9, h12, h20, h13, h18⟩, by simp [h8, h9, h12, h20, h13, h18]⟩
theorem nt_len {c : Code} (hr : reachedL c ≠ []) {M : List Fc} (h : Nt c M) : M.length ≤ 3000 := by
  have h1 := nodup_bound h.n (n := c.ins.length) fun k hk => by
    obtain ⟨x, hx, rfl⟩ := List.mem_map.1 hk
    exact ((rch_in hr).2 _ (hts_rch (h.o x hx).1)).1
  have hb := (rch_in hr).1
  unfold codeB at hb
  simp only [Bool.and_eq_true, decide_eq_true_eq] at hb
  simp only [List.length_map] at h1
  omega
theorem nt_pos {c : Code} {M : List Fc} (h : Nt c M) : ∀ z ∈ M, 0 ≤ z.v := fun z hz => by have := (h.o z hz).2; unfold FcB at this; omega
set_option maxHeartbeats 8000000 in
theorem l18Step_ok (c : Code) (hx : Bulk.bulk c ≤ 1048576) (hr : reachedL c ≠ []) (M : List Fc) (hM : Nt c M) (hMl : M.length ≤ 3000) (x : Fc) (hxm : x ∈ M) (w u1 u2 u3 : Nat) :
    CallsH Tryz.prog 20 [.ptr 13 w 0 0, .int .i64 x.k] (hbox c c.ins.length M false w u1 u2 u3) (StepPost c c.ins.length M x w u1 u2) := by
  obtain ⟨hb, hin⟩ := rch_in hr
  obtain ⟨hH, hB⟩ := hM.o x hxm
  have hk := (hin _ (hts_rch hH)).1
  have hi := ins_ok hb hk
  have ei : insAt c.ins x.k = c.ins[x.k] := by simp [insAt, List.getD_eq_getElem?_getD, hk]
  have e0 := getD_map av c.ins x.k .top hk
  have hlk := look_of hM.n hxm
  have hvl := valsF_len c.ins.length M
  have hel := envsF_len c.ins.length M
  have ev := getD_map av (valsF c.ins.length M) x.k .top (by rw [hvl]; exact hk)
  have ee := getD_map av (envsF c.ins.length M) x.k .top (by rw [hel]; exact hk)
  rw [valsF_get M hk, hlk] at ev
  rw [envsF_get M hk, hlk] at ee
  simp only [Option.map_some, Option.getD_some] at ev ee
  have hleapB : ¬ badF c x → ∀ y ∈ leapF c x, FcB (M.length + 1) y := fun hn => leap_b hb hk hB hn
  have hleapH : ∀ y ∈ leapF c x, Hts c y ∧ y.k < c.ins.length := fun y hy => ⟨.step hH hy, (hin _ (hts_rch (.step hH hy))).1⟩
  have hbn : badF c x → hgtsOk c = false := bad_no hH
  have hgb : goesB (insAt c.ins x.k) = false → x.e + moreI c (insAt c.ins x.k) < 0 → False := fun hg h => by
    have : -3000 ≤ moreI c (insAt c.ins x.k) := (more_rng hb hi).1
    have h15 : (insAt c.ins x.k).op ≠ 15 := fun e => by simp [goesB, e] at hg
    have h0 : 0 ≤ moreI c (insAt c.ins x.k) := by
      have := names_le hb (insAt c.ins x.k).a
      unfold moreI
      split
      · omega
      · split <;> omega
    unfold FcB at hB
    omega
  unfold leapF badF at *
  rw [ei] at hi hleapB hleapH hbn hgb
  have hSP : ∀ M' b', StepP c M x M' b' ↔ (Nt c M' ∧ M <+: M' ∧ (b' = true → hgtsOk c = false) ∧ (b' = false → ¬ badI c c.ins[x.k] x ∧ ∀ y ∈ nextF c c.ins[x.k] x ++ targF c.ins[x.k] x.v x.e, y ∈ M')) := fun M' b' => by
    constructor
    · rintro ⟨a1, a2, a3, a4⟩
      unfold leapF badF at a4
      rw [ei] at a4
      exact ⟨a1, a2, a3, a4⟩
    · rintro ⟨a1, a2, a3, a4⟩
      refine ⟨a1, a2, a3, ?_⟩
      unfold leapF badF
      rw [ei]
      exact a4
  have CN := needsS_ok c.ins[x.k]
  have CK := makesS_ok c.ins[x.k]
  have CM := moreS_ok c hx hb c.ins[x.k] hi
  have CG := goesS_ok c.ins[x.k]
  have hnd := need_rng hi
  have hmr := more_rng hb hi
  have htc := targ_cases (c := c) hi x.v x.e
  have hpos : ∀ z ∈ M, 0 ≤ z.v := fun z hz => by have := (hM.o z hz).2; unfold FcB at this; omega
  refine funH_spec_l18Step rfl ?_
  generalize c.ins[x.k] = i at *
  rw [av_Ins] at CN CK CM CG
  rw [av_Code] at CM
  unfold hbox
  simp +contextual -dsimp (maxSteps := 2000000) only [↓SD, SU, SB, Nat.reduceAdd, Nat.reduceBEq, Nat.reduceEqDiff, Nat.reduceLeDiff, Nat.reduceLT, Nat.reduceSub, ↓reduceIte, zA, zI, zN, reduceCtorEq, Int.reduceToNat, zE, Int.reduceEq, Int.reduceLT, Int.reduceLE, Int.reduceNeg, Int.reduceAdd, Int.reduceSub, ir_spec_l18Step, rs_spec_l18Step, map_len, hk, e0, av_Ins, hvl, hel, ev, ee, av_int]
  intro u4
  refine aCallK_of _ CN ?_
  have wrong : ∀ (u : Nat), badI c i x → StepPost c c.ins.length M x w u1 u2 (.tup []) (hbox c c.ins.length M true w u1 u2 u) := fun u h => ⟨M, true, u, (hSP M true).2 ⟨hM, List.prefix_rfl, fun _ => hbn h, fun e => by cases e⟩, rfl, rfl⟩
  by_cases c1 : x.v < needI i
  · simp +contextual -dsimp (maxSteps := 2000000) only [↓SD, SU, SB, Nat.reduceAdd, Nat.reduceBEq, Nat.reduceEqDiff, Nat.reduceLeDiff, Nat.reduceLT, Nat.reduceSub, ↓reduceIte, zA, zI, zN, reduceCtorEq, Int.reduceToNat, zE, Int.reduceEq, Int.reduceLT, Int.reduceLE, Int.reduceNeg, Int.reduceAdd, Int.reduceSub, c1]
    refine Goes.post (hbox c c.ins.length M true w u1 u2 u3) ?_
    rw [hbox_get]
    simp +contextual -dsimp (maxSteps := 2000000) only [↓SD, SU, SB, Nat.reduceAdd, Nat.reduceBEq, Nat.reduceEqDiff, Nat.reduceLeDiff, Nat.reduceLT, Nat.reduceSub, ↓reduceIte, zA, zI, zN, reduceCtorEq, Int.reduceToNat, zE, false_and]
    exact wrong u3 (.inl c1)
  by_cases c2 : i.op = 11 ∧ x.v ≠ 1
  · have c22 : ¬ x.v = 1 := c2.2
    simp +contextual -dsimp (maxSteps := 2000000) only [↓SD, SU, SB, Nat.reduceAdd, Nat.reduceBEq, Nat.reduceEqDiff, Nat.reduceLeDiff, Nat.reduceLT, Nat.reduceSub, ↓reduceIte, zA, zI, zN, reduceCtorEq, Int.reduceToNat, zE, Int.reduceEq, Int.reduceLT, Int.reduceLE, Int.reduceNeg, Int.reduceAdd, Int.reduceSub, c1, c2.1, c22]
    refine Goes.post (hbox c c.ins.length M true w u1 u2 u3) ?_
    rw [hbox_get]
    simp +contextual -dsimp (maxSteps := 2000000) only [↓SD, SU, SB, Nat.reduceAdd, Nat.reduceBEq, Nat.reduceEqDiff, Nat.reduceLeDiff, Nat.reduceLT, Nat.reduceSub, ↓reduceIte, zA, zI, zN, reduceCtorEq, Int.reduceToNat, zE, false_and]
    exact wrong u3 (.inr (.inl c2))
  by_cases c3 : i.op = 6 ∧ x.e ≤ i.a
  · simp +contextual -dsimp (maxSteps := 2000000) only [↓SD, SU, SB, Nat.reduceAdd, Nat.reduceBEq, Nat.reduceEqDiff, Nat.reduceLeDiff, Nat.reduceLT, Nat.reduceSub, ↓reduceIte, zA, zI, zN, reduceCtorEq, Int.reduceToNat, zE, Int.reduceEq, Int.reduceLT, Int.reduceLE, Int.reduceNeg, Int.reduceAdd, Int.reduceSub, c1, c3.1, c3.2]
    refine Goes.post (hbox c c.ins.length M true w u1 u2 u3) ?_
    rw [hbox_get]
    simp +contextual -dsimp (maxSteps := 2000000) only [↓SD, SU, SB, Nat.reduceAdd, Nat.reduceBEq, Nat.reduceEqDiff, Nat.reduceLeDiff, Nat.reduceLT, Nat.reduceSub, ↓reduceIte, zA, zI, zN, reduceCtorEq, Int.reduceToNat, zE, false_and]
    exact wrong u3 (.inr (.inr (.inl c3)))
  have c2' : i.op = 11 → x.v = 1 := fun h => Classical.byContradiction fun h2 => c2 ⟨h, h2⟩
  have c3' : i.op = 6 → ¬ x.e ≤ i.a := fun h h2 => c3 ⟨h, h2⟩
  have c11 : i.op = 11 → ¬ (1 : Int) < needI i := fun h h2 => by have := c2' h; omega
  have hn3 : c.ins.length ≤ 3000 := by
    have := hb
    unfold codeB at this
    simp only [Bool.and_eq_true, decide_eq_true_eq] at this
    omega
  have hx0 : 0 ≤ x.v ∧ 0 ≤ x.e ∧ x.v ≤ 3000 ∧ x.e ≤ 3000000 := by unfold FcB at hB; omega
  have m15 : i.op ≠ 15 → 0 ≤ moreI c i := fun h15 => by
    have := names_le hb i.a
    unfold moreI
    split
    · omega
    · split <;> omega
  have hnb : i.op ≠ 15 → ¬ badI c i x := fun h hbd => by
    have := m15 h
    rcases hbd with h1 | h1 | h1 | h1
    · exact c1 h1
    · exact c2 h1
    · exact c3 h1
    · omega
  rcases htc with ⟨ho, ha, hl, ht⟩ | ⟨ho, ha, hl, ht⟩ | ⟨ho, ha, hl, ht⟩ | ⟨ho, ha, hl, ht⟩ | ⟨ho, ha, hl, ht⟩ | ⟨ho, ha, hl, ht⟩ | ⟨⟨o8, o9, o12, o20, o13, o18⟩, ht⟩
  iterate 6
    (have hmem := List.mem_append_right (nextF c i x) (show _ ∈ targF i x.v x.e by rw [ht]; exact List.mem_singleton.2 rfl)
     obtain ⟨hHy, hky⟩ := hleapH _ hmem
     have hBy := hleapB (hnb (by omega)) _ hmem
     have CS := l18Set_ok c c.ins.length M false w u1 u2 u3 hMl _ hky hpos
     have Q := setM_ok hM hHy hBy
     unfold hbox at CS
     dsimp only at CS
     rw [ha] at CS
     rw [ho] at CG CN CK CM
     simp +contextual -dsimp (maxSteps := 2000000) only [↓SD, SU, SB, Nat.reduceAdd, Nat.reduceBEq, Nat.reduceEqDiff, Nat.reduceLeDiff, Nat.reduceLT, Nat.reduceSub, ↓reduceIte, zA, zI, zN, reduceCtorEq, Int.reduceToNat, zE, Int.reduceEq, Int.reduceLT, Int.reduceLE, Int.reduceNeg, Int.reduceAdd, Int.reduceSub, c1, c2', c11, c3', ho]
     try (refine ⟨by omega, ?_⟩)
     refine aCallH_of [13, 25, 34, 46] CS (by simp +contextual -dsimp only [↓SD, SU, SB, Nat.reduceAdd, Nat.reduceBEq, Nat.reduceEqDiff, Nat.reduceLeDiff, Nat.reduceLT, Nat.reduceSub, ↓reduceIte, zA, zI, zN, reduceCtorEq, Int.reduceToNat, zE]) ?_
     rintro r hp' ⟨v3, rfl, rfl⟩
     rw [hbox_get]
     generalize setM M _ = P at *
     obtain ⟨M1, b1⟩ := P
     dsimp only [Bool.false_or] at Q ⊢
     have Q4 : b1 = false → ∀ y ∈ targF i x.v x.e, y ∈ M1 := fun e y hy => by
       rw [ht] at hy
       simp only [List.mem_cons, List.not_mem_nil, or_false] at hy
       subst hy
       exact Q.2.2.2 e
     simp +contextual -dsimp (maxSteps := 2000000) only [↓SD, SU, SB, Nat.reduceAdd, Nat.reduceBEq, Nat.reduceEqDiff, Nat.reduceLeDiff, Nat.reduceLT, Nat.reduceSub, ↓reduceIte, zA, zI, zN, reduceCtorEq, Int.reduceToNat, zE, Int.reduceEq, Int.reduceLT, Int.reduceLE, Int.reduceNeg, Int.reduceAdd, Int.reduceSub, c1, c2', c11, c3', ho]
     refine aCallK_of _ CG ?_
     cases hg : goesB i
     · simp +contextual -dsimp (maxSteps := 2000000) only [↓SD, SU, SB, Nat.reduceAdd, Nat.reduceBEq, Nat.reduceEqDiff, Nat.reduceLeDiff, Nat.reduceLT, Nat.reduceSub, ↓reduceIte, zA, zI, zN, reduceCtorEq, Int.reduceToNat, zE, Int.reduceEq, Int.reduceLT, Int.reduceLE, Int.reduceNeg, Int.reduceAdd, Int.reduceSub]
       refine Goes.post (hbox c c.ins.length M1 b1 w u1 u2 v3) ?_
       rw [hbox_get]
       simp +contextual -dsimp (maxSteps := 2000000) only [↓SD, SU, SB, Nat.reduceAdd, Nat.reduceBEq, Nat.reduceEqDiff, Nat.reduceLeDiff, Nat.reduceLT, Nat.reduceSub, ↓reduceIte, zA, zI, zN, reduceCtorEq, Int.reduceToNat, zE, false_and]
       refine ⟨M1, b1, v3, (hSP M1 b1).2 ⟨Q.1, Q.2.1, Q.2.2.1, fun hb1 => ⟨fun hbd => ?_, fun y hy => ?_⟩⟩, rfl, rfl⟩
       · rcases hbd with h1 | h1 | h1 | h1
         · exact c1 h1
         · exact c2 h1
         · exact c3 h1
         · exact hgb hg h1
       · rcases List.mem_append.1 hy with h1 | h1
         · unfold nextF at h1; rw [hg] at h1; cases h1
         · exact Q4 hb1 y h1
     · have hmz : (⟨x.k + 1, x.v - needI i + makeI i, x.e + moreI c i⟩ : Fc) ∈ nextF c i x ++ targF i x.v x.e := by
         refine List.mem_append_left _ ?_
         unfold nextF; rw [if_pos hg]; simp
       obtain ⟨hHz, hkz⟩ := hleapH _ hmz
       have CS2 := l18Set_ok c c.ins.length M1 b1 w u1 u2 v3 (nt_len hr Q.1) _ hkz (nt_pos Q.1)
       unfold hbox at CS2
       dsimp only at CS2
       rw [show ((x.k + 1 : Nat) : Int) = (x.k : Int) + 1 from rfl] at CS2
       simp +contextual -dsimp (maxSteps := 2000000) only [↓SD, SU, SB, Nat.reduceAdd, Nat.reduceBEq, Nat.reduceEqDiff, Nat.reduceLeDiff, Nat.reduceLT, Nat.reduceSub, ↓reduceIte, zA, zI, zN, reduceCtorEq, Int.reduceToNat, zE, Int.reduceEq, Int.reduceLT, Int.reduceLE, Int.reduceNeg, Int.reduceAdd, Int.reduceSub, av_Ins]
       (repeat' (first | intro _ | refine And.intro ?_ ?_))
       all_goals first | omega | skip
       refine aCallK_of _ CN ?_
       simp +contextual -dsimp (maxSteps := 2000000) only [↓SD, SU, SB, Nat.reduceAdd, Nat.reduceBEq, Nat.reduceEqDiff, Nat.reduceLeDiff, Nat.reduceLT, Nat.reduceSub, ↓reduceIte, zA, zI, zN, reduceCtorEq, Int.reduceToNat, zE, Int.reduceEq, Int.reduceLT, Int.reduceLE, Int.reduceNeg, Int.reduceAdd, Int.reduceSub]
       (repeat' (first | intro _ | refine And.intro ?_ ?_))
       all_goals first | omega | skip
       refine aCallK_of _ CK ?_
       simp +contextual -dsimp (maxSteps := 2000000) only [↓SD, SU, SB, Nat.reduceAdd, Nat.reduceBEq, Nat.reduceEqDiff, Nat.reduceLeDiff, Nat.reduceLT, Nat.reduceSub, ↓reduceIte, zA, zI, zN, reduceCtorEq, Int.reduceToNat, zE, Int.reduceEq, Int.reduceLT, Int.reduceLE, Int.reduceNeg, Int.reduceAdd, Int.reduceSub]
       (repeat' (first | intro _ | refine And.intro ?_ ?_))
       all_goals first | omega | skip
       refine aCallK_of _ CM ?_
       simp +contextual -dsimp (maxSteps := 2000000) only [↓SD, SU, SB, Nat.reduceAdd, Nat.reduceBEq, Nat.reduceEqDiff, Nat.reduceLeDiff, Nat.reduceLT, Nat.reduceSub, ↓reduceIte, zA, zI, zN, reduceCtorEq, Int.reduceToNat, zE, Int.reduceEq, Int.reduceLT, Int.reduceLE, Int.reduceNeg, Int.reduceAdd, Int.reduceSub]
       (repeat' (first | intro _ | refine And.intro ?_ ?_))
       all_goals first | omega | skip
       refine aCallH_of [13, 25, 34, 46] CS2 (by simp +contextual -dsimp only [↓SD, SU, SB, Nat.reduceAdd, Nat.reduceBEq, Nat.reduceEqDiff, Nat.reduceLeDiff, Nat.reduceLT, Nat.reduceSub, ↓reduceIte, zA, zI, zN, reduceCtorEq, Int.reduceToNat, zE]) ?_
       rintro r hp' ⟨uu, rfl, rfl⟩
       rw [hbox_get]
       simp +contextual -dsimp (maxSteps := 2000000) only [↓SD, SU, SB, Nat.reduceAdd, Nat.reduceBEq, Nat.reduceEqDiff, Nat.reduceLeDiff, Nat.reduceLT, Nat.reduceSub, ↓reduceIte, zA, zI, zN, reduceCtorEq, Int.reduceToNat, zE, Int.reduceEq, Int.reduceLT, Int.reduceLE, Int.reduceNeg, Int.reduceAdd, Int.reduceSub]
       have hnx : nextF c i x = [⟨x.k + 1, x.v - needI i + makeI i, x.e + moreI c i⟩] := by unfold nextF; rw [if_pos hg]
       by_cases c4 : x.e + moreI c i < 0
       · rw [setM_neg (.inr c4)]
         refine Goes.post (hbox c c.ins.length M1 true w u1 u2 uu) ?_
         rw [hbox_get]
         simp +contextual -dsimp (maxSteps := 2000000) only [↓SD, SU, SB, Nat.reduceAdd, Nat.reduceBEq, Nat.reduceEqDiff, Nat.reduceLeDiff, Nat.reduceLT, Nat.reduceSub, ↓reduceIte, zA, zI, zN, reduceCtorEq, Int.reduceToNat, zE, false_and, Bool.or_true]
         exact ⟨M1, true, uu, (hSP M1 true).2 ⟨Q.1, Q.2.1, fun _ => hbn (.inr (.inr (.inr c4))), fun e => by cases e⟩, rfl, rfl⟩
       · have hnb2 : ¬ badI c i x := fun hbd => by
           rcases hbd with h1 | h1 | h1 | h1
           · exact c1 h1
           · exact c2 h1
           · exact c3 h1
           · exact c4 h1
         have hBz := (hleapB hnb2 _ hmz).mono (m' := M1.length + 1) (by have := (Q.2.1).length_le; omega)
         have Z := setM_ok Q.1 hHz hBz
         generalize setM M1 _ = P at *
         obtain ⟨M2, b2⟩ := P
         dsimp only at Z ⊢
         refine Goes.post (hbox c c.ins.length M2 (b1 || b2) w u1 u2 uu) ?_
         rw [hbox_get]
         simp +contextual -dsimp (maxSteps := 2000000) only [↓SD, SU, SB, Nat.reduceAdd, Nat.reduceBEq, Nat.reduceEqDiff, Nat.reduceLeDiff, Nat.reduceLT, Nat.reduceSub, ↓reduceIte, zA, zI, zN, reduceCtorEq, Int.reduceToNat, zE, false_and]
         refine ⟨M2, (b1 || b2), uu, (hSP M2 _).2 ⟨Z.1, Q.2.1.trans Z.2.1, fun e => ?_, fun e => ⟨hnb2, fun y hy => ?_⟩⟩, rfl, rfl⟩
         · rcases Bool.or_eq_true _ _ ▸ e with e | e
           · exact Q.2.2.1 e
           · exact Z.2.2.1 e
         · have e1 : b1 = false ∧ b2 = false := by simpa using e
           rw [hnx] at hy
           rcases List.mem_append.1 hy with h1 | h1
           · simp only [List.mem_cons, List.not_mem_nil, or_false] at h1; subst h1; exact Z.2.2.2 e1.2
           · exact Z.2.1.subset (Q4 e1.1 y h1))
  have Q4 : false = false → ∀ y ∈ targF i x.v x.e, y ∈ M := fun e y hy => by rw [ht] at hy; cases hy
  have h3 : i.op = 11 ∨ i.op = 6 ∨ (i.op ≠ 11 ∧ i.op ≠ 6) := by omega
  rcases h3 with h11 | h6 | ⟨h11, h6⟩
  · rw [h11] at CG CN CK CM
    simp +contextual -dsimp (maxSteps := 2000000) only [↓SD, SU, SB, Nat.reduceAdd, Nat.reduceBEq, Nat.reduceEqDiff, Nat.reduceLeDiff, Nat.reduceLT, Nat.reduceSub, ↓reduceIte, zA, zI, zN, reduceCtorEq, Int.reduceToNat, zE, Int.reduceEq, Int.reduceLT, Int.reduceLE, Int.reduceNeg, Int.reduceAdd, Int.reduceSub, c1, c2', c11, c3', h11]
    refine aCallK_of _ CG ?_
    cases hg : goesB i
    · simp +contextual -dsimp (maxSteps := 2000000) only [↓SD, SU, SB, Nat.reduceAdd, Nat.reduceBEq, Nat.reduceEqDiff, Nat.reduceLeDiff, Nat.reduceLT, Nat.reduceSub, ↓reduceIte, zA, zI, zN, reduceCtorEq, Int.reduceToNat, zE, Int.reduceEq, Int.reduceLT, Int.reduceLE, Int.reduceNeg, Int.reduceAdd, Int.reduceSub, h11]
      refine Goes.post (hbox c c.ins.length M false w u1 u2 u3) ?_
      rw [hbox_get]
      simp +contextual -dsimp (maxSteps := 2000000) only [↓SD, SU, SB, Nat.reduceAdd, Nat.reduceBEq, Nat.reduceEqDiff, Nat.reduceLeDiff, Nat.reduceLT, Nat.reduceSub, ↓reduceIte, zA, zI, zN, reduceCtorEq, Int.reduceToNat, zE, false_and]
      refine ⟨M, false, u3, (hSP M false).2 ⟨hM, (List.prefix_rfl : M <+: M), (fun e : false = true => by cases e), fun hb1 => ⟨fun hbd => ?_, fun y hy => ?_⟩⟩, rfl, rfl⟩
      · rcases hbd with h1 | h1 | h1 | h1
        · exact c1 h1
        · exact c2 h1
        · exact c3 h1
        · exact hgb hg h1
      · rcases List.mem_append.1 hy with h1 | h1
        · unfold nextF at h1; rw [hg] at h1; cases h1
        · exact Q4 hb1 y h1
    · have hmz : (⟨x.k + 1, x.v - needI i + makeI i, x.e + moreI c i⟩ : Fc) ∈ nextF c i x ++ targF i x.v x.e := by
        refine List.mem_append_left _ ?_
        unfold nextF; rw [if_pos hg]; simp
      obtain ⟨hHz, hkz⟩ := hleapH _ hmz
      have CS2 := l18Set_ok c c.ins.length M false w u1 u2 u3 (nt_len hr hM) _ hkz (nt_pos hM)
      unfold hbox at CS2
      dsimp only at CS2
      rw [show ((x.k + 1 : Nat) : Int) = (x.k : Int) + 1 from rfl] at CS2
      simp +contextual -dsimp (maxSteps := 2000000) only [↓SD, SU, SB, Nat.reduceAdd, Nat.reduceBEq, Nat.reduceEqDiff, Nat.reduceLeDiff, Nat.reduceLT, Nat.reduceSub, ↓reduceIte, zA, zI, zN, reduceCtorEq, Int.reduceToNat, zE, Int.reduceEq, Int.reduceLT, Int.reduceLE, Int.reduceNeg, Int.reduceAdd, Int.reduceSub, av_Ins, h11]
      (repeat' (first | intro _ | refine And.intro ?_ ?_))
      all_goals first | omega | skip
      refine aCallK_of _ CN ?_
      simp +contextual -dsimp (maxSteps := 2000000) only [↓SD, SU, SB, Nat.reduceAdd, Nat.reduceBEq, Nat.reduceEqDiff, Nat.reduceLeDiff, Nat.reduceLT, Nat.reduceSub, ↓reduceIte, zA, zI, zN, reduceCtorEq, Int.reduceToNat, zE, Int.reduceEq, Int.reduceLT, Int.reduceLE, Int.reduceNeg, Int.reduceAdd, Int.reduceSub, h11]
      (repeat' (first | intro _ | refine And.intro ?_ ?_))
      all_goals first | omega | skip
      refine aCallK_of _ CK ?_
      simp +contextual -dsimp (maxSteps := 2000000) only [↓SD, SU, SB, Nat.reduceAdd, Nat.reduceBEq, Nat.reduceEqDiff, Nat.reduceLeDiff, Nat.reduceLT, Nat.reduceSub, ↓reduceIte, zA, zI, zN, reduceCtorEq, Int.reduceToNat, zE, Int.reduceEq, Int.reduceLT, Int.reduceLE, Int.reduceNeg, Int.reduceAdd, Int.reduceSub, h11]
      (repeat' (first | intro _ | refine And.intro ?_ ?_))
      all_goals first | omega | skip
      refine aCallK_of _ CM ?_
      simp +contextual -dsimp (maxSteps := 2000000) only [↓SD, SU, SB, Nat.reduceAdd, Nat.reduceBEq, Nat.reduceEqDiff, Nat.reduceLeDiff, Nat.reduceLT, Nat.reduceSub, ↓reduceIte, zA, zI, zN, reduceCtorEq, Int.reduceToNat, zE, Int.reduceEq, Int.reduceLT, Int.reduceLE, Int.reduceNeg, Int.reduceAdd, Int.reduceSub, h11]
      (repeat' (first | intro _ | refine And.intro ?_ ?_))
      all_goals first | omega | skip
      refine aCallH_of [13, 25, 34, 46] CS2 (by simp +contextual -dsimp only [↓SD, SU, SB, Nat.reduceAdd, Nat.reduceBEq, Nat.reduceEqDiff, Nat.reduceLeDiff, Nat.reduceLT, Nat.reduceSub, ↓reduceIte, zA, zI, zN, reduceCtorEq, Int.reduceToNat, zE]) ?_
      rintro r hp' ⟨uu, rfl, rfl⟩
      rw [hbox_get]
      simp +contextual -dsimp (maxSteps := 2000000) only [↓SD, SU, SB, Nat.reduceAdd, Nat.reduceBEq, Nat.reduceEqDiff, Nat.reduceLeDiff, Nat.reduceLT, Nat.reduceSub, ↓reduceIte, zA, zI, zN, reduceCtorEq, Int.reduceToNat, zE, Int.reduceEq, Int.reduceLT, Int.reduceLE, Int.reduceNeg, Int.reduceAdd, Int.reduceSub, h11]
      have hnx : nextF c i x = [⟨x.k + 1, x.v - needI i + makeI i, x.e + moreI c i⟩] := by unfold nextF; rw [if_pos hg]
      by_cases c4 : x.e + moreI c i < 0
      · rw [setM_neg (.inr c4)]
        refine Goes.post (hbox c c.ins.length M true w u1 u2 uu) ?_
        rw [hbox_get]
        simp +contextual -dsimp (maxSteps := 2000000) only [↓SD, SU, SB, Nat.reduceAdd, Nat.reduceBEq, Nat.reduceEqDiff, Nat.reduceLeDiff, Nat.reduceLT, Nat.reduceSub, ↓reduceIte, zA, zI, zN, reduceCtorEq, Int.reduceToNat, zE, false_and, Bool.or_true]
        exact ⟨M, true, uu, (hSP M true).2 ⟨hM, (List.prefix_rfl : M <+: M), fun _ => hbn (.inr (.inr (.inr c4))), fun e => by cases e⟩, rfl, rfl⟩
      · have hnb2 : ¬ badI c i x := fun hbd => by
          rcases hbd with h1 | h1 | h1 | h1
          · exact c1 h1
          · exact c2 h1
          · exact c3 h1
          · exact c4 h1
        have hBz := (hleapB hnb2 _ hmz).mono (m' := M.length + 1) (by have := ((List.prefix_rfl : M <+: M)).length_le; omega)
        have Z := setM_ok hM hHz hBz
        generalize setM M _ = P at *
        obtain ⟨M2, b2⟩ := P
        dsimp only at Z ⊢
        refine Goes.post (hbox c c.ins.length M2 (false || b2) w u1 u2 uu) ?_
        rw [hbox_get]
        simp +contextual -dsimp (maxSteps := 2000000) only [↓SD, SU, SB, Nat.reduceAdd, Nat.reduceBEq, Nat.reduceEqDiff, Nat.reduceLeDiff, Nat.reduceLT, Nat.reduceSub, ↓reduceIte, zA, zI, zN, reduceCtorEq, Int.reduceToNat, zE, false_and]
        refine ⟨M2, (false || b2), uu, (hSP M2 _).2 ⟨Z.1, (List.prefix_rfl : M <+: M).trans Z.2.1, fun e => ?_, fun e => ⟨hnb2, fun y hy => ?_⟩⟩, rfl, rfl⟩
        · rcases Bool.or_eq_true _ _ ▸ e with e | e
          · exact (fun e : false = true => by cases e) e
          · exact Z.2.2.1 e
        · have e1 : false = false ∧ b2 = false := by simpa using e
          rw [hnx] at hy
          rcases List.mem_append.1 hy with h1 | h1
          · simp only [List.mem_cons, List.not_mem_nil, or_false] at h1; subst h1; exact Z.2.2.2 e1.2
          · exact Z.2.1.subset (Q4 e1.1 y h1)
  · rw [h6] at CG CN CK CM
    simp +contextual -dsimp (maxSteps := 2000000) only [↓SD, SU, SB, Nat.reduceAdd, Nat.reduceBEq, Nat.reduceEqDiff, Nat.reduceLeDiff, Nat.reduceLT, Nat.reduceSub, ↓reduceIte, zA, zI, zN, reduceCtorEq, Int.reduceToNat, zE, Int.reduceEq, Int.reduceLT, Int.reduceLE, Int.reduceNeg, Int.reduceAdd, Int.reduceSub, c1, c2', c11, c3', h6]
    refine aCallK_of _ CG ?_
    cases hg : goesB i
    · simp +contextual -dsimp (maxSteps := 2000000) only [↓SD, SU, SB, Nat.reduceAdd, Nat.reduceBEq, Nat.reduceEqDiff, Nat.reduceLeDiff, Nat.reduceLT, Nat.reduceSub, ↓reduceIte, zA, zI, zN, reduceCtorEq, Int.reduceToNat, zE, Int.reduceEq, Int.reduceLT, Int.reduceLE, Int.reduceNeg, Int.reduceAdd, Int.reduceSub, h6]
      refine Goes.post (hbox c c.ins.length M false w u1 u2 u3) ?_
      rw [hbox_get]
      simp +contextual -dsimp (maxSteps := 2000000) only [↓SD, SU, SB, Nat.reduceAdd, Nat.reduceBEq, Nat.reduceEqDiff, Nat.reduceLeDiff, Nat.reduceLT, Nat.reduceSub, ↓reduceIte, zA, zI, zN, reduceCtorEq, Int.reduceToNat, zE, false_and]
      refine ⟨M, false, u3, (hSP M false).2 ⟨hM, (List.prefix_rfl : M <+: M), (fun e : false = true => by cases e), fun hb1 => ⟨fun hbd => ?_, fun y hy => ?_⟩⟩, rfl, rfl⟩
      · rcases hbd with h1 | h1 | h1 | h1
        · exact c1 h1
        · exact c2 h1
        · exact c3 h1
        · exact hgb hg h1
      · rcases List.mem_append.1 hy with h1 | h1
        · unfold nextF at h1; rw [hg] at h1; cases h1
        · exact Q4 hb1 y h1
    · have hmz : (⟨x.k + 1, x.v - needI i + makeI i, x.e + moreI c i⟩ : Fc) ∈ nextF c i x ++ targF i x.v x.e := by
        refine List.mem_append_left _ ?_
        unfold nextF; rw [if_pos hg]; simp
      obtain ⟨hHz, hkz⟩ := hleapH _ hmz
      have CS2 := l18Set_ok c c.ins.length M false w u1 u2 u3 (nt_len hr hM) _ hkz (nt_pos hM)
      unfold hbox at CS2
      dsimp only at CS2
      rw [show ((x.k + 1 : Nat) : Int) = (x.k : Int) + 1 from rfl] at CS2
      simp +contextual -dsimp (maxSteps := 2000000) only [↓SD, SU, SB, Nat.reduceAdd, Nat.reduceBEq, Nat.reduceEqDiff, Nat.reduceLeDiff, Nat.reduceLT, Nat.reduceSub, ↓reduceIte, zA, zI, zN, reduceCtorEq, Int.reduceToNat, zE, Int.reduceEq, Int.reduceLT, Int.reduceLE, Int.reduceNeg, Int.reduceAdd, Int.reduceSub, av_Ins, h6]
      (repeat' (first | intro _ | refine And.intro ?_ ?_))
      all_goals first | omega | skip
      refine aCallK_of _ CN ?_
      simp +contextual -dsimp (maxSteps := 2000000) only [↓SD, SU, SB, Nat.reduceAdd, Nat.reduceBEq, Nat.reduceEqDiff, Nat.reduceLeDiff, Nat.reduceLT, Nat.reduceSub, ↓reduceIte, zA, zI, zN, reduceCtorEq, Int.reduceToNat, zE, Int.reduceEq, Int.reduceLT, Int.reduceLE, Int.reduceNeg, Int.reduceAdd, Int.reduceSub, h6]
      (repeat' (first | intro _ | refine And.intro ?_ ?_))
      all_goals first | omega | skip
      refine aCallK_of _ CK ?_
      simp +contextual -dsimp (maxSteps := 2000000) only [↓SD, SU, SB, Nat.reduceAdd, Nat.reduceBEq, Nat.reduceEqDiff, Nat.reduceLeDiff, Nat.reduceLT, Nat.reduceSub, ↓reduceIte, zA, zI, zN, reduceCtorEq, Int.reduceToNat, zE, Int.reduceEq, Int.reduceLT, Int.reduceLE, Int.reduceNeg, Int.reduceAdd, Int.reduceSub, h6]
      (repeat' (first | intro _ | refine And.intro ?_ ?_))
      all_goals first | omega | skip
      refine aCallK_of _ CM ?_
      simp +contextual -dsimp (maxSteps := 2000000) only [↓SD, SU, SB, Nat.reduceAdd, Nat.reduceBEq, Nat.reduceEqDiff, Nat.reduceLeDiff, Nat.reduceLT, Nat.reduceSub, ↓reduceIte, zA, zI, zN, reduceCtorEq, Int.reduceToNat, zE, Int.reduceEq, Int.reduceLT, Int.reduceLE, Int.reduceNeg, Int.reduceAdd, Int.reduceSub, h6]
      (repeat' (first | intro _ | refine And.intro ?_ ?_))
      all_goals first | omega | skip
      refine aCallH_of [13, 25, 34, 46] CS2 (by simp +contextual -dsimp only [↓SD, SU, SB, Nat.reduceAdd, Nat.reduceBEq, Nat.reduceEqDiff, Nat.reduceLeDiff, Nat.reduceLT, Nat.reduceSub, ↓reduceIte, zA, zI, zN, reduceCtorEq, Int.reduceToNat, zE]) ?_
      rintro r hp' ⟨uu, rfl, rfl⟩
      rw [hbox_get]
      simp +contextual -dsimp (maxSteps := 2000000) only [↓SD, SU, SB, Nat.reduceAdd, Nat.reduceBEq, Nat.reduceEqDiff, Nat.reduceLeDiff, Nat.reduceLT, Nat.reduceSub, ↓reduceIte, zA, zI, zN, reduceCtorEq, Int.reduceToNat, zE, Int.reduceEq, Int.reduceLT, Int.reduceLE, Int.reduceNeg, Int.reduceAdd, Int.reduceSub, h6]
      have hnx : nextF c i x = [⟨x.k + 1, x.v - needI i + makeI i, x.e + moreI c i⟩] := by unfold nextF; rw [if_pos hg]
      by_cases c4 : x.e + moreI c i < 0
      · rw [setM_neg (.inr c4)]
        refine Goes.post (hbox c c.ins.length M true w u1 u2 uu) ?_
        rw [hbox_get]
        simp +contextual -dsimp (maxSteps := 2000000) only [↓SD, SU, SB, Nat.reduceAdd, Nat.reduceBEq, Nat.reduceEqDiff, Nat.reduceLeDiff, Nat.reduceLT, Nat.reduceSub, ↓reduceIte, zA, zI, zN, reduceCtorEq, Int.reduceToNat, zE, false_and, Bool.or_true]
        exact ⟨M, true, uu, (hSP M true).2 ⟨hM, (List.prefix_rfl : M <+: M), fun _ => hbn (.inr (.inr (.inr c4))), fun e => by cases e⟩, rfl, rfl⟩
      · have hnb2 : ¬ badI c i x := fun hbd => by
          rcases hbd with h1 | h1 | h1 | h1
          · exact c1 h1
          · exact c2 h1
          · exact c3 h1
          · exact c4 h1
        have hBz := (hleapB hnb2 _ hmz).mono (m' := M.length + 1) (by have := ((List.prefix_rfl : M <+: M)).length_le; omega)
        have Z := setM_ok hM hHz hBz
        generalize setM M _ = P at *
        obtain ⟨M2, b2⟩ := P
        dsimp only at Z ⊢
        refine Goes.post (hbox c c.ins.length M2 (false || b2) w u1 u2 uu) ?_
        rw [hbox_get]
        simp +contextual -dsimp (maxSteps := 2000000) only [↓SD, SU, SB, Nat.reduceAdd, Nat.reduceBEq, Nat.reduceEqDiff, Nat.reduceLeDiff, Nat.reduceLT, Nat.reduceSub, ↓reduceIte, zA, zI, zN, reduceCtorEq, Int.reduceToNat, zE, false_and]
        refine ⟨M2, (false || b2), uu, (hSP M2 _).2 ⟨Z.1, (List.prefix_rfl : M <+: M).trans Z.2.1, fun e => ?_, fun e => ⟨hnb2, fun y hy => ?_⟩⟩, rfl, rfl⟩
        · rcases Bool.or_eq_true _ _ ▸ e with e | e
          · exact (fun e : false = true => by cases e) e
          · exact Z.2.2.1 e
        · have e1 : false = false ∧ b2 = false := by simpa using e
          rw [hnx] at hy
          rcases List.mem_append.1 hy with h1 | h1
          · simp only [List.mem_cons, List.not_mem_nil, or_false] at h1; subst h1; exact Z.2.2.2 e1.2
          · exact Z.2.1.subset (Q4 e1.1 y h1)
  · simp +contextual -dsimp (maxSteps := 2000000) only [↓SD, SU, SB, Nat.reduceAdd, Nat.reduceBEq, Nat.reduceEqDiff, Nat.reduceLeDiff, Nat.reduceLT, Nat.reduceSub, ↓reduceIte, zA, zI, zN, reduceCtorEq, Int.reduceToNat, zE, Int.reduceEq, Int.reduceLT, Int.reduceLE, Int.reduceNeg, Int.reduceAdd, Int.reduceSub, c1, c2', c11, c3', o8, o9, o12, o20, o13, o18, h11, h6]
    refine aCallK_of _ CG ?_
    cases hg : goesB i
    · simp +contextual -dsimp (maxSteps := 2000000) only [↓SD, SU, SB, Nat.reduceAdd, Nat.reduceBEq, Nat.reduceEqDiff, Nat.reduceLeDiff, Nat.reduceLT, Nat.reduceSub, ↓reduceIte, zA, zI, zN, reduceCtorEq, Int.reduceToNat, zE, Int.reduceEq, Int.reduceLT, Int.reduceLE, Int.reduceNeg, Int.reduceAdd, Int.reduceSub]
      refine Goes.post (hbox c c.ins.length M false w u1 u2 u3) ?_
      rw [hbox_get]
      simp +contextual -dsimp (maxSteps := 2000000) only [↓SD, SU, SB, Nat.reduceAdd, Nat.reduceBEq, Nat.reduceEqDiff, Nat.reduceLeDiff, Nat.reduceLT, Nat.reduceSub, ↓reduceIte, zA, zI, zN, reduceCtorEq, Int.reduceToNat, zE, false_and]
      refine ⟨M, false, u3, (hSP M false).2 ⟨hM, (List.prefix_rfl : M <+: M), (fun e : false = true => by cases e), fun hb1 => ⟨fun hbd => ?_, fun y hy => ?_⟩⟩, rfl, rfl⟩
      · rcases hbd with h1 | h1 | h1 | h1
        · exact c1 h1
        · exact c2 h1
        · exact c3 h1
        · exact hgb hg h1
      · rcases List.mem_append.1 hy with h1 | h1
        · unfold nextF at h1; rw [hg] at h1; cases h1
        · exact Q4 hb1 y h1
    · have hmz : (⟨x.k + 1, x.v - needI i + makeI i, x.e + moreI c i⟩ : Fc) ∈ nextF c i x ++ targF i x.v x.e := by
        refine List.mem_append_left _ ?_
        unfold nextF; rw [if_pos hg]; simp
      obtain ⟨hHz, hkz⟩ := hleapH _ hmz
      have CS2 := l18Set_ok c c.ins.length M false w u1 u2 u3 (nt_len hr hM) _ hkz (nt_pos hM)
      unfold hbox at CS2
      dsimp only at CS2
      rw [show ((x.k + 1 : Nat) : Int) = (x.k : Int) + 1 from rfl] at CS2
      simp +contextual -dsimp (maxSteps := 2000000) only [↓SD, SU, SB, Nat.reduceAdd, Nat.reduceBEq, Nat.reduceEqDiff, Nat.reduceLeDiff, Nat.reduceLT, Nat.reduceSub, ↓reduceIte, zA, zI, zN, reduceCtorEq, Int.reduceToNat, zE, Int.reduceEq, Int.reduceLT, Int.reduceLE, Int.reduceNeg, Int.reduceAdd, Int.reduceSub, av_Ins]
      (repeat' (first | intro _ | refine And.intro ?_ ?_))
      all_goals first | omega | skip
      refine aCallK_of _ CN ?_
      simp +contextual -dsimp (maxSteps := 2000000) only [↓SD, SU, SB, Nat.reduceAdd, Nat.reduceBEq, Nat.reduceEqDiff, Nat.reduceLeDiff, Nat.reduceLT, Nat.reduceSub, ↓reduceIte, zA, zI, zN, reduceCtorEq, Int.reduceToNat, zE, Int.reduceEq, Int.reduceLT, Int.reduceLE, Int.reduceNeg, Int.reduceAdd, Int.reduceSub]
      (repeat' (first | intro _ | refine And.intro ?_ ?_))
      all_goals first | omega | skip
      refine aCallK_of _ CK ?_
      simp +contextual -dsimp (maxSteps := 2000000) only [↓SD, SU, SB, Nat.reduceAdd, Nat.reduceBEq, Nat.reduceEqDiff, Nat.reduceLeDiff, Nat.reduceLT, Nat.reduceSub, ↓reduceIte, zA, zI, zN, reduceCtorEq, Int.reduceToNat, zE, Int.reduceEq, Int.reduceLT, Int.reduceLE, Int.reduceNeg, Int.reduceAdd, Int.reduceSub]
      (repeat' (first | intro _ | refine And.intro ?_ ?_))
      all_goals first | omega | skip
      refine aCallK_of _ CM ?_
      simp +contextual -dsimp (maxSteps := 2000000) only [↓SD, SU, SB, Nat.reduceAdd, Nat.reduceBEq, Nat.reduceEqDiff, Nat.reduceLeDiff, Nat.reduceLT, Nat.reduceSub, ↓reduceIte, zA, zI, zN, reduceCtorEq, Int.reduceToNat, zE, Int.reduceEq, Int.reduceLT, Int.reduceLE, Int.reduceNeg, Int.reduceAdd, Int.reduceSub]
      (repeat' (first | intro _ | refine And.intro ?_ ?_))
      all_goals first | omega | skip
      refine aCallH_of [13, 25, 34, 46] CS2 (by simp +contextual -dsimp only [↓SD, SU, SB, Nat.reduceAdd, Nat.reduceBEq, Nat.reduceEqDiff, Nat.reduceLeDiff, Nat.reduceLT, Nat.reduceSub, ↓reduceIte, zA, zI, zN, reduceCtorEq, Int.reduceToNat, zE]) ?_
      rintro r hp' ⟨uu, rfl, rfl⟩
      rw [hbox_get]
      simp +contextual -dsimp (maxSteps := 2000000) only [↓SD, SU, SB, Nat.reduceAdd, Nat.reduceBEq, Nat.reduceEqDiff, Nat.reduceLeDiff, Nat.reduceLT, Nat.reduceSub, ↓reduceIte, zA, zI, zN, reduceCtorEq, Int.reduceToNat, zE, Int.reduceEq, Int.reduceLT, Int.reduceLE, Int.reduceNeg, Int.reduceAdd, Int.reduceSub]
      have hnx : nextF c i x = [⟨x.k + 1, x.v - needI i + makeI i, x.e + moreI c i⟩] := by unfold nextF; rw [if_pos hg]
      by_cases c4 : x.e + moreI c i < 0
      · rw [setM_neg (.inr c4)]
        refine Goes.post (hbox c c.ins.length M true w u1 u2 uu) ?_
        rw [hbox_get]
        simp +contextual -dsimp (maxSteps := 2000000) only [↓SD, SU, SB, Nat.reduceAdd, Nat.reduceBEq, Nat.reduceEqDiff, Nat.reduceLeDiff, Nat.reduceLT, Nat.reduceSub, ↓reduceIte, zA, zI, zN, reduceCtorEq, Int.reduceToNat, zE, false_and, Bool.or_true]
        exact ⟨M, true, uu, (hSP M true).2 ⟨hM, (List.prefix_rfl : M <+: M), fun _ => hbn (.inr (.inr (.inr c4))), fun e => by cases e⟩, rfl, rfl⟩
      · have hnb2 : ¬ badI c i x := fun hbd => by
          rcases hbd with h1 | h1 | h1 | h1
          · exact c1 h1
          · exact c2 h1
          · exact c3 h1
          · exact c4 h1
        have hBz := (hleapB hnb2 _ hmz).mono (m' := M.length + 1) (by have := ((List.prefix_rfl : M <+: M)).length_le; omega)
        have Z := setM_ok hM hHz hBz
        generalize setM M _ = P at *
        obtain ⟨M2, b2⟩ := P
        dsimp only at Z ⊢
        refine Goes.post (hbox c c.ins.length M2 (false || b2) w u1 u2 uu) ?_
        rw [hbox_get]
        simp +contextual -dsimp (maxSteps := 2000000) only [↓SD, SU, SB, Nat.reduceAdd, Nat.reduceBEq, Nat.reduceEqDiff, Nat.reduceLeDiff, Nat.reduceLT, Nat.reduceSub, ↓reduceIte, zA, zI, zN, reduceCtorEq, Int.reduceToNat, zE, false_and]
        refine ⟨M2, (false || b2), uu, (hSP M2 _).2 ⟨Z.1, (List.prefix_rfl : M <+: M).trans Z.2.1, fun e => ?_, fun e => ⟨hnb2, fun y hy => ?_⟩⟩, rfl, rfl⟩
        · rcases Bool.or_eq_true _ _ ▸ e with e | e
          · exact (fun e : false = true => by cases e) e
          · exact Z.2.2.1 e
        · have e1 : false = false ∧ b2 = false := by simpa using e
          rw [hnx] at hy
          rcases List.mem_append.1 hy with h1 | h1
          · simp only [List.mem_cons, List.not_mem_nil, or_false] at h1; subst h1; exact Z.2.2.2 e1.2
          · exact Z.2.1.subset (Q4 e1.1 y h1)
end Go.Proofs.YtabifanjbckchaaGreat


set_option linter.unusedVariables false
set_option linter.unusedSimpArgs false
set_option maxRecDepth 100000
namespace Go.Proofs.YtabifanjbckchaaGreat
open Go.RowKit Go.Proofs.YtabifanjbckchaaGreat.Av Go.Proofs.YtabifanjbckchaaGreat.Ml
open Go.Proofs.YtabifanjbckchaaGreat.Av.AVal (av)

def hbox0 (c : Code) (n : Nat) (w u1 u2 : Nat) : Hp := [(13, ⟨w, false, 46, 6, [.agg [.sl (c.ins.map av), .sl (c.pats.map av), .row 25 u1 n, .row 34 u2 n, .nils, .bool false]]⟩), (25, ⟨u1, false, 3, 1, (valsF n []).map av⟩), (34, ⟨u2, false, 3, 1, (envsF n []).map av⟩)]
theorem l18Set0_ok (c : Code) (n : Nat) (hn : 0 < n) (w u1 u2 : Nat) : CallsH Tryz.prog 19 [.ptr 13 w 0 0, .int .i64 0, .int .i64 0, .int .i64 0] (hbox0 c n w u1 u2) (SetPost c n [⟨0, 0, 0⟩] false w u1 u2) := by
  refine funH_spec_l18Set rfl ?_
  have hvl := valsF_len n []
  have hel := envsF_len n []
  have ev := getD_map av (valsF n []) 0 .top (by rw [hvl]; exact hn)
  have ee := getD_map av (envsF n []) 0 .top (by rw [hel]; exact hn)
  rw [valsF_get [] hn] at ev
  rw [envsF_get [] hn] at ee
  have e0 : lookF [] 0 = none := rfl
  rw [e0] at ev ee
  simp only [Option.map_none, Option.getD_none] at ev ee
  have hvs : ((valsF n []).map (av : Int → AV)).set 0 (.int .i64 0) = (valsF n [⟨0, 0, 0⟩]).map av := by
    have := valsF_set (n := n) (M := []) (x := ⟨0, 0, 0⟩) rfl
    simp only [List.nil_append] at this
    rw [← this, List.map_set]; rfl
  have hes : ((envsF n []).map (av : Int → AV)).set 0 (.int .i64 0) = (envsF n [⟨0, 0, 0⟩]).map av := by
    have := envsF_set (n := n) (M := []) (x := ⟨0, 0, 0⟩) rfl
    simp only [List.nil_append] at this
    rw [← this, List.map_set]; rfl
  unfold hbox0
  have hn' : (0 : Int) < n := by omega
  simp +contextual -dsimp (maxSteps := 2000000) only [↓SD, SU, SB, Nat.reduceAdd, Nat.reduceBEq, Nat.reduceEqDiff, Nat.reduceLeDiff, Nat.reduceLT, Nat.reduceSub, ↓reduceIte, zA, zI, zN, reduceCtorEq, Int.reduceToNat, zE, Int.reduceEq, Int.reduceLT, Int.reduceLE, Int.reduceNeg, Int.reduceAdd, Int.reduceSub, ir_spec_l18Set, rs_spec_l18Set, hn, hn', hvl, hel, map_len, ev, ee, av_int, hvs, hes]
  refine ⟨⟨by omega, by unfold maxLen; omega⟩, fun v => ?_⟩
  refine Goes.post (hbox c n [⟨0, 0, 0⟩] false w u1 u2 v) ?_
  rw [hbox_get]
  simp +contextual -dsimp (maxSteps := 2000000) only [↓SD, SU, SB, Nat.reduceAdd, Nat.reduceBEq, Nat.reduceEqDiff, Nat.reduceLeDiff, Nat.reduceLT, Nat.reduceSub, ↓reduceIte, zA, zI, zN, reduceCtorEq, Int.reduceToNat, zE, false_and, av_int]
  exact ⟨v, rfl, rfl⟩
/-- a row that is being filled from nothing -/
def rowA (nm k u : Nat) : AV := if k = 0 then .nils else .row nm u k
def rowB (nm k u : Nat) (ty : TypeId) : Hp := if k = 0 then [] else [(nm, ⟨u, false, ty, 1, (List.replicate k (-1 : Int)).map av⟩)]
noncomputable def hgtsA (c : Code) : AV := if hgtsOk c = true then .tup [.sl ((hgtsV c).map av), .sl ((hgtsE c).map av), .bool true] else .tup [.nils, .nils, .bool false]
theorem hgtsA_clean (c : Code) : AvPure (hgtsA c) := by
  unfold hgtsA
  split
  · refine AvPure.tup ?_
    simp only [List.mem_cons, List.not_mem_nil, or_false]
    rintro y (rfl | rfl | rfl)
    · exact lav_clean (hgtsV c)
    · exact lav_clean (hgtsE c)
    · exact AvPure.bool _
  · refine AvPure.tup ?_
    simp only [List.mem_cons, List.not_mem_nil, or_false]
    rintro y (rfl | rfl | rfl)
    · exact AvPure.nils
    · exact AvPure.nils
    · exact AvPure.bool _
structure US where
  k : Nat
  M : List Fc
  b : Bool
  u : Nat
theorem loopI (c : Code) {M : List Fc} {k : Nat} (h : ∀ j (hj : j < M.length), j < k → ¬ badF c M[j] ∧ ∀ y ∈ leapF c M[j], y ∈ M) {M' : List Fc} {b' : Bool} (hk : k < M.length) (hp : StepP c M M[k] M' b') (hb : b' = false) :
    ∀ j (hj : j < M'.length), j < k + 1 → ¬ badF c M'[j] ∧ ∀ y ∈ leapF c M'[j], y ∈ M' := by
  intro j hj hjk
  have hpre := hp.pre
  have hjM : j < M.length := by omega
  have e : M'[j] = M[j] := by
    obtain ⟨t, rfl⟩ := hpre
    exact List.getElem_append_left hjM
  rw [e]
  by_cases hjk2 : j = k
  · subst hjk2; exact hp.good hb
  · obtain ⟨a1, a2⟩ := h j hjM (by omega)
    exact ⟨a1, fun y hy => hpre.subset (a2 y hy)⟩
theorem rep_len (k : Nat) : ((List.replicate k (-1 : Int)).map (av : Int → AV)).length = k := by simp
theorem rep_take (k : Nat) : List.take k ((List.replicate k (-1 : Int)).map (av : Int → AV)) = (List.replicate k (-1 : Int)).map av := List.take_of_length_le (by simp)
theorem rep_snoc (k : Nat) : (List.replicate k (-1 : Int)).map (av : Int → AV) ++ [.int .i64 (-1)] = (List.replicate (k + 1) (-1 : Int)).map av := by
  rw [List.replicate_succ', List.map_append]; rfl
set_option maxHeartbeats 8000000 in
theorem specHeights_ok (c : Code) (hx : Bulk.bulk c ≤ 1048576) (hrg : ∀ i ∈ c.ins, -9223372036854775808 ≤ i.a ∧ i.a ≤ 9223372036854775807) : CallsF Tryz.prog 6 [av c] (hgtsA c) := by
  obtain ⟨⟨hl, hq⟩, hs, hp⟩ := code_small hx
  have CR := specReached_ok c hx hrg
  refine fun_spec_Heights rfl (by simp; exact AVal.clean c) (hgtsA_clean c) ?_
  have no : hgtsOk c = false → hgtsA c = .tup [.nils, .nils, .bool false] := fun h => if_neg (by rw [h]; decide)
  rw [av_Code] at CR
  simp +contextual -dsimp (maxSteps := 2000000) only [↓SD, SU, SB, Nat.reduceAdd, Nat.reduceBEq, Nat.reduceEqDiff, Nat.reduceLeDiff, Nat.reduceLT, Nat.reduceSub, ↓reduceIte, zA, zI, zN, reduceCtorEq, Int.reduceToNat, zE, Int.reduceEq, Int.reduceLT, Int.reduceLE, Int.reduceNeg, Int.reduceAdd, Int.reduceSub, ir_spec_Heights, rs_spec_Heights, av_Code, map_len]
  refine aCallK_of _ CR ?_
  by_cases hr : reachedL c = []
  · rw [no (none_no hr)]
    have e : (reachedL c).length = 0 := by rw [hr]; rfl
    simp +contextual -dsimp (maxSteps := 2000000) only [↓SD, SU, SB, Nat.reduceAdd, Nat.reduceBEq, Nat.reduceEqDiff, Nat.reduceLeDiff, Nat.reduceLT, Nat.reduceSub, ↓reduceIte, zA, zI, zN, reduceCtorEq, Int.reduceToNat, zE, Int.reduceEq, Int.reduceLT, Int.reduceLE, Int.reduceNeg, Int.reduceAdd, Int.reduceSub, map_len, e]
  have e : ¬ (reachedL c).length = 0 := fun h => hr (List.eq_nil_of_length_eq_zero h)
  have e' : ¬ ((reachedL c).length : Int) = 0 := by omega
  obtain ⟨hb, hin⟩ := rch_in hr
  have hn : 1 ≤ c.ins.length ∧ c.ins.length ≤ 3000 := by
    have := hb
    unfold codeB at this
    simp only [Bool.and_eq_true, decide_eq_true_eq] at this
    omega
  simp +contextual -dsimp (maxSteps := 2000000) only [↓SD, SU, SB, Nat.reduceAdd, Nat.reduceBEq, Nat.reduceEqDiff, Nat.reduceLeDiff, Nat.reduceLT, Nat.reduceSub, ↓reduceIte, zA, zI, zN, reduceCtorEq, Int.reduceToNat, zE, Int.reduceEq, Int.reduceLT, Int.reduceLE, Int.reduceNeg, Int.reduceAdd, Int.reduceSub, map_len, e, e']
  intro w
  refine aLoop_of (X := Nat × Nat × Nat) (fun x => ⟨[(5, .ptr 13 w 0 0), (16, .int .i64 c.ins.length), (17, .int .i64 x.1)], (13, ⟨w, false, 46, 6, [.agg [.sl (c.ins.map av), .sl (c.pats.map av), rowA 25 x.1 x.2.1, rowA 34 x.1 x.2.2, .nils, .bool false]]⟩) :: (rowB 25 x.1 x.2.1 3 ++ rowB 34 x.1 x.2.2 3)⟩) (fun x => x.1 ≤ c.ins.length) (fun x => c.ins.length - x.1) (0, 0, 0) (Nat.zero_le _) (by simp +contextual -dsimp only [↓SD, SU, SB, Nat.reduceAdd, Nat.reduceBEq, Nat.reduceEqDiff, Nat.reduceLeDiff, Nat.reduceLT, Nat.reduceSub, ↓reduceIte, zA, zI, zN, reduceCtorEq, Int.reduceToNat, zE]) (by simp +contextual -dsimp only [↓SD, SU, SB, Nat.reduceAdd, Nat.reduceBEq, Nat.reduceEqDiff, Nat.reduceLeDiff, Nat.reduceLT, Nat.reduceSub, ↓reduceIte, zA, zI, zN, reduceCtorEq, Int.reduceToNat, zE, rowA, rowB]) ?_
  rintro ⟨k, u1, u2⟩ hk
  dsimp only at hk ⊢
  by_cases hlt : k < c.ins.length
  · by_cases h0 : k = 0
    · subst h0
      have hn' : (0 : Int) < c.ins.length := by omega
      have a0 : ∀ nm u, rowA nm 0 u = .nils := fun _ _ => rfl
      have b0 : ∀ nm u ty, rowB nm 0 u ty = [] := fun _ _ _ => rfl
      have a1 : ∀ nm u, rowA nm 1 u = .row nm u 1 := fun _ _ => rfl
      have b1 : ∀ nm u ty, rowB nm 1 u ty = [(nm, ⟨u, false, ty, 1, [.int .i64 (-1)]⟩)] := fun _ _ _ => rfl
      rw [a0, a0, b0, b0]
      simp +contextual -dsimp (maxSteps := 2000000) only [↓SD, SU, SB, Nat.reduceAdd, Nat.reduceBEq, Nat.reduceEqDiff, Nat.reduceLeDiff, Nat.reduceLT, Nat.reduceSub, ↓reduceIte, zA, zI, zN, reduceCtorEq, Int.reduceToNat, zE, Int.reduceEq, Int.reduceLT, Int.reduceLE, Int.reduceNeg, Int.reduceAdd, Int.reduceSub, hn', hlt]
      exact ⟨⟨by omega, by unfold maxLen; omega⟩, fun v => ⟨⟨by omega, by unfold maxLen; omega⟩, fun v1 => Goes.le ⟨(1, v, v1), ⟨by dsimp only; omega, by dsimp only; omega⟩, rfl⟩ (by simp +contextual -dsimp only [↓SD, SU, SB, Nat.reduceAdd, Nat.reduceBEq, Nat.reduceEqDiff, Nat.reduceLeDiff, Nat.reduceLT, Nat.reduceSub, ↓reduceIte, zA, zI, zN, reduceCtorEq, Int.reduceToNat, zE]) (by simp +contextual -dsimp only [↓SD, SU, SB, Nat.reduceAdd, Nat.reduceBEq, Nat.reduceEqDiff, Nat.reduceLeDiff, Nat.reduceLT, Nat.reduceSub, ↓reduceIte, zA, zI, zN, reduceCtorEq, Int.reduceToNat, zE, a1, b1])⟩⟩
    · have hk1 : ¬ k + 1 = 0 := by omega
      have rA : ∀ nm u, rowA nm k u = .row nm u k := fun nm u => if_neg h0
      have rB : ∀ nm u ty, rowB nm k u ty = [(nm, ⟨u, false, ty, 1, (List.replicate k (-1 : Int)).map av⟩)] := fun nm u ty => if_neg h0
      have rA1 : ∀ nm u, rowA nm (k + 1) u = .row nm u (k + 1) := fun nm u => if_neg hk1
      have rB1 : ∀ nm u ty, rowB nm (k + 1) u ty = [(nm, ⟨u, false, ty, 1, (List.replicate (k + 1) (-1 : Int)).map av⟩)] := fun nm u ty => if_neg hk1
      have rl := rep_len k
      have rt := rep_take k
      have rs := rep_snoc k
      rw [rA, rA, rB, rB]
      generalize (List.replicate k (-1 : Int)).map (av : Int → AV) = G at *
      simp +contextual -dsimp (maxSteps := 2000000) only [↓SD, SU, SB, Nat.reduceAdd, Nat.reduceBEq, Nat.reduceEqDiff, Nat.reduceLeDiff, Nat.reduceLT, Nat.reduceSub, ↓reduceIte, zA, zI, zN, reduceCtorEq, Int.reduceToNat, zE, Int.reduceEq, Int.reduceLT, Int.reduceLE, Int.reduceNeg, Int.reduceAdd, Int.reduceSub, hlt, rl, rt]
      exact ⟨⟨by omega, by unfold maxLen; omega⟩, fun v => ⟨⟨by omega, by unfold maxLen; omega⟩, fun v1 => ⟨by omega, Goes.le ⟨(k + 1, v, v1), ⟨by dsimp only; omega, by dsimp only; omega⟩, rfl⟩ (by simp +contextual -dsimp only [↓SD, SU, SB, Nat.reduceAdd, Nat.reduceBEq, Nat.reduceEqDiff, Nat.reduceLeDiff, Nat.reduceLT, Nat.reduceSub, ↓reduceIte, zA, zI, zN, reduceCtorEq, Int.reduceToNat, zE, Int.natCast_add]) (by simp +contextual -dsimp only [↓SD, SU, SB, Nat.reduceAdd, Nat.reduceBEq, Nat.reduceEqDiff, Nat.reduceLeDiff, Nat.reduceLT, Nat.reduceSub, ↓reduceIte, zA, zI, zN, reduceCtorEq, Int.reduceToNat, zE, rA1, rB1, rs])⟩⟩⟩
  · obtain rfl : k = c.ins.length := by omega
    have h0 : ¬ c.ins.length = 0 := by omega
    have rA : ∀ nm u, rowA nm c.ins.length u = .row nm u c.ins.length := fun nm u => if_neg h0
    have rB : ∀ nm u ty, rowB nm c.ins.length u ty = [(nm, ⟨u, false, ty, 1, (List.replicate c.ins.length (-1 : Int)).map av⟩)] := fun nm u ty => if_neg h0
    rw [rA, rA, rB, rB]
    have C0 := l18Set0_ok c c.ins.length (by omega) w u1 u2
    unfold hbox0 at C0
    rw [valsF_nil, envsF_nil] at C0
    simp +contextual -dsimp (maxSteps := 2000000) only [↓SD, SU, SB, Nat.reduceAdd, Nat.reduceBEq, Nat.reduceEqDiff, Nat.reduceLeDiff, Nat.reduceLT, Nat.reduceSub, ↓reduceIte, zA, zI, zN, reduceCtorEq, Int.reduceToNat, zE, Int.reduceEq, Int.reduceLT, Int.reduceLE, Int.reduceNeg, Int.reduceAdd, Int.reduceSub, Nat.lt_irrefl]
    refine aCallH_of [13, 25, 34] C0 (by simp +contextual -dsimp only [↓SD, SU, SB, Nat.reduceAdd, Nat.reduceBEq, Nat.reduceEqDiff, Nat.reduceLeDiff, Nat.reduceLT, Nat.reduceSub, ↓reduceIte, zA, zI, zN, reduceCtorEq, Int.reduceToNat, zE]) ?_
    rintro r hp' ⟨u3, rfl, rfl⟩
    simp +contextual -dsimp (maxSteps := 2000000) only [↓SD, SU, SB, Nat.reduceAdd, Nat.reduceBEq, Nat.reduceEqDiff, Nat.reduceLeDiff, Nat.reduceLT, Nat.reduceSub, ↓reduceIte, zA, zI, zN, reduceCtorEq, Int.reduceToNat, zE, Int.reduceEq, Int.reduceLT, Int.reduceLE, Int.reduceNeg, Int.reduceAdd, Int.reduceSub]
    refine aLoop_of (X := US) (fun x => ⟨[(5, .ptr 13 w 0 0), (6, .int .i64 x.k)], hbox c c.ins.length x.M x.b w u1 u2 x.u⟩) (fun x => Nt c x.M ∧ (⟨0, 0, 0⟩ : Fc) ∈ x.M ∧ x.k ≤ x.M.length ∧ (x.b = true → hgtsOk c = false) ∧ (x.b = false → ∀ j (hj : j < x.M.length), j < x.k → ¬ badF c x.M[j] ∧ ∀ y ∈ leapF c x.M[j], y ∈ x.M)) (fun x => 3001 - x.k) ⟨0, [⟨0, 0, 0⟩], false, u3⟩
      ⟨⟨fun x hx => by simp at hx; subst hx; exact ⟨.start, by unfold FcB; simp⟩, by simp⟩, by simp, by simp, fun e => (by cases e), fun _ j hj h => absurd h (Nat.not_lt_zero _)⟩ (by simp +contextual -dsimp only [↓SD, SU, SB, Nat.reduceAdd, Nat.reduceBEq, Nat.reduceEqDiff, Nat.reduceLeDiff, Nat.reduceLT, Nat.reduceSub, ↓reduceIte, zA, zI, zN, reduceCtorEq, Int.reduceToNat, zE]) (by rw [hbox_get]; simp +contextual -dsimp (maxSteps := 2000000) only [↓SD, SU, SB, Nat.reduceAdd, Nat.reduceBEq, Nat.reduceEqDiff, Nat.reduceLeDiff, Nat.reduceLT, Nat.reduceSub, ↓reduceIte, zA, zI, zN, reduceCtorEq, Int.reduceToNat, zE]) ?_
    rintro ⟨k, M, b, u⟩ ⟨hNt, h00, hkM, hbad, hgood⟩
    dsimp only at hNt h00 hkM hbad hgood ⊢
    have hMl := nt_len hr hNt
    have hvl := valsF_len c.ins.length M
    have hel := envsF_len c.ins.length M
    rw [hbox_get]
    by_cases hlt : k < M.length
    · cases b with
      | true =>
        rw [no (hbad rfl)]
        simp +contextual -dsimp (maxSteps := 2000000) only [↓SD, SU, SB, Nat.reduceAdd, Nat.reduceBEq, Nat.reduceEqDiff, Nat.reduceLeDiff, Nat.reduceLT, Nat.reduceSub, ↓reduceIte, zA, zI, zN, reduceCtorEq, Int.reduceToNat, zE, Int.reduceEq, Int.reduceLT, Int.reduceLE, Int.reduceNeg, Int.reduceAdd, Int.reduceSub, hlt]
      | false =>
        have CS := l18Step_ok c hx hr M hNt hMl M[k] (List.getElem_mem hlt) w u1 u2 u
        rw [hbox_get] at CS
        have hml : ((M.map fun x => (x.k : Int)).map (av : Int → AV)).length = M.length := by simp
        have eg : ((M.map fun x => (x.k : Int)).map (av : Int → AV)).getD k .top = .int .i64 (M[k].k : Int) := by
          simp [List.getD_eq_getElem?_getD, hlt, av_int]
        simp +contextual -dsimp (maxSteps := 2000000) only [↓SD, SU, SB, Nat.reduceAdd, Nat.reduceBEq, Nat.reduceEqDiff, Nat.reduceLeDiff, Nat.reduceLT, Nat.reduceSub, ↓reduceIte, zA, zI, zN, reduceCtorEq, Int.reduceToNat, zE, Int.reduceEq, Int.reduceLT, Int.reduceLE, Int.reduceNeg, Int.reduceAdd, Int.reduceSub, hlt, hml, eg]
        refine aCallH_of [13, 25, 34, 46] CS (by simp +contextual -dsimp only [↓SD, SU, SB, Nat.reduceAdd, Nat.reduceBEq, Nat.reduceEqDiff, Nat.reduceLeDiff, Nat.reduceLT, Nat.reduceSub, ↓reduceIte, zA, zI, zN, reduceCtorEq, Int.reduceToNat, zE]) ?_
        rintro r hp' ⟨M', b', u', hP, rfl, rfl⟩
        have hpl := hP.pre.length_le
        rw [hbox_get]
        simp +contextual -dsimp (maxSteps := 2000000) only [↓SD, SU, SB, Nat.reduceAdd, Nat.reduceBEq, Nat.reduceEqDiff, Nat.reduceLeDiff, Nat.reduceLT, Nat.reduceSub, ↓reduceIte, zA, zI, zN, reduceCtorEq, Int.reduceToNat, zE, Int.reduceEq, Int.reduceLT, Int.reduceLE, Int.reduceNeg, Int.reduceAdd, Int.reduceSub]
        exact ⟨by omega, Goes.le ⟨⟨k + 1, M', b', u'⟩, ⟨⟨hP.nt, hP.pre.subset h00, by dsimp only; omega, hP.bad, fun e => loopI c (hgood rfl) hlt hP e⟩, by dsimp only; omega⟩, rfl⟩ (by simp +contextual -dsimp only [↓SD, SU, SB, Nat.reduceAdd, Nat.reduceBEq, Nat.reduceEqDiff, Nat.reduceLeDiff, Nat.reduceLT, Nat.reduceSub, ↓reduceIte, zA, zI, zN, reduceCtorEq, Int.reduceToNat, zE, Int.natCast_add]) (by rw [hbox_get]; simp +contextual -dsimp (maxSteps := 2000000) only [↓SD, SU, SB, Nat.reduceAdd, Nat.reduceBEq, Nat.reduceEqDiff, Nat.reduceLeDiff, Nat.reduceLT, Nat.reduceSub, ↓reduceIte, zA, zI, zN, reduceCtorEq, Int.reduceToNat, zE])⟩
    · obtain rfl : k = M.length := by omega
      cases b with
      | true =>
        rw [no (hbad rfl)]
        simp +contextual -dsimp (maxSteps := 2000000) only [↓SD, SU, SB, Nat.reduceAdd, Nat.reduceBEq, Nat.reduceEqDiff, Nat.reduceLeDiff, Nat.reduceLT, Nat.reduceSub, ↓reduceIte, zA, zI, zN, reduceCtorEq, Int.reduceToNat, zE, Int.reduceEq, Int.reduceLT, Int.reduceLE, Int.reduceNeg, Int.reduceAdd, Int.reduceSub, Nat.lt_irrefl]
      | false =>
        have hg := hgood rfl
        obtain ⟨g1, g2, g3⟩ := good_of (c := c) (M := M) (fun x hx => by
            obtain ⟨j, hj, rfl⟩ := List.mem_iff_getElem.1 hx
            exact ⟨(hNt.o _ hx).1, (hg j hj hj).1⟩) h00 (fun x hx => by
            obtain ⟨j, hj, rfl⟩ := List.mem_iff_getElem.1 hx
            exact (hg j hj hj).2) (nodup_key hNt.n)
        have hok : hgtsOk c = true := by unfold hgtsOk; simp only [decide_eq_true_eq]; exact ⟨hr, g1⟩
        have eA : hgtsA c = .tup [.sl ((valsF c.ins.length M).map av), .sl ((envsF c.ins.length M).map av), .bool true] := by
          unfold hgtsA hgtsV hgtsE
          rw [if_pos hok, if_pos hok, if_pos hok, g2, g3]
        rw [eA]
        have tv : List.take c.ins.length ((valsF c.ins.length M).map (av : Int → AV)) = (valsF c.ins.length M).map av := List.take_of_length_le (by simp [hvl])
        have te : List.take c.ins.length ((envsF c.ins.length M).map (av : Int → AV)) = (envsF c.ins.length M).map av := List.take_of_length_le (by simp [hel])
        simp +contextual -dsimp (maxSteps := 2000000) only [↓SD, SU, SB, Nat.reduceAdd, Nat.reduceBEq, Nat.reduceEqDiff, Nat.reduceLeDiff, Nat.reduceLT, Nat.reduceSub, ↓reduceIte, zA, zI, zN, reduceCtorEq, Int.reduceToNat, zE, Int.reduceEq, Int.reduceLT, Int.reduceLE, Int.reduceNeg, Int.reduceAdd, Int.reduceSub, Nat.lt_irrefl, map_len, map_nop, hvl, hel, tv, te, Nat.le_refl]

end Go.Proofs.YtabifanjbckchaaGreat
