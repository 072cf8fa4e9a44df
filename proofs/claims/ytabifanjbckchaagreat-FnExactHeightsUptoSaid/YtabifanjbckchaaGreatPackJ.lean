/-
  THE GROUND OF DATA, in one text. Conditions: none.
-/
import Derived.Test.YtabifanjbckchaaGreatPackH
import Derived.Test.YtabifanjbckchaaGreatIrHgt

set_option linter.unusedVariables false
set_option linter.unusedSimpArgs false
set_option maxRecDepth 100000
namespace Go.Proofs.YtabifanjbckchaaGreat
open Go.RowKit Go.Proofs.YtabifanjbckchaaGreat.Av Go.Proofs.YtabifanjbckchaaGreat.Ml
open Go.Proofs.YtabifanjbckchaaGreat.Av.AVal (av)

instance : AVal Fc := ⟨fun x => .agg [.int .i64 x.k, .int .i64 x.v, .int .i64 x.e], 3, fun _ => rfl, fun _ => rfl, fun x y hy => by
  simp only [AV.cells, List.mem_cons, List.not_mem_nil, or_false] at hy
  rcases hy with rfl | rfl | rfl <;> exact AvPure.int _ _, fun _ _ => rfl, fun x y hy => by
  simp only [AV.cells, List.mem_cons, List.not_mem_nil, or_false] at hy
  rcases hy with rfl | rfl | rfl <;> rfl⟩
theorem av_Fc (x : Fc) : av x = .agg [.int .i64 x.k, .int .i64 x.v, .int .i64 x.e] := eqq rfl
theorem ins_op {n m : Nat} {i : Ins} (h : insB n m i = true) : 1 ≤ i.op ∧ i.op ≤ 25 := by
  unfold insB leadB at h
  by_cases h8 : i.op = 8
  · omega
  by_cases h9 : i.op = 9
  · omega
  by_cases h12 : i.op = 12
  · omega
  by_cases h13 : i.op = 13
  · omega
  by_cases h18 : i.op = 18
  · omega
  simp only [h8, h9, h12, h13, h18, decide_false, Bool.or_false, Bool.false_eq_true, if_false] at h
  by_cases h20 : i.op = 20
  · omega
  rw [if_neg h20] at h
  by_cases h6 : i.op = 6 ∨ i.op = 15
  · omega
  rw [if_neg h6] at h
  by_cases h1 : i.op = 1
  · omega
  rw [if_neg h1] at h
  by_cases h4 : i.op = 4
  · omega
  rw [if_neg h4] at h
  by_cases h2 : i.op = 2
  · omega
  rw [if_neg h2] at h
  by_cases h7 : i.op = 7
  · omega
  rw [if_neg h7] at h
  by_cases h16 : i.op = 16
  · omega
  rw [if_neg h16] at h
  simp only [Bool.and_eq_true, decide_eq_true_eq] at h
  exact h.1
theorem needs_ok (i : Ins) : CallsF Tryz.prog 45 [av i] (.int .i64 (needI i)) := by
  refine fun_impl_needs rfl (by simp; exact AVal.clean i) (pint _) ?_
  simp +contextual -dsimp (maxSteps := 2000000) only [↓SD, SU, SB, Nat.reduceAdd, Nat.reduceBEq, Nat.reduceEqDiff, Nat.reduceLeDiff, Nat.reduceLT, Nat.reduceSub, ↓reduceIte, zA, zI, zN, reduceCtorEq, Int.reduceToNat, zE, Int.reduceEq, Int.reduceLT, Int.reduceLE, Int.reduceNeg, Int.reduceAdd, Int.reduceSub, ir_impl_needs, rs_impl_needs, av_Ins]
  (repeat' (first | intro _ | refine And.intro ?_ ?_))
  all_goals (simp [needI, *]; done)
theorem patNamesH_ok (l : List PNode) (hx : Bulk.bulk l ≤ 1048576) : CallsF Tryz.prog 66 [.agg [.sl (l.map av)]] (.sl ((varsOf l).map av)) := by
  have hl := bulk_length l
  refine fun_impl_patNames rfl (by simp; exact AvPure.agg (by simp; exact lav_clean l)) (lav_clean _) ?_
  simp +contextual -dsimp (maxSteps := 2000000) only [↓SD, SU, SB, Nat.reduceAdd, Nat.reduceBEq, Nat.reduceEqDiff, Nat.reduceLeDiff, Nat.reduceLT, Nat.reduceSub, ↓reduceIte, zA, zI, zN, reduceCtorEq, Int.reduceToNat, zE, ir_impl_patNames, rs_impl_patNames, map_len]
  intro v
  refine aLoop_of (X := Nat × Nat) (fun x => ⟨[(3, .row 6 x.2 (varsOf (l.take x.1)).length), (8, .sl (l.map av)), (9, .int .i64 l.length), (10, .int .i64 x.1)], [(6, ⟨x.2, false, 9, 1, (varsOf (l.take x.1)).map av⟩)]⟩) (fun x => x.1 ≤ l.length) (fun x => l.length - x.1) (0, v) (Nat.zero_le _) (by simp +contextual -dsimp only [↓SD, SU, SB, Nat.reduceAdd, Nat.reduceBEq, Nat.reduceEqDiff, Nat.reduceLeDiff, Nat.reduceLT, Nat.reduceSub, ↓reduceIte, zA, zI, zN, reduceCtorEq, Int.reduceToNat, zE, varsOf, List.filterMap_nil]) (by simp +contextual -dsimp only [↓SD, SU, SB, Nat.reduceAdd, Nat.reduceBEq, Nat.reduceEqDiff, Nat.reduceLeDiff, Nat.reduceLT, Nat.reduceSub, ↓reduceIte, zA, zI, zN, reduceCtorEq, Int.reduceToNat, zE, varsOf, List.filterMap_nil]) ?_
  rintro ⟨k, u⟩ hk
  simp only at hk
  by_cases hlt : k < l.length
  · have e := getD_map av l k .top hlt
    have hv := varsOf_snoc hlt
    have hvl := varsOf_len (l.take k)
    rw [List.length_take] at hvl
    generalize l[k] = a at *
    simp +contextual -dsimp (maxSteps := 2000000) only [↓SD, SU, SB, Nat.reduceAdd, Nat.reduceBEq, Nat.reduceEqDiff, Nat.reduceLeDiff, Nat.reduceLT, Nat.reduceSub, ↓reduceIte, zA, zI, zN, reduceCtorEq, Int.reduceToNat, zE, map_len, hlt, e, av_PNode]
    intro w
    (repeat' (first | intro _ | refine And.intro ?_ ?_))
    all_goals first | omega | (unfold maxLen; omega) | skip
    · rename_i hk2 u'
      rw [if_pos hk2] at hv
      exact Goes.le ⟨(k + 1, u'), ⟨hlt, (by first | omega | (simp only; omega))⟩, rfl⟩ (by simp +contextual -dsimp only [↓SD, SU, SB, Nat.reduceAdd, Nat.reduceBEq, Nat.reduceEqDiff, Nat.reduceLeDiff, Nat.reduceLT, Nat.reduceSub, ↓reduceIte, zA, zI, zN, reduceCtorEq, Int.reduceToNat, zE, Int.natCast_add, hv, List.length_append]) (by simp +contextual -dsimp only [↓SD, SU, SB, Nat.reduceAdd, Nat.reduceBEq, Nat.reduceEqDiff, Nat.reduceLeDiff, Nat.reduceLT, Nat.reduceSub, ↓reduceIte, zA, zI, zN, reduceCtorEq, Int.reduceToNat, zE, hv, map_nop, take_map, List.map_append, av_str])
    · rename_i hk2
      rw [if_neg hk2, List.append_nil] at hv
      exact Goes.le ⟨(k + 1, u), ⟨hlt, (by first | omega | (simp only; omega))⟩, rfl⟩ (by simp +contextual -dsimp only [↓SD, SU, SB, Nat.reduceAdd, Nat.reduceBEq, Nat.reduceEqDiff, Nat.reduceLeDiff, Nat.reduceLT, Nat.reduceSub, ↓reduceIte, zA, zI, zN, reduceCtorEq, Int.reduceToNat, zE, Int.natCast_add, hv]) (by simp +contextual -dsimp only [↓SD, SU, SB, Nat.reduceAdd, Nat.reduceBEq, Nat.reduceEqDiff, Nat.reduceLeDiff, Nat.reduceLT, Nat.reduceSub, ↓reduceIte, zA, zI, zN, reduceCtorEq, Int.reduceToNat, zE, hv])
  · obtain rfl : k = l.length := by omega
    simp +contextual -dsimp (maxSteps := 2000000) only [↓SD, SU, SB, Nat.reduceAdd, Nat.reduceBEq, Nat.reduceEqDiff, Nat.reduceLeDiff, Nat.reduceLT, Nat.reduceSub, ↓reduceIte, zA, zI, zN, reduceCtorEq, Int.reduceToNat, zE, map_len, Nat.lt_irrefl, List.take_length, map_nop, take_map]
/-- how many values there are behind an instruction, as the program counts them -/
def behV (i : Ins) (v : Int) : Int := if i.op = 11 ∨ i.op = 17 ∨ i.op = 21 then v else v - needI i + makeI i
theorem behind_ok (c : Code) (hx : Bulk.bulk c ≤ 1048576) (hb : codeB c = true) (i : Ins) (hi : insB c.ins.length c.pats.length i = true) (v e : Int) (hv : 0 ≤ v ∧ v ≤ 4000) (he : 0 ≤ e ∧ e ≤ 4000000) :
    CallsF Tryz.prog 44 [av c, av i, .agg [.int .i64 v, .int .i64 e]] (.agg [.int .i64 (behV i v), .int .i64 (e + moreI c i)]) := by
  obtain ⟨⟨hl, hq⟩, hs, hp⟩ := code_small hx
  have h25 := ops25 (ins_op hi)
  have hnm := names_le hb i.a
  refine fun_impl_behind rfl (by simp; exact ⟨AVal.clean c, AVal.clean i, AvPure.agg (by simp; exact ⟨pint _, pint _⟩)⟩) (AvPure.agg (by simp; exact ⟨pint _, pint _⟩)) ?_
  obtain ⟨ins, pats⟩ := c
  obtain ⟨op, a, b, s⟩ := i
  dsimp only at h25 hnm hl hq hs hp
  by_cases h20 : op = 20
  · subst h20
    have ha : 0 ≤ a ∧ a < pats.length := by
      unfold insB leadB at hi
      simp at hi
      omega
    obtain ⟨m, rfl⟩ : ∃ m : Nat, a = m := ⟨a.toNat, by omega⟩
    have hm : m < pats.length := by omega
    have e1 := getD_map av pats m .top hm
    have CP := patNamesH_ok (pats[m]).nodes (hp _ (List.getElem_mem hm))
    have en : namesI ⟨ins, pats⟩ (m : Int) = ((varsOf (pats[m]).nodes).length : Int) := by
      unfold namesI
      simp [List.getD_eq_getElem?_getD, hm]
    have hr : e + moreI ⟨ins, pats⟩ ⟨20, (m : Int), b, s⟩ = e + ((varsOf (pats[m]).nodes).length : Int) := by
      unfold moreI; simp [en]
    rw [en] at hnm
    rw [hr]
    generalize pats[m] = q at *
    have hbv : behV ⟨20, (m : Int), b, s⟩ v = v - 1 := by simp [behV, needI, makeI]
    rw [hbv]
    simp +contextual -dsimp (maxSteps := 2000000) only [↓SD, SU, SB, Nat.reduceAdd, Nat.reduceBEq, Nat.reduceEqDiff, Nat.reduceLeDiff, Nat.reduceLT, Nat.reduceSub, ↓reduceIte, zA, zI, zN, reduceCtorEq, Int.reduceToNat, zE, Int.reduceEq, Int.reduceLT, Int.reduceLE, Int.reduceNeg, Int.reduceAdd, Int.reduceSub, ir_impl_behind, rs_impl_behind, av_Code, av_Ins, hm, e1, av_Pat, map_len]
    intro u u'
    refine ⟨by omega, ?_⟩
    refine aCallK_of _ CP ?_
    simp +contextual -dsimp (maxSteps := 2000000) only [↓SD, SU, SB, Nat.reduceAdd, Nat.reduceBEq, Nat.reduceEqDiff, Nat.reduceLeDiff, Nat.reduceLT, Nat.reduceSub, ↓reduceIte, zA, zI, zN, reduceCtorEq, Int.reduceToNat, zE, Int.reduceEq, Int.reduceLT, Int.reduceLE, Int.reduceNeg, Int.reduceAdd, Int.reduceSub, map_len]
    omega
  · rcases h25 with rfl | rfl | rfl | rfl | rfl | rfl | rfl | rfl | rfl | rfl | rfl | rfl | rfl | rfl | rfl | rfl | rfl | rfl | rfl | rfl | rfl | rfl | rfl | rfl | rfl
    all_goals first
      | exact absurd rfl h20
      | (clear h20
         unfold insB leadB at hi
         simp at hi
         simp +contextual -dsimp (maxSteps := 2000000) only [↓SD, SU, SB, Nat.reduceAdd, Nat.reduceBEq, Nat.reduceEqDiff, Nat.reduceLeDiff, Nat.reduceLT, Nat.reduceSub, ↓reduceIte, zA, zI, zN, reduceCtorEq, Int.reduceToNat, zE, Int.reduceEq, Int.reduceLT, Int.reduceLE, Int.reduceNeg, Int.reduceAdd, Int.reduceSub, ir_impl_behind, rs_impl_behind, av_Code, av_Ins, map_len]
         (repeat' (first | intro _ | refine And.intro ?_ ?_))
         all_goals first
           | omega
           | (simp [behV, needI, makeI, moreI]; done)
           | (simp [behV, needI, makeI, moreI]; omega))
end Go.Proofs.YtabifanjbckchaaGreat


set_option linter.unusedVariables false
set_option linter.unusedSimpArgs false
set_option maxRecDepth 100000
namespace Go.Proofs.YtabifanjbckchaaGreat
open Go.RowKit Go.Proofs.YtabifanjbckchaaGreat.Av Go.Proofs.YtabifanjbckchaaGreat.Ml
open Go.Proofs.YtabifanjbckchaaGreat.Av.AVal (av)

instance (c : Code) (i : Ins) (x : Fc) : Decidable (badI c i x) := inferInstanceAs (Decidable (_ ∨ _ ∨ _ ∨ _))
instance (c : Code) (x : Fc) : Decidable (badF c x) := inferInstanceAs (Decidable (badI _ _ _))
def leapI (c : Code) (i : Ins) (x : Fc) : AV := if badI c i x then .tup [.nils, .bool false] else .tup [.sl ((nextF c i x ++ targF i x.v x.e).map av), .bool true]
def leapA (c : Code) (x : Fc) : AV := leapI c (insAt c.ins x.k) x
theorem leapI_clean (c : Code) (i : Ins) (x : Fc) : AvPure (leapI c i x) := by
  unfold leapI
  split
  · exact AvPure.tup (by simp; exact ⟨AvPure.nils, AvPure.bool _⟩)
  · refine AvPure.tup ?_
    simp only [List.mem_cons, List.not_mem_nil, or_false]
    rintro y (rfl | rfl)
    · exact lav_clean (nextF c i x ++ targF i x.v x.e)
    · exact AvPure.bool _
set_option maxHeartbeats 4000000 in
theorem leaps_ok (c : Code) (hx : Bulk.bulk c ≤ 1048576) (hb : codeB c = true) (x : Fc) (hk : x.k < c.ins.length) (hv : 0 ≤ x.v ∧ x.v ≤ 3999) (he : 0 ≤ x.e ∧ x.e ≤ 3999000) :
    CallsF Tryz.prog 24 [av c, .int .i64 x.k, .agg [.int .i64 x.v, .int .i64 x.e]] (leapA c x) := by
  obtain ⟨⟨hl, hq⟩, hs, hp⟩ := code_small hx
  have hi := ins_ok hb hk
  have hn : c.ins.length ≤ 3000 := by
    have := hb
    unfold codeB at this
    simp only [Bool.and_eq_true, decide_eq_true_eq] at this
    omega
  have ei : insAt c.ins x.k = c.ins[x.k] := by simp [insAt, List.getD_eq_getElem?_getD, hk]
  have e0 := getD_map av c.ins x.k .top hk
  refine fun_impl_leaps rfl (by simp; exact ⟨AVal.clean c, pint _, AvPure.agg (by simp; exact ⟨pint _, pint _⟩)⟩) (leapI_clean c _ x) ?_
  unfold leapA
  rw [ei] at hi ⊢
  unfold leapI
  have CN := needs_ok c.ins[x.k]
  have CB := behind_ok c hx hb c.ins[x.k] hi x.v x.e (by omega) (by omega)
  have CG := goes_ok c.ins[x.k]
  have hnd := need_rng hi
  have hmr := more_rng hb hi
  have hop := ins_op hi
  generalize c.ins[x.k] = i at *
  rw [av_Code] at CB
  rw [av_Ins] at CN CB CG
  have hgo : goesB i = (!decide (i.op = 12) && !decide (i.op = 11) && !decide (i.op = 17) && !decide (i.op = 21)) := rfl
  unfold nextF badI
  simp +contextual -dsimp (maxSteps := 2000000) only [↓SD, SU, SB, Nat.reduceAdd, Nat.reduceBEq, Nat.reduceEqDiff, Nat.reduceLeDiff, Nat.reduceLT, Nat.reduceSub, ↓reduceIte, zA, zI, zN, reduceCtorEq, Int.reduceToNat, zE, Int.reduceEq, Int.reduceLT, Int.reduceLE, Int.reduceNeg, Int.reduceAdd, Int.reduceSub, ir_impl_leaps, rs_impl_leaps, av_Code, map_len, hk, e0, av_Ins]
  intro u8
  refine aCallK_of _ CB ?_
  simp +contextual -dsimp (maxSteps := 2000000) only [↓SD, SU, SB, Nat.reduceAdd, Nat.reduceBEq, Nat.reduceEqDiff, Nat.reduceLeDiff, Nat.reduceLT, Nat.reduceSub, ↓reduceIte, zA, zI, zN, reduceCtorEq, Int.reduceToNat, zE, Int.reduceEq, Int.reduceLT, Int.reduceLE, Int.reduceNeg, Int.reduceAdd, Int.reduceSub]
  intro u9
  refine aCallK_of _ CN ?_
  by_cases c1 : x.v < needI i
  · simp +contextual -dsimp (maxSteps := 2000000) only [↓SD, SU, SB, Nat.reduceAdd, Nat.reduceBEq, Nat.reduceEqDiff, Nat.reduceLeDiff, Nat.reduceLT, Nat.reduceSub, ↓reduceIte, zA, zI, zN, reduceCtorEq, Int.reduceToNat, zE, Int.reduceEq, Int.reduceLT, Int.reduceLE, Int.reduceNeg, Int.reduceAdd, Int.reduceSub, c1, true_or]
  by_cases c2 : i.op = 11 ∧ x.v ≠ 1
  · obtain ⟨c21, c22⟩ := c2
    have c22' : ¬ x.v = 1 := c22
    simp +contextual -dsimp (maxSteps := 2000000) only [↓SD, SU, SB, Nat.reduceAdd, Nat.reduceBEq, Nat.reduceEqDiff, Nat.reduceLeDiff, Nat.reduceLT, Nat.reduceSub, ↓reduceIte, zA, zI, zN, reduceCtorEq, Int.reduceToNat, zE, Int.reduceEq, Int.reduceLT, Int.reduceLE, Int.reduceNeg, Int.reduceAdd, Int.reduceSub, c1, c21, c22', true_or, or_true, not_false_eq_true, and_true]
  have c2' : i.op = 11 → x.v = 1 := fun h => Classical.byContradiction fun h2 => c2 ⟨h, h2⟩
  by_cases c3 : i.op = 6 ∧ x.e ≤ i.a
  · obtain ⟨c31, c32⟩ := c3
    simp +contextual -dsimp (maxSteps := 2000000) only [↓SD, SU, SB, Nat.reduceAdd, Nat.reduceBEq, Nat.reduceEqDiff, Nat.reduceLeDiff, Nat.reduceLT, Nat.reduceSub, ↓reduceIte, zA, zI, zN, reduceCtorEq, Int.reduceToNat, zE, Int.reduceEq, Int.reduceLT, Int.reduceLE, Int.reduceNeg, Int.reduceAdd, Int.reduceSub, c1, c31, c32, true_or, or_true, and_true]
  have d6 : i.op = 6 → ¬ x.e ≤ i.a := fun h h2 => c3 ⟨h, h2⟩
  by_cases c4 : x.e + moreI c i < 0
  · by_cases h11 : i.op = 11
    · have e1 := c2' h11
      simp +contextual -dsimp (maxSteps := 2000000) only [↓SD, SU, SB, Nat.reduceAdd, Nat.reduceBEq, Nat.reduceEqDiff, Nat.reduceLeDiff, Nat.reduceLT, Nat.reduceSub, ↓reduceIte, zA, zI, zN, reduceCtorEq, Int.reduceToNat, zE, Int.reduceEq, Int.reduceLT, Int.reduceLE, Int.reduceNeg, Int.reduceAdd, Int.reduceSub, c1, h11, e1, c4, true_or, or_true, and_true, not_true_eq_false, false_or]
    by_cases h6 : i.op = 6
    · have e1 := d6 h6
      simp +contextual -dsimp (maxSteps := 2000000) only [↓SD, SU, SB, Nat.reduceAdd, Nat.reduceBEq, Nat.reduceEqDiff, Nat.reduceLeDiff, Nat.reduceLT, Nat.reduceSub, ↓reduceIte, zA, zI, zN, reduceCtorEq, Int.reduceToNat, zE, Int.reduceEq, Int.reduceLT, Int.reduceLE, Int.reduceNeg, Int.reduceAdd, Int.reduceSub, c1, h6, e1, c4, true_or, or_true, and_true, not_true_eq_false, false_or]
    simp +contextual -dsimp (maxSteps := 2000000) only [↓SD, SU, SB, Nat.reduceAdd, Nat.reduceBEq, Nat.reduceEqDiff, Nat.reduceLeDiff, Nat.reduceLT, Nat.reduceSub, ↓reduceIte, zA, zI, zN, reduceCtorEq, Int.reduceToNat, zE, Int.reduceEq, Int.reduceLT, Int.reduceLE, Int.reduceNeg, Int.reduceAdd, Int.reduceSub, c1, h11, h6, c4, true_or, or_true, and_true, not_true_eq_false, false_or, false_and]
  have hnb : ¬ (x.v < needI i ∨ (i.op = 11 ∧ x.v ≠ 1) ∨ (i.op = 6 ∧ x.e ≤ i.a) ∨ x.e + moreI c i < 0) := fun h => by
    rcases h with h | h | h | h
    · exact c1 h
    · exact c2 h
    · exact c3 h
    · exact c4 h
  have hbv : 0 ≤ behV i x.v ∧ behV i x.v ≤ 4000 := by
    unfold behV; split <;> omega
  have fin : ∀ R, awpOps Tryz.prog R [] ⟨[], []⟩ = R ⟨[], []⟩ := fun R => rfl
  clear fin
  have h25 := ops25 hop
  have f12 : i.op = 12 → behV i x.v = x.v ∧ moreI c i = 0 := fun h => by simp [behV, needI, makeI, moreI, h]
  have f13 : i.op = 13 → needI i = 1 ∧ makeI i = 0 ∧ moreI c i = 0 := fun h => by simp [needI, makeI, moreI, h]
  have c11 : i.op = 11 → ¬ (1 : Int) < needI i := fun h h2 => by have := c2' h; omega
  have hnx : nextF c i x = if goesB i = true then [⟨x.k + 1, x.v - needI i + makeI i, x.e + moreI c i⟩] else [] := rfl
  have hbeh : goesB i = true → behV i x.v = x.v - needI i + makeI i := fun h => by
    unfold behV
    rw [if_neg]
    intro h2
    unfold goesB at h
    rcases h2 with h2 | h2 | h2 <;> simp [h2] at h
  generalize hmo : moreI c i = mo at *
  generalize hbe : behV i x.v = be at *
  generalize hne : needI i = ne at *
  generalize hma : makeI i = ma at *
  have hta : leadB i.op = true → ((i.a.toNat : Nat) : Int) = i.a := fun h => by
    unfold insB at hi
    rw [if_pos h] at hi
    simp only [Bool.and_eq_true, decide_eq_true_eq] at hi
    omega
  have htb : i.op = 20 → ((i.b.toNat : Nat) : Int) = i.b := fun h => by
    unfold insB leadB at hi
    simp [h] at hi
    omega
  have harn : -9223372036854775808 ≤ x.e ∧ x.e + 2 ≤ 9223372036854775807 := by omega
  clear CB CN hbe hne hma hmo hnx e0 ei hnb hgo hop hi
  cases hg : goesB i
  all_goals
    rw [hg] at CG hbeh
    obtain ⟨op, a, b, s⟩ := i
    dsimp only at h25 c2' c11 d6 hta htb f12 f13 CG ⊢
    clear c2 c3
    rcases h25 with rfl | rfl | rfl | rfl | rfl | rfl | rfl | rfl | rfl | rfl | rfl | rfl | rfl | rfl | rfl | rfl | rfl | rfl | rfl | rfl | rfl | rfl | rfl | rfl | rfl
  all_goals first
    | (exfalso; simp [goesB] at hg; done)
    | skip
  all_goals
    first
      | (have hb2 := hbeh rfl
         subst hb2)
      | skip
    clear hbeh hg
    simp +contextual -dsimp (maxSteps := 2000000) only [↓SD, SU, SB, Nat.reduceAdd, Nat.reduceBEq, Nat.reduceEqDiff, Nat.reduceLeDiff, Nat.reduceLT, Nat.reduceSub, ↓reduceIte, zA, zI, zN, reduceCtorEq, Int.reduceToNat, zE, Int.reduceEq, Int.reduceLT, Int.reduceLE, Int.reduceNeg, Int.reduceAdd, Int.reduceSub, c1, c2', c11, d6, c4, true_or, or_true, and_true, not_true_eq_false, false_or, or_false, false_and, and_false]
    intro v
    refine aCallK_of _ CG ?_
    simp +contextual -dsimp (maxSteps := 2000000) only [↓SD, SU, SB, Nat.reduceAdd, Nat.reduceBEq, Nat.reduceEqDiff, Nat.reduceLeDiff, Nat.reduceLT, Nat.reduceSub, ↓reduceIte, zA, zI, zN, reduceCtorEq, Int.reduceToNat, zE, Int.reduceEq, Int.reduceLT, Int.reduceLE, Int.reduceNeg, Int.reduceAdd, Int.reduceSub]
    (repeat' (first | intro _ | refine And.intro ?_ ?_))
  all_goals first
    | omega
    | (unfold maxLen; omega)
    | (simp [targF, av_Fc, leadB] at hta htb ⊢; first | done | omega | (simp [hta, htb]; first | done | omega) | (simp [hta]; first | done | omega) | (simp [htb]; first | done | omega) | (simp at f12; simp [f12, hta]; first | done | omega) | (simp at f13; simp [f13, hta]; first | done | omega) | (trace_state; sorry))
  all_goals trace_state
end Go.Proofs.YtabifanjbckchaaGreat
