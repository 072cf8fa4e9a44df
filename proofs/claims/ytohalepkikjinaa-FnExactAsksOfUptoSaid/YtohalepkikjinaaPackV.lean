/-
  THE GROUND OF DATA, in one text. Conditions: none.
-/
import Derived.Test.YtohalepkikjinaaPackU
import Derived.Test.YtohalepkikjinaaIrPlanS
import Derived.Test.YtohalepkikjinaaPatSpec
import Derived.Test.YtohalepkikjinaaPackQ

set_option linter.unusedVariables false
set_option linter.unusedSimpArgs false
set_option maxRecDepth 100000
namespace Go.Proofs.Ytohalepkikjinaa
open Go.RowKit Go.Proofs.Ytohalepkikjinaa.Av Go.Proofs.Ytohalepkikjinaa.Ml
open Go.Proofs.Ytohalepkikjinaa.Av.AVal (av)

/-- a test, as the reference lays it -/
structure TsS where
  t : Tst
structure TrS where
  r : TRow
instance : AVal TsS := ⟨fun x => .agg [.sl (x.t.path.map av), .int .i64 x.t.kind, .int .i64 x.t.n, .str x.t.s, .bool x.t.has], 5, fun _ => rfl, fun _ => rfl, fun x y hy => by
  simp only [AV.cells, List.mem_cons, List.not_mem_nil, or_false] at hy
  rcases hy with rfl | rfl | rfl | rfl | rfl <;> first | exact AvPure.int _ _ | exact AvPure.str _ | exact AvPure.bool _ | exact lav_clean x.t.path, fun _ _ => rfl, fun x y hy => by
  simp only [AV.cells, List.mem_cons, List.not_mem_nil, or_false] at hy
  rcases hy with rfl | rfl | rfl | rfl | rfl <;> rfl⟩
theorem av_TsS (x : TsS) : av x = .agg [.sl (x.t.path.map av), .int .i64 x.t.kind, .int .i64 x.t.n, .str x.t.s, .bool x.t.has] := eqq rfl
instance : AVal TrS := ⟨fun x => .agg [.sl ((x.r.tests.map TsS.mk).map av), .int .i64 x.r.arm], 2, fun _ => rfl, fun _ => rfl, fun x y hy => by
  simp only [AV.cells, List.mem_cons, List.not_mem_nil, or_false] at hy
  rcases hy with rfl | rfl <;> first | exact AvPure.int _ _ | exact lav_clean (x.r.tests.map TsS.mk), fun _ _ => rfl, fun x y hy => by
  simp only [AV.cells, List.mem_cons, List.not_mem_nil, or_false] at hy
  rcases hy with rfl | rfl <;> rfl⟩
theorem av_TrS (x : TrS) : av x = .agg [.sl ((x.r.tests.map TsS.mk).map av), .int .i64 x.r.arm] := eqq rfl
theorem l17Path_ok (a b : List Int) (ha : a.length ≤ 1099511627776) : CallsF Try.prog 54 [.sl (a.map av), .sl (b.map av)] (.bool (decide (a = b))) := by
  refine fun_spec_l17Path rfl (by simp; exact ⟨lav_clean a, lav_clean b⟩) (AvPure.bool _) ?_
  by_cases hl : a.length = b.length
  case neg =>
    have hne : ¬ a = b := fun h => hl (by rw [h])
    have hli : ¬ (a.length : Int) = b.length := by omega
    simp +contextual -dsimp (maxSteps := 2000000) only [↓SD, SU, SB, Nat.reduceAdd, Nat.reduceBEq, Nat.reduceEqDiff, Nat.reduceLeDiff, Nat.reduceLT, Nat.reduceSub, ↓reduceIte, zA, zI, zN, reduceCtorEq, Int.reduceToNat, zE, Int.reduceEq, Int.reduceLT, Int.reduceLE, Int.reduceNeg, Int.reduceAdd, Int.reduceSub, ir_spec_l17Path, rs_spec_l17Path, map_len, hl, hli, hne]
  have hli : (a.length : Int) = b.length := by omega
  simp +contextual -dsimp (maxSteps := 2000000) only [↓SD, SU, SB, Nat.reduceAdd, Nat.reduceBEq, Nat.reduceEqDiff, Nat.reduceLeDiff, Nat.reduceLT, Nat.reduceSub, ↓reduceIte, zA, zI, zN, reduceCtorEq, Int.reduceToNat, zE, Int.reduceEq, Int.reduceLT, Int.reduceLE, Int.reduceNeg, Int.reduceAdd, Int.reduceSub, ir_spec_l17Path, rs_spec_l17Path, map_len, hli]
  refine aLoop_of (X := Nat) (fun k => ⟨[(0, .sl (a.map av)), (1, .sl (b.map av)), (12, .int .i64 b.length), (13, .int .i64 k)], []⟩) (fun k => k ≤ b.length ∧ a.take k = b.take k) (fun k => b.length - k) 0 ⟨Nat.zero_le _, rfl⟩ (by simp +contextual -dsimp only [↓SD, SU, SB, Nat.reduceAdd, Nat.reduceBEq, Nat.reduceEqDiff, Nat.reduceLeDiff, Nat.reduceLT, Nat.reduceSub, ↓reduceIte, zA, zI, zN, reduceCtorEq, Int.reduceToNat, zE]) trivial ?_
  rintro k ⟨hk, hp⟩
  by_cases hlt : k < b.length
  · have hlta : k < a.length := by omega
    have e1 := getD_map av a k .top hlta
    have e2 := getD_map av b k .top hlt
    rw [av_int] at e1 e2
    by_cases he : a[k] = b[k]
    · have hst := take_eq_step hlta hlt hp he
      rw [he] at e1
      simp +contextual -dsimp (maxSteps := 2000000) only [↓SD, SU, SB, Nat.reduceAdd, Nat.reduceBEq, Nat.reduceEqDiff, Nat.reduceLeDiff, Nat.reduceLT, Nat.reduceSub, ↓reduceIte, zA, zI, zN, reduceCtorEq, Int.reduceToNat, zE, Int.reduceEq, Int.reduceLT, Int.reduceLE, Int.reduceNeg, Int.reduceAdd, Int.reduceSub, hlt, hlta, e1, e2, map_len]
      refine ⟨by omega, Goes.le ⟨k + 1, ⟨⟨hlt, hst⟩, (by first | omega | (simp only; omega))⟩, rfl⟩ (by simp +contextual -dsimp only [↓SD, SU, SB, Nat.reduceAdd, Nat.reduceBEq, Nat.reduceEqDiff, Nat.reduceLeDiff, Nat.reduceLT, Nat.reduceSub, ↓reduceIte, zA, zI, zN, reduceCtorEq, Int.reduceToNat, zE, Int.natCast_add]) trivial⟩
    · have hne : ¬ a = b := fun h => he (by subst h; rfl)
      simp +contextual -dsimp (maxSteps := 2000000) only [↓SD, SU, SB, Nat.reduceAdd, Nat.reduceBEq, Nat.reduceEqDiff, Nat.reduceLeDiff, Nat.reduceLT, Nat.reduceSub, ↓reduceIte, zA, zI, zN, reduceCtorEq, Int.reduceToNat, zE, Int.reduceEq, Int.reduceLT, Int.reduceLE, Int.reduceNeg, Int.reduceAdd, Int.reduceSub, hlt, hlta, e1, e2, he, hne, map_len]
  · obtain rfl : k = b.length := by omega
    have hab : a = b := by
      rw [List.take_of_length_le (by omega), List.take_of_length_le (by omega)] at hp
      exact hp
    simp +contextual -dsimp (maxSteps := 2000000) only [↓SD, SU, SB, Nat.reduceAdd, Nat.reduceBEq, Nat.reduceEqDiff, Nat.reduceLeDiff, Nat.reduceLT, Nat.reduceSub, ↓reduceIte, zA, zI, zN, reduceCtorEq, Int.reduceToNat, zE, Int.reduceEq, Int.reduceLT, Int.reduceLE, Int.reduceNeg, Int.reduceAdd, Int.reduceSub, Nat.lt_irrefl, hab]
theorem l17Begin_ok (x t : Tst) : CallsF Try.prog 55 [av (⟨x⟩ : TsS), av (⟨t⟩ : TsS)] (.bool (beginT x t)) := by
  refine fun_spec_l17Begin rfl (by simp; exact ⟨AVal.clean (⟨x⟩ : TsS), AVal.clean (⟨t⟩ : TsS)⟩) (AvPure.bool _) ?_
  unfold beginT
  by_cases h1 : x.kind = t.kind
  case neg => simp +contextual -dsimp (maxSteps := 2000000) only [↓SD, SU, SB, Nat.reduceAdd, Nat.reduceBEq, Nat.reduceEqDiff, Nat.reduceLeDiff, Nat.reduceLT, Nat.reduceSub, ↓reduceIte, zA, zI, zN, reduceCtorEq, Int.reduceToNat, zE, Int.reduceEq, Int.reduceLT, Int.reduceLE, Int.reduceNeg, Int.reduceAdd, Int.reduceSub, ir_spec_l17Begin, rs_spec_l17Begin, av_TsS, h1]
  by_cases h2 : x.n = t.n
  case neg => simp +contextual -dsimp (maxSteps := 2000000) only [↓SD, SU, SB, Nat.reduceAdd, Nat.reduceBEq, Nat.reduceEqDiff, Nat.reduceLeDiff, Nat.reduceLT, Nat.reduceSub, ↓reduceIte, zA, zI, zN, reduceCtorEq, Int.reduceToNat, zE, Int.reduceEq, Int.reduceLT, Int.reduceLE, Int.reduceNeg, Int.reduceAdd, Int.reduceSub, ir_spec_l17Begin, rs_spec_l17Begin, av_TsS, h1, h2]
  by_cases h3 : x.s = t.s
  case neg => simp +contextual -dsimp (maxSteps := 2000000) only [↓SD, SU, SB, Nat.reduceAdd, Nat.reduceBEq, Nat.reduceEqDiff, Nat.reduceLeDiff, Nat.reduceLT, Nat.reduceSub, ↓reduceIte, zA, zI, zN, reduceCtorEq, Int.reduceToNat, zE, Int.reduceEq, Int.reduceLT, Int.reduceLE, Int.reduceNeg, Int.reduceAdd, Int.reduceSub, ir_spec_l17Begin, rs_spec_l17Begin, av_TsS, h1, h2, h3]
  simp +contextual -dsimp (maxSteps := 2000000) only [↓SD, SU, SB, Nat.reduceAdd, Nat.reduceBEq, Nat.reduceEqDiff, Nat.reduceLeDiff, Nat.reduceLT, Nat.reduceSub, ↓reduceIte, zA, zI, zN, reduceCtorEq, Int.reduceToNat, zE, Int.reduceEq, Int.reduceLT, Int.reduceLE, Int.reduceNeg, Int.reduceAdd, Int.reduceSub, ir_spec_l17Begin, rs_spec_l17Begin, av_TsS, h1, h2, h3]
theorem av2 {a b : AV} (ha : AvPure a) (hb : AvPure b) : ∀ x ∈ [a, b], AvPure x := fun x hx => by
  rcases List.mem_cons.1 hx with rfl | hx
  · exact ha
  · rw [List.mem_singleton.1 hx]; exact hb
structure YeO where
  k : Nat
  a : Nat
structure YeJ where
  j : Nat
  c : Nat
set_option maxHeartbeats 4000000 in
theorem l17Yes_ok (R : List TRow) (t : Tst) (hR : R.length ≤ 1048576) (hin : RowsIn R) (hT : ∀ r ∈ R, r.tests.length ≤ 1048576) : CallsF Try.prog 32 [.sl ((R.map TrS.mk).map av), av (⟨t⟩ : TsS)] (.sl (((yesR R t).map TrS.mk).map av)) := by
  refine fun_spec_l17Yes rfl (av2 (lav_clean (R.map TrS.mk)) (AVal.clean (⟨t⟩ : TsS))) (lav_clean _) ?_
  have hRm : (R.map TrS.mk).length = R.length := List.length_map _
  simp +contextual -dsimp (maxSteps := 2000000) only [↓SD, SU, SB, Nat.reduceAdd, Nat.reduceBEq, Nat.reduceEqDiff, Nat.reduceLeDiff, Nat.reduceLT, Nat.reduceSub, ↓reduceIte, zA, zI, zN, reduceCtorEq, Int.reduceToNat, zE, Int.reduceEq, Int.reduceLT, Int.reduceLE, Int.reduceNeg, Int.reduceAdd, Int.reduceSub, ir_spec_l17Yes, rs_spec_l17Yes, av_TsS]
  intro u12
  refine aLoop_of (X := YeO) (fun q => ⟨[(3, .obj [.sl (t.path.map av), .int .i64 t.kind, .int .i64 t.n, .str t.s, .bool t.has]), (5, .row 12 q.a (yesR (R.take q.k) t).length), (13, .sl ((R.map TrS.mk).map av)), (14, .int .i64 R.length), (15, .int .i64 q.k)], [(12, ⟨q.a, false, 48, 2, ((yesR (R.take q.k) t).map TrS.mk).map av⟩)]⟩) (fun q => q.k ≤ R.length) (fun q => R.length - q.k) ⟨0, u12⟩ (Nat.zero_le _) (by simp +contextual -dsimp only [↓SD, SU, SB, Nat.reduceAdd, Nat.reduceBEq, Nat.reduceEqDiff, Nat.reduceLeDiff, Nat.reduceLT, Nat.reduceSub, ↓reduceIte, zA, zI, zN, reduceCtorEq, Int.reduceToNat, zE, List.take_zero, yesR, List.filter_nil, List.length_map]) (by simp +contextual -dsimp only [↓SD, SU, SB, Nat.reduceAdd, Nat.reduceBEq, Nat.reduceEqDiff, Nat.reduceLeDiff, Nat.reduceLT, Nat.reduceSub, ↓reduceIte, zA, zI, zN, reduceCtorEq, Int.reduceToNat, zE, List.take_zero, yesR, List.filter_nil, List.map_nil]) ?_
  rintro ⟨k, a⟩ hk
  dsimp only at hk ⊢
  by_cases hlk : k < R.length
  · have e2 : ((R.map TrS.mk).map (av : TrS → AV)).getD k .top = av (⟨R[k]⟩ : TrS) := by rw [getD_map av (R.map TrS.mk) k .top (by omega), List.getElem_map]
    have hrk : R[k] ∈ R := List.getElem_mem hlk
    have ys := yesR_snoc (R.take k) R[k] t
    rw [← List.take_succ_eq_append_getElem hlk] at ys
    have yl := yesR_len (R.take k) t
    have hkl : (R.take k).length = k := by simp; omega
    rw [hkl] at yl
    have hinr := hin R[k] hrk
    have hTr := hT R[k] hrk
    generalize R[k] = r at *
    generalize yesR (R.take k) t = Y at *
    have hra : av (⟨r⟩ : TrS) = .agg [.sl ((r.tests.map TsS.mk).map av), .int .i64 r.arm] := av_TrS _
    have hYl : ((Y.map TrS.mk).map (av : TrS → AV)).length = Y.length := by simp
    have hYt : List.take Y.length ((Y.map TrS.mk).map (av : TrS → AV)) = (Y.map TrS.mk).map av := List.take_of_length_le (by simp)
    simp +contextual -dsimp (maxSteps := 2000000) only [↓SD, SU, SB, Nat.reduceAdd, Nat.reduceBEq, Nat.reduceEqDiff, Nat.reduceLeDiff, Nat.reduceLT, Nat.reduceSub, ↓reduceIte, zA, zI, zN, reduceCtorEq, Int.reduceToNat, zE, Int.reduceEq, Int.reduceLT, Int.reduceLE, Int.reduceNeg, Int.reduceAdd, Int.reduceSub, hlk, hRm, map_len, e2, hra]
    intro u7 u19
    refine aLoop_of (X := YeJ) (fun q => ⟨[(3, .obj [.sl (t.path.map av), .int .i64 t.kind, .int .i64 t.n, .str t.s, .bool t.has]), (5, .row 12 a Y.length), (7, .ptr 7 u7 0 0), (8, .bool (!(r.tests.take q.j).any (clashT t))), (9, .row 19 q.c ((r.tests.take q.j).filter fun x => !pathT x t).length), (13, .sl ((R.map TrS.mk).map av)), (14, .int .i64 R.length), (15, .int .i64 k), (21, .sl ((r.tests.map TsS.mk).map av)), (22, .int .i64 r.tests.length), (23, .int .i64 q.j)], [(12, ⟨a, false, 48, 2, (Y.map TrS.mk).map av⟩), (7, ⟨u7, false, 48, 2, [.agg [.sl ((r.tests.map TsS.mk).map av), .int .i64 r.arm]]⟩), (19, ⟨q.c, false, 73, 5, (((r.tests.take q.j).filter fun x => !pathT x t).map TsS.mk).map av⟩)]⟩) (fun q => q.j ≤ r.tests.length) (fun q => r.tests.length - q.j) ⟨0, u19⟩ (Nat.zero_le _) (by simp +contextual -dsimp only [↓SD, SU, SB, Nat.reduceAdd, Nat.reduceBEq, Nat.reduceEqDiff, Nat.reduceLeDiff, Nat.reduceLT, Nat.reduceSub, ↓reduceIte, zA, zI, zN, reduceCtorEq, Int.reduceToNat, zE, List.take_zero, List.filter_nil, List.any_nil, List.length_map]) (by simp +contextual -dsimp only [↓SD, SU, SB, Nat.reduceAdd, Nat.reduceBEq, Nat.reduceEqDiff, Nat.reduceLeDiff, Nat.reduceLT, Nat.reduceSub, ↓reduceIte, zA, zI, zN, reduceCtorEq, Int.reduceToNat, zE, List.take_zero, List.filter_nil, List.map_nil]) ?_
    rintro ⟨j, c⟩ hj
    dsimp only at hj ⊢
    have hrm : (r.tests.map TsS.mk).length = r.tests.length := List.length_map _
    by_cases hlj : j < r.tests.length
    · have e3 : ((r.tests.map TsS.mk).map (av : TsS → AV)).getD j .top = av (⟨r.tests[j]⟩ : TsS) := by rw [getD_map av (r.tests.map TsS.mk) j .top (by omega), List.getElem_map]
      have fs := filter_take_step (p := fun x => !pathT x t) hlj
      have an := any_take_step (p := clashT t) hlj
      have hxp := hinr _ (List.getElem_mem hlj)
      have C1 : CallsF Try.prog 54 [.sl (r.tests[j].path.map av), .sl (t.path.map av)] (.bool (pathT r.tests[j] t)) := l17Path_ok r.tests[j].path t.path (by omega)
      have C2 := l17Begin_ok r.tests[j] t
      have fl : ((r.tests.take j).filter fun x => !pathT x t).length ≤ j := by
        have h1 := List.length_filter_le (fun x => !pathT x t) (r.tests.take j)
        have h2 : (r.tests.take j).length = j := by simp; omega
        omega
      generalize hx : r.tests[j] = x at *
      generalize (r.tests.take j).filter (fun x => !pathT x t) = F at *
      generalize (r.tests.take j).any (clashT t) = o at *
      have hct : clashT t x = (pathT x t && !beginT x t) := rfl
      have hFl : ((F.map TsS.mk).map (av : TsS → AV)).length = F.length := by simp
      have hFt : List.take F.length ((F.map TsS.mk).map (av : TsS → AV)) = (F.map TsS.mk).map av := List.take_of_length_le (by simp)
      have hxa : av (⟨x⟩ : TsS) = _ := av_TsS _
      dsimp only at hxa
      rw [hct] at an
      rw [hxa, av_TsS] at C2
      dsimp only at C2
      cases hp : pathT x t <;> cases hb : beginT x t <;> cases o
      all_goals
        rw [hp] at C1 an fs
        rw [hb] at C2 an
        simp only [Bool.and_true, Bool.and_false, Bool.false_and, Bool.true_and, Bool.not_true, Bool.not_false, Bool.or_true, Bool.or_false, Bool.true_or, Bool.false_or, if_true, if_false, Bool.false_eq_true, List.append_nil] at an fs
        simp +contextual -dsimp (maxSteps := 2000000) only [↓SD, SU, SB, Nat.reduceAdd, Nat.reduceBEq, Nat.reduceEqDiff, Nat.reduceLeDiff, Nat.reduceLT, Nat.reduceSub, ↓reduceIte, zA, zI, zN, reduceCtorEq, Int.reduceToNat, zE, Int.reduceEq, Int.reduceLT, Int.reduceLE, Int.reduceNeg, Int.reduceAdd, Int.reduceSub, hlj, hrm, map_len, e3, hxa]
        intro u11
        refine aCallK_of _ C1 ?_
        simp +contextual -dsimp (maxSteps := 2000000) only [↓SD, SU, SB, Nat.reduceAdd, Nat.reduceBEq, Nat.reduceEqDiff, Nat.reduceLeDiff, Nat.reduceLT, Nat.reduceSub, ↓reduceIte, zA, zI, zN, reduceCtorEq, Int.reduceToNat, zE, Int.reduceEq, Int.reduceLT, Int.reduceLE, Int.reduceNeg, Int.reduceAdd, Int.reduceSub, hFt, hFl]
        first
          | (refine ⟨⟨by omega, by unfold maxLen; omega⟩, fun c' => ?_⟩
             exact ⟨by omega, Goes.le ⟨⟨j + 1, c'⟩, ⟨hlj, (by first | omega | (simp only; omega))⟩, rfl⟩ (by simp +contextual -dsimp only [↓SD, SU, SB, Nat.reduceAdd, Nat.reduceBEq, Nat.reduceEqDiff, Nat.reduceLeDiff, Nat.reduceLT, Nat.reduceSub, ↓reduceIte, zA, zI, zN, reduceCtorEq, Int.reduceToNat, zE, Int.natCast_add, an, fs, List.length_append]) (by simp +contextual -dsimp only [↓SD, SU, SB, Nat.reduceAdd, Nat.reduceBEq, Nat.reduceEqDiff, Nat.reduceLeDiff, Nat.reduceLT, Nat.reduceSub, ↓reduceIte, zA, zI, zN, reduceCtorEq, Int.reduceToNat, zE, fs, List.map_append, hxa])⟩)
          | (refine aCallK_of _ C2 ?_
             simp +contextual -dsimp (maxSteps := 2000000) only [↓SD, SU, SB, Nat.reduceAdd, Nat.reduceBEq, Nat.reduceEqDiff, Nat.reduceLeDiff, Nat.reduceLT, Nat.reduceSub, ↓reduceIte, zA, zI, zN, reduceCtorEq, Int.reduceToNat, zE, Int.reduceEq, Int.reduceLT, Int.reduceLE, Int.reduceNeg, Int.reduceAdd, Int.reduceSub]
             exact ⟨by omega, Goes.le ⟨⟨j + 1, c⟩, ⟨hlj, (by first | omega | (simp only; omega))⟩, rfl⟩ (by simp +contextual -dsimp only [↓SD, SU, SB, Nat.reduceAdd, Nat.reduceBEq, Nat.reduceEqDiff, Nat.reduceLeDiff, Nat.reduceLT, Nat.reduceSub, ↓reduceIte, zA, zI, zN, reduceCtorEq, Int.reduceToNat, zE, Int.natCast_add, an, fs]) (by simp +contextual -dsimp only [↓SD, SU, SB, Nat.reduceAdd, Nat.reduceBEq, Nat.reduceEqDiff, Nat.reduceLeDiff, Nat.reduceLT, Nat.reduceSub, ↓reduceIte, zA, zI, zN, reduceCtorEq, Int.reduceToNat, zE, fs])⟩)
    · obtain rfl : j = r.tests.length := by omega
      rw [List.take_length]
      obtain ⟨L, hL⟩ : ∃ L, L = r.tests.filter fun x => !pathT x t := ⟨_, rfl⟩
      have hys : (fun x => !pathT x t) = fun x => !pathT x t := rfl
      rw [← hL] at ys ⊢
      have hfm : ∀ hp, ((L.map TsS.mk).map (av : TsS → AV)).map (AV.pur hp) = (L.map TsS.mk).map av := fun hp => map_nop _ hp
      have hfl : List.take L.length ((L.map TsS.mk).map (av : TsS → AV)) = (L.map TsS.mk).map av := List.take_of_length_le (by simp)
      have hLl : ((L.map TsS.mk).map (av : TsS → AV)).length = L.length := by simp
      cases hcl : r.tests.any (clashT t)
      all_goals
        rw [hcl] at ys
        simp only [Bool.false_eq_true, if_true, if_false, List.append_nil] at ys
        simp +contextual -dsimp (maxSteps := 2000000) only [↓SD, SU, SB, Nat.reduceAdd, Nat.reduceBEq, Nat.reduceEqDiff, Nat.reduceLeDiff, Nat.reduceLT, Nat.reduceSub, ↓reduceIte, zA, zI, zN, reduceCtorEq, Int.reduceToNat, zE, Int.reduceEq, Int.reduceLT, Int.reduceLE, Int.reduceNeg, Int.reduceAdd, Int.reduceSub, Nat.lt_irrefl]
        refine ghost_of (Goes.frz 19 (Goes.pur 9 (Goes.here ?_)))
        simp +contextual -dsimp (maxSteps := 2000000) only [↓SD, SU, SB, Nat.reduceAdd, Nat.reduceBEq, Nat.reduceEqDiff, Nat.reduceLeDiff, Nat.reduceLT, Nat.reduceSub, ↓reduceIte, zA, zI, zN, reduceCtorEq, Int.reduceToNat, zE, Int.reduceEq, Int.reduceLT, Int.reduceLE, Int.reduceNeg, Int.reduceAdd, Int.reduceSub, hfm, hfl, hLl, Nat.le_refl, hYl, hYt]
      · exact ⟨⟨by omega, by unfold maxLen; omega⟩, fun a' => ⟨by omega, Goes.le ⟨⟨k + 1, a'⟩, ⟨hlk, (by first | omega | (simp only; omega))⟩, rfl⟩ (by simp +contextual -dsimp only [↓SD, SU, SB, Nat.reduceAdd, Nat.reduceBEq, Nat.reduceEqDiff, Nat.reduceLeDiff, Nat.reduceLT, Nat.reduceSub, ↓reduceIte, zA, zI, zN, reduceCtorEq, Int.reduceToNat, zE, Int.natCast_add, ys, List.length_append]) (by simp +contextual -dsimp only [↓SD, SU, SB, Nat.reduceAdd, Nat.reduceBEq, Nat.reduceEqDiff, Nat.reduceLeDiff, Nat.reduceLT, Nat.reduceSub, ↓reduceIte, zA, zI, zN, reduceCtorEq, Int.reduceToNat, zE, ys, List.map_append, av_TrS])⟩⟩
      · exact ⟨by omega, Goes.le ⟨⟨k + 1, a⟩, ⟨hlk, (by first | omega | (simp only; omega))⟩, rfl⟩ (by simp +contextual -dsimp only [↓SD, SU, SB, Nat.reduceAdd, Nat.reduceBEq, Nat.reduceEqDiff, Nat.reduceLeDiff, Nat.reduceLT, Nat.reduceSub, ↓reduceIte, zA, zI, zN, reduceCtorEq, Int.reduceToNat, zE, Int.natCast_add, ys]) (by simp +contextual -dsimp only [↓SD, SU, SB, Nat.reduceAdd, Nat.reduceBEq, Nat.reduceEqDiff, Nat.reduceLeDiff, Nat.reduceLT, Nat.reduceSub, ↓reduceIte, zA, zI, zN, reduceCtorEq, Int.reduceToNat, zE, ys])⟩
  · obtain rfl : k = R.length := by omega
    rw [List.take_length]
    obtain ⟨Z, hZ⟩ : ∃ Z, Z = yesR R t := ⟨_, rfl⟩
    rw [← hZ]
    have hZm : ∀ hp, ((Z.map TrS.mk).map (av : TrS → AV)).map (AV.pur hp) = (Z.map TrS.mk).map av := fun hp => map_nop _ hp
    have hZl : ((Z.map TrS.mk).map (av : TrS → AV)).length = Z.length := by simp
    have hZt : List.take Z.length ((Z.map TrS.mk).map (av : TrS → AV)) = (Z.map TrS.mk).map av := List.take_of_length_le (by simp)
    simp +contextual -dsimp (maxSteps := 2000000) only [↓SD, SU, SB, Nat.reduceAdd, Nat.reduceBEq, Nat.reduceEqDiff, Nat.reduceLeDiff, Nat.reduceLT, Nat.reduceSub, ↓reduceIte, zA, zI, zN, reduceCtorEq, Int.reduceToNat, zE, Int.reduceEq, Int.reduceLT, Int.reduceLE, Int.reduceNeg, Int.reduceAdd, Int.reduceSub, Nat.lt_irrefl, hZm, hZl, hZt, Nat.le_refl]
structure NoJ where
  j : Nat
set_option maxHeartbeats 4000000 in
theorem l17No_ok (R : List TRow) (t : Tst) (hR : R.length ≤ 1048576) (hin : RowsIn R) (hT : ∀ r ∈ R, r.tests.length ≤ 1048576) : CallsF Try.prog 33 [.sl ((R.map TrS.mk).map av), av (⟨t⟩ : TsS)] (.sl (((noR R t).map TrS.mk).map av)) := by
  refine fun_spec_l17No rfl (av2 (lav_clean (R.map TrS.mk)) (AVal.clean (⟨t⟩ : TsS))) (lav_clean _) ?_
  have hRm : (R.map TrS.mk).length = R.length := List.length_map _
  simp +contextual -dsimp (maxSteps := 2000000) only [↓SD, SU, SB, Nat.reduceAdd, Nat.reduceBEq, Nat.reduceEqDiff, Nat.reduceLeDiff, Nat.reduceLT, Nat.reduceSub, ↓reduceIte, zA, zI, zN, reduceCtorEq, Int.reduceToNat, zE, Int.reduceEq, Int.reduceLT, Int.reduceLE, Int.reduceNeg, Int.reduceAdd, Int.reduceSub, ir_spec_l17No, rs_spec_l17No, av_TsS]
  intro u12
  refine aLoop_of (X := YeO) (fun q => ⟨[(3, .obj [.sl (t.path.map av), .int .i64 t.kind, .int .i64 t.n, .str t.s, .bool t.has]), (5, .row 11 q.a (noR (R.take q.k) t).length), (12, .sl ((R.map TrS.mk).map av)), (13, .int .i64 R.length), (14, .int .i64 q.k)], [(11, ⟨q.a, false, 48, 2, ((noR (R.take q.k) t).map TrS.mk).map av⟩)]⟩) (fun q => q.k ≤ R.length) (fun q => R.length - q.k) ⟨0, u12⟩ (Nat.zero_le _) (by simp +contextual -dsimp only [↓SD, SU, SB, Nat.reduceAdd, Nat.reduceBEq, Nat.reduceEqDiff, Nat.reduceLeDiff, Nat.reduceLT, Nat.reduceSub, ↓reduceIte, zA, zI, zN, reduceCtorEq, Int.reduceToNat, zE, List.take_zero, noR, List.filter_nil, List.length_map]) (by simp +contextual -dsimp only [↓SD, SU, SB, Nat.reduceAdd, Nat.reduceBEq, Nat.reduceEqDiff, Nat.reduceLeDiff, Nat.reduceLT, Nat.reduceSub, ↓reduceIte, zA, zI, zN, reduceCtorEq, Int.reduceToNat, zE, List.take_zero, noR, List.filter_nil, List.map_nil]) ?_
  rintro ⟨k, a⟩ hk
  dsimp only at hk ⊢
  by_cases hlk : k < R.length
  · have e2 : ((R.map TrS.mk).map (av : TrS → AV)).getD k .top = av (⟨R[k]⟩ : TrS) := by rw [getD_map av (R.map TrS.mk) k .top (by omega), List.getElem_map]
    have hrk : R[k] ∈ R := List.getElem_mem hlk
    have ys := noR_snoc (R.take k) R[k] t
    rw [← List.take_succ_eq_append_getElem hlk] at ys
    have yl := noR_len (R.take k) t
    have hkl : (R.take k).length = k := by simp; omega
    rw [hkl] at yl
    have hinr := hin R[k] hrk
    have hTr := hT R[k] hrk
    generalize R[k] = r at *
    generalize noR (R.take k) t = Y at *
    have hra : av (⟨r⟩ : TrS) = .agg [.sl ((r.tests.map TsS.mk).map av), .int .i64 r.arm] := av_TrS _
    have hYl : ((Y.map TrS.mk).map (av : TrS → AV)).length = Y.length := by simp
    have hYt : List.take Y.length ((Y.map TrS.mk).map (av : TrS → AV)) = (Y.map TrS.mk).map av := List.take_of_length_le (by simp)
    simp +contextual -dsimp (maxSteps := 2000000) only [↓SD, SU, SB, Nat.reduceAdd, Nat.reduceBEq, Nat.reduceEqDiff, Nat.reduceLeDiff, Nat.reduceLT, Nat.reduceSub, ↓reduceIte, zA, zI, zN, reduceCtorEq, Int.reduceToNat, zE, Int.reduceEq, Int.reduceLT, Int.reduceLE, Int.reduceNeg, Int.reduceAdd, Int.reduceSub, hlk, hRm, map_len, e2, hra]
    intro u7
    refine aLoop_of (X := NoJ) (fun q => ⟨[(3, .obj [.sl (t.path.map av), .int .i64 t.kind, .int .i64 t.n, .str t.s, .bool t.has]), (5, .row 11 a Y.length), (7, .ptr 7 u7 0 0), (8, .bool (!(r.tests.take q.j).any (sameT t))), (12, .sl ((R.map TrS.mk).map av)), (13, .int .i64 R.length), (14, .int .i64 k), (19, .sl ((r.tests.map TsS.mk).map av)), (20, .int .i64 r.tests.length), (21, .int .i64 q.j)], [(11, ⟨a, false, 48, 2, (Y.map TrS.mk).map av⟩), (7, ⟨u7, false, 48, 2, [.agg [.sl ((r.tests.map TsS.mk).map av), .int .i64 r.arm]]⟩)]⟩) (fun q => q.j ≤ r.tests.length) (fun q => r.tests.length - q.j) ⟨0⟩ (Nat.zero_le _) (by simp +contextual -dsimp only [↓SD, SU, SB, Nat.reduceAdd, Nat.reduceBEq, Nat.reduceEqDiff, Nat.reduceLeDiff, Nat.reduceLT, Nat.reduceSub, ↓reduceIte, zA, zI, zN, reduceCtorEq, Int.reduceToNat, zE, List.take_zero, List.any_nil, List.length_map]) (by simp +contextual -dsimp only [↓SD, SU, SB, Nat.reduceAdd, Nat.reduceBEq, Nat.reduceEqDiff, Nat.reduceLeDiff, Nat.reduceLT, Nat.reduceSub, ↓reduceIte, zA, zI, zN, reduceCtorEq, Int.reduceToNat, zE]) ?_
    rintro ⟨j⟩ hj
    dsimp only at hj ⊢
    have hrm : (r.tests.map TsS.mk).length = r.tests.length := List.length_map _
    by_cases hlj : j < r.tests.length
    · have e3 : ((r.tests.map TsS.mk).map (av : TsS → AV)).getD j .top = av (⟨r.tests[j]⟩ : TsS) := by rw [getD_map av (r.tests.map TsS.mk) j .top (by omega), List.getElem_map]
      have an := any_take_step (p := sameT t) hlj
      have hxp := hinr _ (List.getElem_mem hlj)
      have C1 : CallsF Try.prog 54 [.sl (r.tests[j].path.map av), .sl (t.path.map av)] (.bool (pathT r.tests[j] t)) := l17Path_ok r.tests[j].path t.path (by omega)
      have C2 := l17Begin_ok r.tests[j] t
      generalize hx : r.tests[j] = x at *
      generalize (r.tests.take j).any (sameT t) = o at *
      have hct : sameT t x = (pathT x t && beginT x t) := rfl
      have hxa : av (⟨x⟩ : TsS) = _ := av_TsS _
      dsimp only at hxa
      rw [hct] at an
      rw [hxa, av_TsS] at C2
      dsimp only at C2
      cases hp : pathT x t <;> cases hb : beginT x t <;> cases o
      all_goals
        rw [hp] at C1 an
        rw [hb] at C2 an
        simp only [Bool.and_true, Bool.and_false, Bool.false_and, Bool.true_and, Bool.not_true, Bool.not_false, Bool.or_true, Bool.or_false, Bool.true_or, Bool.false_or] at an
        simp +contextual -dsimp (maxSteps := 2000000) only [↓SD, SU, SB, Nat.reduceAdd, Nat.reduceBEq, Nat.reduceEqDiff, Nat.reduceLeDiff, Nat.reduceLT, Nat.reduceSub, ↓reduceIte, zA, zI, zN, reduceCtorEq, Int.reduceToNat, zE, Int.reduceEq, Int.reduceLT, Int.reduceLE, Int.reduceNeg, Int.reduceAdd, Int.reduceSub, hlj, hrm, map_len, e3, hxa]
        intro u11
        refine aCallK_of _ C1 ?_
        simp +contextual -dsimp (maxSteps := 2000000) only [↓SD, SU, SB, Nat.reduceAdd, Nat.reduceBEq, Nat.reduceEqDiff, Nat.reduceLeDiff, Nat.reduceLT, Nat.reduceSub, ↓reduceIte, zA, zI, zN, reduceCtorEq, Int.reduceToNat, zE, Int.reduceEq, Int.reduceLT, Int.reduceLE, Int.reduceNeg, Int.reduceAdd, Int.reduceSub]
        first
          | exact ⟨by omega, Goes.le ⟨⟨j + 1⟩, ⟨hlj, (by first | omega | (simp only; omega))⟩, rfl⟩ (by simp +contextual -dsimp only [↓SD, SU, SB, Nat.reduceAdd, Nat.reduceBEq, Nat.reduceEqDiff, Nat.reduceLeDiff, Nat.reduceLT, Nat.reduceSub, ↓reduceIte, zA, zI, zN, reduceCtorEq, Int.reduceToNat, zE, Int.natCast_add, an]) (by simp +contextual -dsimp only [↓SD, SU, SB, Nat.reduceAdd, Nat.reduceBEq, Nat.reduceEqDiff, Nat.reduceLeDiff, Nat.reduceLT, Nat.reduceSub, ↓reduceIte, zA, zI, zN, reduceCtorEq, Int.reduceToNat, zE])⟩
          | (refine aCallK_of _ C2 ?_
             simp +contextual -dsimp (maxSteps := 2000000) only [↓SD, SU, SB, Nat.reduceAdd, Nat.reduceBEq, Nat.reduceEqDiff, Nat.reduceLeDiff, Nat.reduceLT, Nat.reduceSub, ↓reduceIte, zA, zI, zN, reduceCtorEq, Int.reduceToNat, zE, Int.reduceEq, Int.reduceLT, Int.reduceLE, Int.reduceNeg, Int.reduceAdd, Int.reduceSub]
             exact ⟨by omega, Goes.le ⟨⟨j + 1⟩, ⟨hlj, (by first | omega | (simp only; omega))⟩, rfl⟩ (by simp +contextual -dsimp only [↓SD, SU, SB, Nat.reduceAdd, Nat.reduceBEq, Nat.reduceEqDiff, Nat.reduceLeDiff, Nat.reduceLT, Nat.reduceSub, ↓reduceIte, zA, zI, zN, reduceCtorEq, Int.reduceToNat, zE, Int.natCast_add, an]) (by simp +contextual -dsimp only [↓SD, SU, SB, Nat.reduceAdd, Nat.reduceBEq, Nat.reduceEqDiff, Nat.reduceLeDiff, Nat.reduceLT, Nat.reduceSub, ↓reduceIte, zA, zI, zN, reduceCtorEq, Int.reduceToNat, zE])⟩)
    · obtain rfl : j = r.tests.length := by omega
      rw [List.take_length]
      have hcm : ∀ hp, ((r.tests.map TsS.mk).map (av : TsS → AV)).map (AV.pur hp) = (r.tests.map TsS.mk).map av := fun hp => map_nop _ hp
      cases hcl : r.tests.any (sameT t)
      all_goals
        rw [hcl] at ys
        simp only [Bool.false_eq_true, if_true, if_false, List.append_nil] at ys
        simp +contextual -dsimp (maxSteps := 2000000) only [↓SD, SU, SB, Nat.reduceAdd, Nat.reduceBEq, Nat.reduceEqDiff, Nat.reduceLeDiff, Nat.reduceLT, Nat.reduceSub, ↓reduceIte, zA, zI, zN, reduceCtorEq, Int.reduceToNat, zE, Int.reduceEq, Int.reduceLT, Int.reduceLE, Int.reduceNeg, Int.reduceAdd, Int.reduceSub, Nat.lt_irrefl, hYl, hYt]
      · exact ⟨⟨by omega, by unfold maxLen; omega⟩, fun a' => ⟨by omega, Goes.le ⟨⟨k + 1, a'⟩, ⟨hlk, (by first | omega | (simp only; omega))⟩, rfl⟩ (by simp +contextual -dsimp only [↓SD, SU, SB, Nat.reduceAdd, Nat.reduceBEq, Nat.reduceEqDiff, Nat.reduceLeDiff, Nat.reduceLT, Nat.reduceSub, ↓reduceIte, zA, zI, zN, reduceCtorEq, Int.reduceToNat, zE, Int.natCast_add, ys, List.length_append]) (by simp +contextual -dsimp only [↓SD, SU, SB, Nat.reduceAdd, Nat.reduceBEq, Nat.reduceEqDiff, Nat.reduceLeDiff, Nat.reduceLT, Nat.reduceSub, ↓reduceIte, zA, zI, zN, reduceCtorEq, Int.reduceToNat, zE, ys, List.map_append, av_TrS])⟩⟩
      · exact ⟨by omega, Goes.le ⟨⟨k + 1, a⟩, ⟨hlk, (by first | omega | (simp only; omega))⟩, rfl⟩ (by simp +contextual -dsimp only [↓SD, SU, SB, Nat.reduceAdd, Nat.reduceBEq, Nat.reduceEqDiff, Nat.reduceLeDiff, Nat.reduceLT, Nat.reduceSub, ↓reduceIte, zA, zI, zN, reduceCtorEq, Int.reduceToNat, zE, Int.natCast_add, ys]) (by simp +contextual -dsimp only [↓SD, SU, SB, Nat.reduceAdd, Nat.reduceBEq, Nat.reduceEqDiff, Nat.reduceLeDiff, Nat.reduceLT, Nat.reduceSub, ↓reduceIte, zA, zI, zN, reduceCtorEq, Int.reduceToNat, zE, ys])⟩
  · obtain rfl : k = R.length := by omega
    rw [List.take_length]
    obtain ⟨Z, hZ⟩ : ∃ Z, Z = noR R t := ⟨_, rfl⟩
    rw [← hZ]
    have hZm : ∀ hp, ((Z.map TrS.mk).map (av : TrS → AV)).map (AV.pur hp) = (Z.map TrS.mk).map av := fun hp => map_nop _ hp
    have hZl : ((Z.map TrS.mk).map (av : TrS → AV)).length = Z.length := by simp
    have hZt : List.take Z.length ((Z.map TrS.mk).map (av : TrS → AV)) = (Z.map TrS.mk).map av := List.take_of_length_le (by simp)
    simp +contextual -dsimp (maxSteps := 2000000) only [↓SD, SU, SB, Nat.reduceAdd, Nat.reduceBEq, Nat.reduceEqDiff, Nat.reduceLeDiff, Nat.reduceLT, Nat.reduceSub, ↓reduceIte, zA, zI, zN, reduceCtorEq, Int.reduceToNat, zE, Int.reduceEq, Int.reduceLT, Int.reduceLE, Int.reduceNeg, Int.reduceAdd, Int.reduceSub, Nat.lt_irrefl, hZm, hZl, hZt, Nat.le_refl]
end Go.Proofs.Ytohalepkikjinaa


set_option linter.unusedVariables false
set_option linter.unusedSimpArgs false
set_option maxRecDepth 100000
namespace Go.Proofs.Ytohalepkikjinaa
open Go.RowKit Go.Proofs.Ytohalepkikjinaa.Av Go.Proofs.Ytohalepkikjinaa.Ml
open Go.Proofs.Ytohalepkikjinaa.Av.AVal (av)

theorem av3 {a b c : AV} (ha : AvPure a) (hb : AvPure b) (hc : AvPure c) : ∀ x ∈ [a, b, c], AvPure x := fun x hx => by
  rcases List.mem_cons.1 hx with rfl | hx
  · exact ha
  · exact av2 hb hc x hx
structure SeS where
  j : Nat
  u : Nat
theorem one_kid {Q : List PNode} {n : PNode} (h : pnodeB Q n = true) (h4 : n.kind = 4) : decide ((n.kids.length : Int) = 1) = decide (0 < n.kids.length) := by
  unfold pnodeB at h
  rw [if_neg (by omega), if_neg (by omega), if_neg (by omega), if_pos h4] at h
  simp only [Bool.and_eq_true] at h
  have h2 := h.2
  unfold shapeB at h2
  have h3 : n.kids.length ≤ 1 := by
    split at h2
    · have := of_decide_eq_true h2; omega
    · split at h2
      · simp only [Bool.and_eq_true, decide_eq_true_eq] at h2; omega
      · simp only [Bool.and_eq_true, decide_eq_true_eq] at h2; omega
  rw [decide_eq_decide]
  omega
set_option maxHeartbeats 4000000 in
theorem l17Tests_ok (Q : List PNode) (hQ : Bulk.bulk Q ≤ 1048576) (hq : patB Q = true) : ∀ (f i : Nat) (p : List Int), i < Q.length → Q.length - i ≤ f → p.length + pxN (ptree Q i) ≤ 1000000 →
    CallsF Try.prog 15 [.agg [.sl (Q.map av)], .int .i64 i, .sl (p.map av)] (.sl (((testsX (ptree Q i) p).map TsS.mk).map av)) := by
  obtain ⟨pl, pt, pn⟩ := patB_at hq
  have hpk : ∀ i, i < Q.length → ∀ k ∈ pkids Q i, (i : Int) < k ∧ k < Q.length := fun i hi k hk => tree_in pt hi hk
  intro f
  induction f with
  | zero => intro i p hi hf; omega
  | succ f ih =>
    intro i p hi hf hb
    refine fun_spec_l17Tests rfl (av3 (AvPure.agg (by simp; exact lav_clean Q)) (pint _) (lav_clean p)) (lav_clean _) ?_
    have e1 := getD_map av Q i .top hi
    have hn : pnodeB Q Q[i] = true := by
      have := pn i hi
      unfold patIB at this
      rw [getD_at hi] at this
      simp only [Bool.and_eq_true] at this
      exact this.1
    have tq := ptree_mk pt hi
    rw [show phd Q i = ⟨Q[i].kind, Q[i].n, Q[i].s⟩ by rw [phd, getD_at hi], show pkids Q i = Q[i].kids by rw [pkids, getD_at hi]] at tq
    have hks := hpk i hi
    rw [pkids, getD_at hi] at hks
    have sn := (pnode_small hQ i hi).1
    rw [tq] at hb ⊢
    generalize Q[i] = n at *
    by_cases hw : n.kind = 1 ∨ n.kind = 2
    · have ht : testsX (.mk ⟨n.kind, n.n, n.s⟩ (n.kids.map fun k => ptree Q k.toNat)) p = [] := by rw [testsX, if_pos hw]
      rw [ht]
      rcases hw with hw | hw
      · simp +contextual -dsimp (maxSteps := 2000000) only [↓SD, SU, SB, Nat.reduceAdd, Nat.reduceBEq, Nat.reduceEqDiff, Nat.reduceLeDiff, Nat.reduceLT, Nat.reduceSub, ↓reduceIte, zA, zI, zN, reduceCtorEq, Int.reduceToNat, zE, Int.reduceEq, Int.reduceLT, Int.reduceLE, Int.reduceNeg, Int.reduceAdd, Int.reduceSub, ir_spec_l17Tests, rs_spec_l17Tests, map_len, hi, e1, av_PNode, hw, List.map_nil, List.take_zero]
      · simp +contextual -dsimp (maxSteps := 2000000) only [↓SD, SU, SB, Nat.reduceAdd, Nat.reduceBEq, Nat.reduceEqDiff, Nat.reduceLeDiff, Nat.reduceLT, Nat.reduceSub, ↓reduceIte, zA, zI, zN, reduceCtorEq, Int.reduceToNat, zE, Int.reduceEq, Int.reduceLT, Int.reduceLE, Int.reduceNeg, Int.reduceAdd, Int.reduceSub, ir_spec_l17Tests, rs_spec_l17Tests, map_len, hi, e1, av_PNode, hw, List.map_nil, List.take_zero]
    rw [testsX, if_neg hw]
    dsimp only
    rw [pxN] at hb
    have hw1 : ¬ n.kind = 1 := fun h => hw (.inl h)
    have hw2 : ¬ n.kind = 2 := fun h => hw (.inr h)
    obtain ⟨K, hK⟩ : ∃ K, K = n.kids.map fun k => ptree Q k.toNat := ⟨_, rfl⟩
    rw [← hK] at hb ⊢
    have hKl : K.length = n.kids.length := by rw [hK, List.length_map]
    obtain ⟨hs, hhs⟩ : ∃ hs, hs = (decide (n.kind = 4) && decide (0 < K.length)) := ⟨_, rfl⟩
    rw [← hhs]
    obtain ⟨t0, ht0⟩ : ∃ t0 : Tst, t0 = ⟨p, n.kind, n.n, n.s, hs⟩ := ⟨_, rfl⟩
    have hav : av (⟨t0⟩ : TsS) = .agg [.sl (p.map av), .int .i64 n.kind, .int .i64 n.n, .str n.s, .bool hs] := by rw [ht0, av_TsS]
    rw [← ht0]
    have hlen := fun j => testsXs_len (ks := K.take j) (fun k _ p => testsX_len k p) p 0
    have hpt : List.take p.length (p.map (av : Int → AV)) = p.map av := List.take_of_length_le (by simp)
    have hpm : ∀ hp, (p.map (av : Int → AV)).map (AV.pur hp) = p.map av := fun hp => map_nop _ hp
    have hpc : ∀ x ∈ p.map (av : Int → AV), x.cells.length = 1 := fun x hx => by obtain ⟨y, _, rfl⟩ := List.mem_map.1 hx; rfl
    have hcase : (n.kind = 4 ∧ decide ((n.kids.length : Int) = 1) = hs) ∨ (¬ n.kind = 4 ∧ hs = false) := by
      by_cases h4 : n.kind = 4
      · exact .inl ⟨h4, by rw [one_kid hn h4, hhs, hKl]; simp [h4]⟩
      · exact .inr ⟨h4, by rw [hhs]; simp [h4]⟩
    rcases hcase with ⟨h4, h1⟩ | ⟨h4, h1⟩
    all_goals
      simp +contextual -dsimp (maxSteps := 2000000) only [↓SD, SU, SB, Nat.reduceAdd, Nat.reduceBEq, Nat.reduceEqDiff, Nat.reduceLeDiff, Nat.reduceLT, Nat.reduceSub, ↓reduceIte, zA, zI, zN, reduceCtorEq, Int.reduceToNat, zE, Int.reduceEq, Int.reduceLT, Int.reduceLE, Int.reduceNeg, Int.reduceAdd, Int.reduceSub, ir_spec_l17Tests, rs_spec_l17Tests, map_len, hi, e1, av_PNode, hw1, hw2]
      intro u7 u16
      refine ghost_of (Goes.frz 7 (Goes.pur 7 (Goes.here ?_)))
      simp +contextual -dsimp (maxSteps := 2000000) only [↓SD, SU, SB, Nat.reduceAdd, Nat.reduceBEq, Nat.reduceEqDiff, Nat.reduceLeDiff, Nat.reduceLT, Nat.reduceSub, ↓reduceIte, zA, zI, zN, reduceCtorEq, Int.reduceToNat, zE, Int.reduceEq, Int.reduceLT, Int.reduceLE, Int.reduceNeg, Int.reduceAdd, Int.reduceSub, map_len, map_nop, h4, hpt, hpm, h1]
      intro v
      refine ⟨⟨hpc, by omega, by unfold maxLen; omega⟩, fun v1 => ⟨⟨by omega, by unfold maxLen; omega⟩, fun v2 => ?_⟩⟩
      refine aLoop_of (X := SeS) (fun q => ⟨[(2, .sl (p.map av)), (3, .obj [.sl (Q.map av)]), (8, .row 16 q.u (1 + (testsXs (K.take q.j) p 0).length)), (49, .sl (n.kids.map av)), (50, .int .i64 n.kids.length), (51, .int .i64 q.j)], [(16, ⟨q.u, false, 73, 5, av (⟨t0⟩ : TsS) :: ((testsXs (K.take q.j) p 0).map TsS.mk).map av⟩)]⟩) (fun q => q.j ≤ n.kids.length) (fun q => n.kids.length - q.j) ⟨0, v2⟩ (Nat.zero_le _) (by simp +contextual -dsimp only [↓SD, SU, SB, Nat.reduceAdd, Nat.reduceBEq, Nat.reduceEqDiff, Nat.reduceLeDiff, Nat.reduceLT, Nat.reduceSub, ↓reduceIte, zA, zI, zN, reduceCtorEq, Int.reduceToNat, zE, List.take_zero, testsXs]) (by simp +contextual -dsimp only [↓SD, SU, SB, Nat.reduceAdd, Nat.reduceBEq, Nat.reduceEqDiff, Nat.reduceLeDiff, Nat.reduceLT, Nat.reduceSub, ↓reduceIte, zA, zI, zN, reduceCtorEq, Int.reduceToNat, zE, List.take_zero, testsXs, hav, h1, h4, List.map_nil]) ?_
      clear h1 h4
      rintro ⟨j, u⟩ hj
      dsimp only at hj ⊢
      by_cases hlt : j < n.kids.length
      · have e2 := getD_map av n.kids j .top hlt
        have hkj := hks _ (List.getElem_mem hlt)
        obtain ⟨m, hm⟩ : ∃ m : Nat, n.kids[j] = m := ⟨n.kids[j].toNat, by omega⟩
        have hKj : K[j]'(by omega) = ptree Q m := by simp [hK, hm]
        have b2 := pxNs_take K j (by omega)
        rw [hKj] at b2
        have hst : testsXs (K.take (j + 1)) p 0 = testsXs (K.take j) p 0 ++ testsX (ptree Q m) (p ++ [(j : Int)]) := by
          have hjl : (K.take j).length = j := by simp; omega
          rw [List.take_succ_eq_append_getElem (by omega), testsXs_snoc, hjl, Nat.zero_add, hKj]
        have l1 := hlen j
        have l2 := testsX_len (ptree Q m) (p ++ [(j : Int)])
        rw [hm] at e2 hkj
        rw [av_int] at e2
        have hpl : (p ++ [(j : Int)]).length = p.length + 1 := by simp
        have CT := ih m (p ++ [(j : Int)]) (by omega) (by omega) (by omega)
        generalize testsX (ptree Q m) (p ++ [(j : Int)]) = Y at *
        generalize testsXs (K.take j) p 0 = X at *
        have hXl : (av (⟨t0⟩ : TsS) :: (X.map TsS.mk).map (av : TsS → AV)).length = 1 + X.length := by simp; omega
        have hXt : List.take (1 + X.length) (av (⟨t0⟩ : TsS) :: (X.map TsS.mk).map av) = av (⟨t0⟩ : TsS) :: (X.map TsS.mk).map av := List.take_of_length_le (by omega)
        have hXc : ∀ Z : List AV, (av (⟨t0⟩ : TsS) :: (X.map TsS.mk).map (av : TsS → AV)) ++ Z = av (⟨t0⟩ : TsS) :: ((X.map TsS.mk).map av ++ Z) := fun _ => rfl
        have hYm : ∀ hp, ((Y.map TsS.mk).map (av : TsS → AV)).map (AV.pur hp) = (Y.map TsS.mk).map av := fun hp => map_nop _ hp
        have hYl : ((Y.map TsS.mk).map (av : TsS → AV)).length = Y.length := by simp
        have hYc : ∀ x ∈ (Y.map TsS.mk).map (av : TsS → AV), x.cells.length = 5 := fun y hy => by obtain ⟨x, _, rfl⟩ := List.mem_map.1 hy; exact AVal.len x
        have hpk2 : (p ++ [(j : Int)]).map (av : Int → AV) = p.map av ++ [AV.int .i64 j] := by rw [List.map_append]; rfl
        rw [hpk2] at CT
        have hp1 : ∀ hp, (p.map (av : Int → AV) ++ [AV.int .i64 j]).map (AV.pur hp) = p.map av ++ [AV.int .i64 j] := fun hp => by rw [List.map_append, hpm]; rfl
        have hp2 : (p.map (av : Int → AV) ++ [AV.int .i64 j]).length = p.length + 1 := by simp
        have hp3 : List.take (p.length + 1) (p.map (av : Int → AV) ++ [AV.int .i64 j]) = p.map av ++ [AV.int .i64 j] := List.take_of_length_le (by omega)
        obtain ⟨W, hW⟩ : ∃ W, W = av (⟨t0⟩ : TsS) :: (X.map TsS.mk).map (av : TsS → AV) := ⟨_, rfl⟩
        rw [← hW] at hXl hXt hXc ⊢
        simp +contextual -dsimp (maxSteps := 2000000) only [↓SD, SU, SB, Nat.reduceAdd, Nat.reduceBEq, Nat.reduceEqDiff, Nat.reduceLeDiff, Nat.reduceLT, Nat.reduceSub, ↓reduceIte, zA, zI, zN, reduceCtorEq, Int.reduceToNat, zE, Int.reduceEq, Int.reduceLT, Int.reduceLE, Int.reduceNeg, Int.reduceAdd, Int.reduceSub, hlt, e2, map_len, hpt, hpm, hp1, hp2, hp3]
        intro v3
        refine ⟨⟨hpc, by omega, by unfold maxLen; omega⟩, fun v4 => ⟨⟨by omega, by unfold maxLen; omega⟩, fun v5 => ?_⟩⟩
        refine aCallK_of _ CT ?_
        simp +contextual -dsimp (maxSteps := 2000000) only [↓SD, SU, SB, Nat.reduceAdd, Nat.reduceBEq, Nat.reduceEqDiff, Nat.reduceLeDiff, Nat.reduceLT, Nat.reduceSub, ↓reduceIte, zA, zI, zN, reduceCtorEq, Int.reduceToNat, zE, Int.reduceEq, Int.reduceLT, Int.reduceLE, Int.reduceNeg, Int.reduceAdd, Int.reduceSub, hXl, hXt, hYm, hYl]
        refine ⟨⟨hYc, by omega, by unfold maxLen; omega⟩, fun w => ⟨by omega, Goes.le ⟨⟨j + 1, w⟩, ⟨hlt, (by first | omega | (simp only; omega))⟩, rfl⟩ (by simp +contextual -dsimp only [↓SD, SU, SB, Nat.reduceAdd, Nat.reduceBEq, Nat.reduceEqDiff, Nat.reduceLeDiff, Nat.reduceLT, Nat.reduceSub, ↓reduceIte, zA, zI, zN, reduceCtorEq, Int.reduceToNat, zE, Int.natCast_add, hst, List.length_append, List.length_map, Nat.add_assoc]) (by simp +contextual -dsimp only [↓SD, SU, SB, Nat.reduceAdd, Nat.reduceBEq, Nat.reduceEqDiff, Nat.reduceLeDiff, Nat.reduceLT, Nat.reduceSub, ↓reduceIte, zA, zI, zN, reduceCtorEq, Int.reduceToNat, zE, hst, List.map_append, hXc])⟩⟩
      · obtain rfl : j = n.kids.length := by omega
        rw [List.take_of_length_le (by omega)]
        have hfin : ((t0 :: testsXs K p 0).map TsS.mk).map (av : TsS → AV) = av (⟨t0⟩ : TsS) :: ((testsXs K p 0).map TsS.mk).map av := rfl
        rw [← hfin]
        have hZl : (((t0 :: testsXs K p 0).map TsS.mk).map (av : TsS → AV)).length = 1 + (testsXs K p 0).length := by simp; omega
        generalize t0 :: testsXs K p 0 = Z at *
        have hZm : ∀ hp, ((Z.map TsS.mk).map (av : TsS → AV)).map (AV.pur hp) = (Z.map TsS.mk).map av := fun hp => map_nop _ hp
        have hZt : List.take (1 + (testsXs K p 0).length) ((Z.map TsS.mk).map (av : TsS → AV)) = (Z.map TsS.mk).map av := List.take_of_length_le (by omega)
        simp +contextual -dsimp (maxSteps := 2000000) only [↓SD, SU, SB, Nat.reduceAdd, Nat.reduceBEq, Nat.reduceEqDiff, Nat.reduceLeDiff, Nat.reduceLT, Nat.reduceSub, ↓reduceIte, zA, zI, zN, reduceCtorEq, Int.reduceToNat, zE, Int.reduceEq, Int.reduceLT, Int.reduceLE, Int.reduceNeg, Int.reduceAdd, Int.reduceSub, Nat.lt_irrefl, hZm, hZl, hZt, Nat.le_refl]
end Go.Proofs.Ytohalepkikjinaa


set_option linter.unusedVariables false
set_option linter.unusedSimpArgs false
set_option maxRecDepth 100000
namespace Go.Proofs.Ytohalepkikjinaa
open Go.RowKit Go.Proofs.Ytohalepkikjinaa.Av Go.Proofs.Ytohalepkikjinaa.Ml
open Go.Proofs.Ytohalepkikjinaa.Av.AVal (av)

/-- an element of an own row is told by less -/
theorem Goes.weakB {s : St} {T : St → Prop} (k i : Nat) (y : AV) {b : Box} (hb : hget s.hp k = some b)
    (hy : ∀ e, b.es[i]? = some e → (y.cells.length = e.cells.length ∧ ∀ x ∈ y.cells, x.one = true) ∧ ∀ (S : Nat → Prop) (w : World) (μ : Mu) (j : Nat) (x' : AV), y.cells[j]? = some x' → ∃ x, e.cells[j]? = some x ∧ ∀ v, VR S w μ v x → VR S w μ v x')
    (h : Goes ⟨s.fr, (k, ⟨b.ver, b.frz, b.ty, b.esz, b.es.set i y⟩) :: s.hp⟩ T) : Goes s T := by
  refine ⟨?_⟩
  rintro E nt a w ⟨hd, hn, S, μ, hw, hf⟩
  have hget' : ∀ j bj, hget ((k, (⟨b.ver, b.frz, b.ty, b.esz, b.es.set i y⟩ : Box)) :: s.hp) j = some bj → ∃ bo, hget s.hp j = some bo ∧ bo.ver = bj.ver ∧ bo.frz = bj.frz := fun j bj hj => by
    simp only [hget] at hj
    split at hj
    · rename_i e; subst e; cases hj; exact ⟨b, hb, rfl, rfl⟩
    · exact ⟨bj, hj, rfl, rfl⟩
  refine h.run E nt a w ⟨hd, hn, S, μ, ⟨hw.ext, hw.lt, hw.base, hw.new, hw.fresh, fun j bj hj => ?_, ?_, hw.le⟩, hf⟩
  · simp only [hget] at hj
    split at hj
    · rename_i e; subst e; cases hj
      obtain ⟨B0, h0, hz0, hh⟩ := hw.box k b hb
      refine ⟨B0, h0, hz0, ?_⟩
      cases hbl : B0.blk with
      | none => rw [hbl] at hh; simp only at hh ⊢; rw [hh, List.set_nil]
      | some g =>
        rw [hbl] at hh
        obtain ⟨a1, a2, a3, cu, a4, a5, a6, a7, a8⟩ := hh
        refine ⟨a1, a2, a3, cu, a4, a5, a6, by simpa using a7, fun e he => ?_, fun q j e x p hx => ?_⟩
        · by_cases hi : i < b.es.length
          · rcases List.mem_or_eq_of_mem_set he with he | rfl
            · exact a8.1 e he
            · have h1 := hy _ (List.getElem?_eq_getElem hi)
              exact ⟨h1.1.1.trans (a8.1 _ (List.getElem_mem hi)).1, h1.1.2⟩
          · rw [List.set_eq_of_length_le (by omega)] at he
            exact a8.1 e he
        · rw [List.getElem?_set] at p
          split at p
          · rename_i hq
            subst hq
            split at p
            · rename_i hlt
              cases p
              obtain ⟨x0, hx0, hv⟩ := (hy _ (List.getElem?_eq_getElem hlt)).2 S w μ j x hx
              obtain ⟨v, hv1, hv2⟩ := a8.2 i j _ x0 (List.getElem?_eq_getElem hlt) hx0
              exact ⟨v, hv1, hv v hv2⟩
            · cases p
          · exact a8.2 q j e x p hx
    · exact hw.box j bj hj
  · intro j j' bj bj' Bj Bj' g hj hj' hne hf1 hf2 hBj hBj' hbl
    obtain ⟨bo, g1, g2, g3⟩ := hget' j bj hj
    obtain ⟨bo', g1', g2', g3'⟩ := hget' j' bj' hj'
    rw [← g2] at hBj; rw [← g2'] at hBj'
    exact hw.apart j j' bo bo' Bj Bj' g g1 g1' hne (g3.trans hf1) (g3'.trans hf2) hBj hBj' hbl
def growN (G : List AV) (x : AV) (hp : Hp) : Prop := (G = [] ∧ x = .nils ∧ hp = []) ∨ ∃ v, x = .row 90 v G.length ∧ hp = [(90, ⟨v, false, 75, 8, G⟩)]
theorem leafN (G : List AV) (arm : Int) (v : Nat) (s : St) (h4 : fget s.fr 4 = .row 90 v (G.length + 1)) (hh : hget s.hp 90 = some ⟨v, false, 75, 8, G ++ [.agg [.int .i64 arm, .nils, .int .i64 0, .int .i64 0, .str (bs []), .bool false, .int .i64 0, .int .i64 0]]⟩) :
    Goes s (PostH [.t 4] (growN (G ++ [(⟨arm, [], 0, 0, bs [], false, 0, 0⟩ : Ask)].map av))) := by
  have hs : (G ++ [AV.agg [.int .i64 arm, .nils, .int .i64 0, .int .i64 0, .str (bs []), .bool false, .int .i64 0, .int .i64 0]]).set G.length (av (⟨arm, [], 0, 0, bs [], false, 0, 0⟩ : Ask)) = G ++ [(⟨arm, [], 0, 0, bs [], false, 0, 0⟩ : Ask)].map av := by simp
  refine Goes.weakB 90 G.length (av (⟨arm, [], 0, 0, bs [], false, 0, 0⟩ : Ask)) hh (fun e he => ?_) ?_
  · have he' : e = .agg [.int .i64 arm, .nils, .int .i64 0, .int .i64 0, .str (bs []), .bool false, .int .i64 0, .int .i64 0] := by simpa using he.symm
    subst he'
    refine ⟨⟨rfl, fun x hx => AVal.cone _ x hx⟩, fun S w μ j x' hx => ?_⟩
    rcases j with _ | _ | j
    · exact ⟨_, rfl, fun v hv => by cases hx; exact hv⟩
    · exact ⟨.nils, rfl, fun v hv => by cases hx; cases hv; exact .sl0 none 0 (Nat.zero_le _)⟩
    · exact ⟨x', by rw [← hx]; rfl, fun v hv => hv⟩
  · rw [hs]
    have hl : (G ++ [(⟨arm, [], 0, 0, bs [], false, 0, 0⟩ : Ask)].map av).length = G.length + 1 := by simp
    generalize G ++ [(⟨arm, [], 0, 0, bs [], false, 0, 0⟩ : Ask)].map av = G2 at *
    refine Goes.post [(90, ⟨v, false, 75, 8, G2⟩)] ?_
    simp +contextual -dsimp (maxSteps := 2000000) only [↓SD, SU, SB, Nat.reduceAdd, Nat.reduceBEq, Nat.reduceEqDiff, Nat.reduceLeDiff, Nat.reduceLT, Nat.reduceSub, ↓reduceIte, zA, zI, zN, reduceCtorEq, Int.reduceToNat, zE, h4]
    exact .inr ⟨v, by rw [if_neg (fun h => h.1), hl], rfl⟩
theorem growN_app {G1 G2 : List AV} {x : AV} {hp : Hp} (h : growN G1 x hp) (e : G1 = G2) : growN G2 x hp := e ▸ h
set_option maxHeartbeats 4000000 in
theorem l17Lay_ok : ∀ (f : Nat) (R : List TRow) (G : List AV) (x : AV) (hp : Hp), growN G x hp → wtR R < f → wtR R ≤ 1048576 → RowsIn R → G.length ≤ 401 →
    CallsH Try.prog 16 [x, .sl ((R.map TrS.mk).map av)] hp (growN (G ++ (planX f G.length R).map av)) := by
  intro f
  induction f with
  | zero => intro R G x hp _ h; omega
  | succ f ih =>
    intro R G x hp hg hf hwt hin hG
    refine funH_spec_l17Lay rfl ?_
    have hwl := wt_len R
    have hRm : (R.map TrS.mk).length = R.length := List.length_map _
    by_cases hbig : 400 < G.length
    · have hP : planX (f + 1) G.length R = [] := by rw [planX, if_pos hbig]
      rw [hP, List.map_nil, List.append_nil]
      have hbi : (400 : Int) < (G.length : Int) := by omega
      rcases hg with ⟨h, _, _⟩ | ⟨v, rfl, rfl⟩
      · rw [h] at hbig; simp at hbig
      simp +contextual -dsimp (maxSteps := 2000000) only [↓SD, SU, SB, Nat.reduceAdd, Nat.reduceBEq, Nat.reduceEqDiff, Nat.reduceLeDiff, Nat.reduceLT, Nat.reduceSub, ↓reduceIte, zA, zI, zN, reduceCtorEq, Int.reduceToNat, zE, Int.reduceEq, Int.reduceLT, Int.reduceLE, Int.reduceNeg, Int.reduceAdd, Int.reduceSub, ir_spec_l17Lay, rs_spec_l17Lay, hbi]
      refine Goes.post [(90, ⟨v, false, 75, 8, G⟩)] ?_
      simp +contextual -dsimp (maxSteps := 2000000) only [↓SD, SU, SB, Nat.reduceAdd, Nat.reduceBEq, Nat.reduceEqDiff, Nat.reduceLeDiff, Nat.reduceLT, Nat.reduceSub, ↓reduceIte, zA, zI, zN, reduceCtorEq, Int.reduceToNat, zE]
      exact .inr ⟨v, rfl, rfl⟩
    have hP : planX (f + 1) G.length R = planS (planX f) G.length R := by rw [planX, if_neg hbig]
    rw [hP]
    have hbi : ¬ (400 : Int) < (G.length : Int) := by omega
    have hlt : List.take G.length G = G := List.take_length
    cases R with
    | nil =>
      have e0 : planS (planX f) G.length [] = [⟨-1, [], 0, 0, bs [], false, 0, 0⟩] := rfl
      rw [e0]
      rcases hg with ⟨rfl, rfl, rfl⟩ | ⟨v, rfl, rfl⟩
      · simp +contextual -dsimp (maxSteps := 2000000) only [↓SD, SU, SB, Nat.reduceAdd, Nat.reduceBEq, Nat.reduceEqDiff, Nat.reduceLeDiff, Nat.reduceLT, Nat.reduceSub, ↓reduceIte, zA, zI, zN, reduceCtorEq, Int.reduceToNat, zE, Int.reduceEq, Int.reduceLT, Int.reduceLE, Int.reduceNeg, Int.reduceAdd, Int.reduceSub, ir_spec_l17Lay, rs_spec_l17Lay, List.map_nil]
        refine ⟨⟨by omega, by unfold maxLen; omega⟩, fun u => ?_⟩
        exact leafN [] (-1) u _ rfl rfl
      · simp +contextual -dsimp (maxSteps := 2000000) only [↓SD, SU, SB, Nat.reduceAdd, Nat.reduceBEq, Nat.reduceEqDiff, Nat.reduceLeDiff, Nat.reduceLT, Nat.reduceSub, ↓reduceIte, zA, zI, zN, reduceCtorEq, Int.reduceToNat, zE, Int.reduceEq, Int.reduceLT, Int.reduceLE, Int.reduceNeg, Int.reduceAdd, Int.reduceSub, ir_spec_l17Lay, rs_spec_l17Lay, hbi, hlt, List.map_nil]
        refine ⟨⟨by omega, by unfold maxLen; omega⟩, fun u => ?_⟩
        exact leafN G (-1) u _ rfl rfl
    | cons r0 rs =>
      obtain ⟨R, hR⟩ : ∃ R, R = r0 :: rs := ⟨_, rfl⟩
      have hRl : R.length = rs.length + 1 := by rw [hR]; rfl
      have hRi : ¬ (R.length : Int) = 0 := by omega
      have hRp : (0 : Int) < (R.length : Int) := by omega
      have hRn : 0 < R.length := by omega
      have e0 : ((R.map TrS.mk).map (av : TrS → AV)).getD 0 .top = av (⟨r0⟩ : TrS) := by rw [hR]; rfl
      have hra : av (⟨r0⟩ : TrS) = .agg [.sl ((r0.tests.map TsS.mk).map av), .int .i64 r0.arm] := av_TrS _
      have hrl : (r0.tests.map TsS.mk).length = r0.tests.length := List.length_map _
      have hRm2 : ((R.map TrS.mk).map (av : TrS → AV)).length = R.length := by simp
      cases ht : r0.tests with
      | nil =>
        have e00 : planS (planX f) G.length (r0 :: rs) = [⟨r0.arm, [], 0, 0, bs [], false, 0, 0⟩] := by rw [planS, ht]; rfl
        rw [e00, ← hR]
        rw [ht] at hra
        rcases hg with ⟨rfl, rfl, rfl⟩ | ⟨v, rfl, rfl⟩
        · simp +contextual -dsimp (maxSteps := 2000000) only [↓SD, SU, SB, Nat.reduceAdd, Nat.reduceBEq, Nat.reduceEqDiff, Nat.reduceLeDiff, Nat.reduceLT, Nat.reduceSub, ↓reduceIte, zA, zI, zN, reduceCtorEq, Int.reduceToNat, zE, Int.reduceEq, Int.reduceLT, Int.reduceLE, Int.reduceNeg, Int.reduceAdd, Int.reduceSub, ir_spec_l17Lay, rs_spec_l17Lay, hRm2, hRi, hRp, hRn, e0, hra, List.map_nil]
          refine ⟨⟨by omega, by unfold maxLen; omega⟩, fun u => ?_⟩
          exact leafN [] r0.arm u _ rfl rfl
        · simp +contextual -dsimp (maxSteps := 2000000) only [↓SD, SU, SB, Nat.reduceAdd, Nat.reduceBEq, Nat.reduceEqDiff, Nat.reduceLeDiff, Nat.reduceLT, Nat.reduceSub, ↓reduceIte, zA, zI, zN, reduceCtorEq, Int.reduceToNat, zE, Int.reduceEq, Int.reduceLT, Int.reduceLE, Int.reduceNeg, Int.reduceAdd, Int.reduceSub, ir_spec_l17Lay, rs_spec_l17Lay, hbi, hlt, hRm2, hRi, hRp, hRn, e0, hra, List.map_nil]
          refine ⟨⟨by omega, by unfold maxLen; omega⟩, fun u => ?_⟩
          exact leafN G r0.arm u _ rfl rfl
      | cons t ts =>
        have hts : ¬ (r0.tests.length : Int) = 0 := by rw [ht, List.length_cons]; omega
        have htp : (0 : Int) < (r0.tests.length : Int) := by rw [ht, List.length_cons]; omega
        have htn : 0 < r0.tests.length := by rw [ht, List.length_cons]; omega
        have hrl2 : ((r0.tests.map TsS.mk).map (av : TsS → AV)).length = r0.tests.length := by simp
        have e1 : ((r0.tests.map TsS.mk).map (av : TsS → AV)).getD 0 .top = av (⟨t⟩ : TsS) := by rw [ht]; rfl
        have hP2 : planS (planX f) G.length (r0 :: rs) = ⟨0, t.path, t.kind, t.n, t.s, t.has, G.length + 1, G.length + 1 + (planX f (G.length + 1) (yesR R t)).length⟩ :: (planX f (G.length + 1) (yesR R t) ++ planX f (G.length + 1 + (planX f (G.length + 1) (yesR R t)).length) (noR R t)) := by
          rw [planS, ht, planT, ← hR]
        have hy := wt_yes (rs := rs) ht
        have hn := wt_no (rs := rs) ht
        rw [← hR] at hy hn hwt hin hf hwl
        rw [hP2, ← hR]
        have htpl : t.path.length ≤ 1000000 := hin r0 (by rw [hR]; simp) t (by rw [ht]; simp)
        have hTl : ∀ r ∈ R, r.tests.length ≤ 1048576 := fun r hr => by have := wt_mem hr; omega
        have CY := l17Yes_ok R t (by omega) hin hTl
        have CN := l17No_ok R t (by omega) hin hTl
        have hpm : ∀ hp, (t.path.map (av : Int → AV)).map (AV.pur hp) = t.path.map av := fun hp => map_nop _ hp
        have hpt : List.take t.path.length (t.path.map (av : Int → AV)) = t.path.map av := List.take_of_length_le (by simp)
        have hpc : ∀ x ∈ t.path.map (av : Int → AV), x.cells.length = 1 := fun x hx => by obtain ⟨y, _, rfl⟩ := List.mem_map.1 hx; rfl
        have hta : av (⟨t⟩ : TsS) = .agg [.sl (t.path.map av), .int .i64 t.kind, .int .i64 t.n, .str t.s, .bool t.has] := av_TsS _
        rw [hta] at e1 CY CN
        obtain ⟨z, hz⟩ : ∃ z : AV, z = .agg [.int .i64 0, .nils, .int .i64 0, .int .i64 0, .str (bs []), .bool false, .int .i64 0, .int .i64 0] := ⟨_, rfl⟩
        have hc : (∀ x ∈ t.path.map (av : Int → AV), x.cells.length = 1) ∧ t.path.length * 8 ≤ 140737488355328 ∧ t.path.length ≤ maxLen := ⟨hpc, by omega, by unfold maxLen; omega⟩
        obtain ⟨P1, hP1⟩ : ∃ P1, P1 = planX f (G.length + 1) (yesR R t) := ⟨_, rfl⟩
        have hp1 := plan_len f (G.length + 1) (yesR R t)
        rw [← hP1] at hp1 ⊢
        obtain ⟨P2, hP2⟩ : ∃ P2, P2 = planX f (G.length + 1 + P1.length) (noR R t) := ⟨_, rfl⟩
        have hp2 := plan_len f (G.length + 1 + P1.length) (noR R t)
        rw [← hP2] at hp2 ⊢
        have C1 := fun (v1 : Nat) => ih (yesR R t) (G ++ [z]) (.row 90 v1 (G.length + 1)) [(90, ⟨v1, false, 75, 8, G ++ [z]⟩)] (.inr ⟨v1, by simp, rfl⟩) (by omega) (by omega) (hin.yes t) (by simp only [List.length_append, List.length_cons, List.length_nil]; omega)
        have hGz : (G ++ [z]).length = G.length + 1 := by simp
        rw [hGz, ← hP1] at C1
        obtain ⟨G1, hG1⟩ : ∃ G1, G1 = G ++ [z] ++ P1.map av := ⟨_, rfl⟩
        have hG1l : G1.length = G.length + 1 + P1.length := by rw [hG1, List.length_append, hGz, List.length_map]
        rw [← hG1] at C1
        have C2 := fun (v2 : Nat) => ih (noR R t) G1 (.row 90 v2 G1.length) [(90, ⟨v2, false, 75, 8, G1⟩)] (.inr ⟨v2, rfl, rfl⟩) (by omega) (by omega) (hin.no t) (by omega)
        rw [hG1l, ← hP2] at C2
        obtain ⟨G2, hG2⟩ : ∃ G2, G2 = G1 ++ P2.map av := ⟨_, rfl⟩
        have hG2l : G2.length = G.length + 1 + P1.length + P2.length := by rw [hG2, List.length_append, hG1l, List.length_map]
        rw [← hG2] at C2
        obtain ⟨W, hW⟩ : ∃ W, W = G ++ (⟨0, t.path, t.kind, t.n, t.s, t.has, (G.length : Int) + 1, (G.length : Int) + 1 + P1.length⟩ :: (P1 ++ P2) : List Ask).map av := ⟨_, rfl⟩
        rw [← hW]
        have hWs : G2.set G.length (.agg [.int .i64 0, .sl (t.path.map av), .int .i64 t.kind, .int .i64 t.n, .str t.s, .bool t.has, .int .i64 (G.length + 1 : Nat), .int .i64 (G.length + 1 + P1.length : Nat)]) = W := by
          rw [hG2, hG1, hW, List.map_cons, List.map_append, av_Ask]; simp [List.set_append]
        have hG1n : ¬ G1 = [] := fun h => by rw [h] at hG1l; simp only [List.length_nil] at hG1l; omega
        have hG2n : ¬ G2 = [] := fun h => by rw [h] at hG2l; simp only [List.length_nil] at hG2l; omega
        have hatI : (G.length : Int) < (G.length + 1 + P1.length + P2.length : Nat) := by omega
        have hatN : G.length < G.length + 1 + P1.length + P2.length := by omega
        have hGg : G2.getD G.length .top = .agg [.int .i64 0, .nils, .int .i64 0, .int .i64 0, .str (bs []), .bool false, .int .i64 0, .int .i64 0] := by rw [hG2, hG1, hz]; simp [List.getD_eq_getElem?_getD]
        have hWl : W.length = G.length + 1 + P1.length + P2.length := by rw [← hWs, List.length_set, hG2l]
        clear hP hP2 ih hG1 hG2 hW
        generalize yesR R t = Y at *
        generalize noR R t = N at *
        rcases hg with ⟨hG0, rfl, rfl⟩ | ⟨v, rfl, rfl⟩
        case' inl =>
          have hG0' : G.length = 0 := by rw [hG0]; rfl
          simp +contextual -dsimp (maxSteps := 2000000) only [↓SD, SU, SB, Nat.reduceAdd, Nat.reduceBEq, Nat.reduceEqDiff, Nat.reduceLeDiff, Nat.reduceLT, Nat.reduceSub, ↓reduceIte, zA, zI, zN, reduceCtorEq, Int.reduceToNat, zE, Int.reduceEq, Int.reduceLT, Int.reduceLE, Int.reduceNeg, Int.reduceAdd, Int.reduceSub, ir_spec_l17Lay, rs_spec_l17Lay, hRm2, hRi, hRp, hRn, e0, hra, hrl2, hts, htp, htn, e1]
        case' inr =>
          have hG0' : G = G := rfl
          have hG0 : 0 = 0 := rfl
          simp +contextual -dsimp (maxSteps := 2000000) only [↓SD, SU, SB, Nat.reduceAdd, Nat.reduceBEq, Nat.reduceEqDiff, Nat.reduceLeDiff, Nat.reduceLT, Nat.reduceSub, ↓reduceIte, zA, zI, zN, reduceCtorEq, Int.reduceToNat, zE, Int.reduceEq, Int.reduceLT, Int.reduceLE, Int.reduceNeg, Int.reduceAdd, Int.reduceSub, ir_spec_l17Lay, rs_spec_l17Lay, hbi, hlt, hRm2, hRi, hRp, hRn, e0, hra, hrl2, hts, htp, htn, e1]
        all_goals
          intro u5
          refine ⟨⟨by omega, by unfold maxLen; omega⟩, fun v1 => ?_⟩
          refine ghost_of (Goes.frz 5 (Goes.pur 5 (Goes.here ?_)))
          simp +contextual -dsimp (maxSteps := 2000000) only [↓SD, SU, SB, Nat.reduceAdd, Nat.reduceBEq, Nat.reduceEqDiff, Nat.reduceLeDiff, Nat.reduceLT, Nat.reduceSub, ↓reduceIte, zA, zI, zN, reduceCtorEq, Int.reduceToNat, zE, Int.reduceEq, Int.reduceLT, Int.reduceLE, Int.reduceNeg, Int.reduceAdd, Int.reduceSub, hpm, hpt, map_len, hlt]
          refine ⟨fun v45 => ⟨⟨hc, fun v48 => ⟨fun u7 => ?_, fun u7 => ?_⟩⟩, fun u7 => ⟨hc, fun v48 => ?_⟩⟩, fun u7 v45 => ⟨hc, fun v48 => ?_⟩⟩
          all_goals
            refine ghost_of (goes_cut ⟨[(0, .row 90 v1 (G.length + 1)), (1, .sl ((R.map TrS.mk).map av)), (5, .obj [.sl (t.path.map av), .int .i64 t.kind, .int .i64 t.n, .str t.s, .bool t.has]), (6, .int .i64 G.length), (7, .ptr 7 u7 0 0)], [(90, ⟨v1, false, 75, 8, G ++ [z]⟩), (7, ⟨u7, false, 75, 8, [.agg [.int .i64 0, .sl (t.path.map av), .int .i64 t.kind, .int .i64 t.n, .str t.s, .bool t.has, .int .i64 (G.length + 1 : Nat), .int .i64 0]]⟩)]⟩ (by simp +contextual -dsimp only [↓SD, SU, SB, Nat.reduceAdd, Nat.reduceBEq, Nat.reduceEqDiff, Nat.reduceLeDiff, Nat.reduceLT, Nat.reduceSub, ↓reduceIte, zA, zI, zN, reduceCtorEq, Int.reduceToNat, zE, hG0', Nat.zero_add]) (by simp +contextual -dsimp only [↓SD, SU, SB, Nat.reduceAdd, Nat.reduceBEq, Nat.reduceEqDiff, Nat.reduceLeDiff, Nat.reduceLT, Nat.reduceSub, ↓reduceIte, zA, zI, zN, reduceCtorEq, Int.reduceToNat, zE, hG0', hG0, hz, List.nil_append, Nat.zero_add]) (Goes.here ?_))
            clear hG0 hG0'
            generalize G ++ [z] = Gz at *
            simp +contextual -dsimp (maxSteps := 2000000) only [↓SD, SU, SB, Nat.reduceAdd, Nat.reduceBEq, Nat.reduceEqDiff, Nat.reduceLeDiff, Nat.reduceLT, Nat.reduceSub, ↓reduceIte, zA, zI, zN, reduceCtorEq, Int.reduceToNat, zE, Int.reduceEq, Int.reduceLT, Int.reduceLE, Int.reduceNeg, Int.reduceAdd, Int.reduceSub]
            refine aCallK_of _ CY ?_
            simp +contextual -dsimp (maxSteps := 2000000) only [↓SD, SU, SB, Nat.reduceAdd, Nat.reduceBEq, Nat.reduceEqDiff, Nat.reduceLeDiff, Nat.reduceLT, Nat.reduceSub, ↓reduceIte, zA, zI, zN, reduceCtorEq, Int.reduceToNat, zE, Int.reduceEq, Int.reduceLT, Int.reduceLE, Int.reduceNeg, Int.reduceAdd, Int.reduceSub]
            refine aCallH_of [90] (C1 v1) (by simp +contextual -dsimp only [↓SD, SU, SB, Nat.reduceAdd, Nat.reduceBEq, Nat.reduceEqDiff, Nat.reduceLeDiff, Nat.reduceLT, Nat.reduceSub, ↓reduceIte, zA, zI, zN, reduceCtorEq, Int.reduceToNat, zE]) ?_
            rintro r hp' (⟨h, _, _⟩ | ⟨v2, rfl, rfl⟩)
            · exact absurd h hG1n
            rw [hG1l]
            simp +contextual -dsimp (maxSteps := 2000000) only [↓SD, SU, SB, Nat.reduceAdd, Nat.reduceBEq, Nat.reduceEqDiff, Nat.reduceLeDiff, Nat.reduceLT, Nat.reduceSub, ↓reduceIte, zA, zI, zN, reduceCtorEq, Int.reduceToNat, zE, Int.reduceEq, Int.reduceLT, Int.reduceLE, Int.reduceNeg, Int.reduceAdd, Int.reduceSub, hG1l]
            refine aCallK_of _ CN ?_
            simp +contextual -dsimp (maxSteps := 2000000) only [↓SD, SU, SB, Nat.reduceAdd, Nat.reduceBEq, Nat.reduceEqDiff, Nat.reduceLeDiff, Nat.reduceLT, Nat.reduceSub, ↓reduceIte, zA, zI, zN, reduceCtorEq, Int.reduceToNat, zE, Int.reduceEq, Int.reduceLT, Int.reduceLE, Int.reduceNeg, Int.reduceAdd, Int.reduceSub]
            refine aCallH_of [90] (C2 v2) (by simp +contextual -dsimp only [↓SD, SU, SB, Nat.reduceAdd, Nat.reduceBEq, Nat.reduceEqDiff, Nat.reduceLeDiff, Nat.reduceLT, Nat.reduceSub, ↓reduceIte, zA, zI, zN, reduceCtorEq, Int.reduceToNat, zE]) ?_
            rintro r hp' (⟨h, _, _⟩ | ⟨v3, rfl, rfl⟩)
            · exact absurd h hG2n
            rw [hG2l]
            simp +contextual -dsimp (maxSteps := 2000000) only [↓SD, SU, SB, Nat.reduceAdd, Nat.reduceBEq, Nat.reduceEqDiff, Nat.reduceLeDiff, Nat.reduceLT, Nat.reduceSub, ↓reduceIte, zA, zI, zN, reduceCtorEq, Int.reduceToNat, zE, Int.reduceEq, Int.reduceLT, Int.reduceLE, Int.reduceNeg, Int.reduceAdd, Int.reduceSub, hG2l, hatI, hatN, hGg, hWs]
            refine Goes.post [(90, ⟨v3, false, 75, 8, W⟩)] ?_
            simp +contextual -dsimp (maxSteps := 2000000) only [↓SD, SU, SB, Nat.reduceAdd, Nat.reduceBEq, Nat.reduceEqDiff, Nat.reduceLeDiff, Nat.reduceLT, Nat.reduceSub, ↓reduceIte, zA, zI, zN, reduceCtorEq, Int.reduceToNat, zE]
            exact .inr ⟨v3, by rw [if_neg (fun h => h.1), hWl], rfl⟩
end Go.Proofs.Ytohalepkikjinaa
