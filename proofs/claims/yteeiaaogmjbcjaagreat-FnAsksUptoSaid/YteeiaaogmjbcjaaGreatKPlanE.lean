/-
 TESTS AND ROWS of the reference's tree of questions, by abstract texts. Conditions: none.
-/
import Derived.Test.YteeiaaogmjbcjaaGreatKPlanC
import Derived.Test.YteeiaaogmjbcjaaGreatKJ45
set_option linter.unusedVariables false
set_option linter.unusedSimpArgs false
set_option maxRecDepth 100000
namespace Go.Proofs.YteeiaaogmjbcjaaGreat
open Go.RowKit Go.Proofs.YteeiaaogmjbcjaaGreat.Av Go.Proofs.YteeiaaogmjbcjaaGreat.Ml
open Go.Proofs.YteeiaaogmjbcjaaGreat.Av.AVal (av)

structure TsS where
 t : Tst
structure TrS where
 r : BU
instance : AVal TsS := ⟨fun x => .agg [.sl (x.t.path.map av), .int .i64 x.t.kind, .int .i64 x.t.n, .str x.t.s, .bool x.t.has], 5, fun _ => rfl, fun _ => rfl, fun x y hy => by
 simp only [AV.cells, List.mem_cons, List.not_mem_nil, or_false] at hy
 rcases hy with rfl | rfl | rfl | rfl | rfl <;> first | exact Aj.int _ _ | exact Aj.str _ | exact Aj.bool _ | exact Aw x.t.path, fun _ _ => rfl, fun x y hy => by
 simp only [AV.cells, List.mem_cons, List.not_mem_nil, or_false] at hy
 rcases hy with rfl | rfl | rfl | rfl | rfl <;> rfl⟩
theorem FW (x : TsS) : av x = .agg [.sl (x.t.path.map av), .int .i64 x.t.kind, .int .i64 x.t.n, .str x.t.s, .bool x.t.has] := eqq rfl
instance : AVal TrS := ⟨fun x => .agg [.sl ((x.r.AD.map TsS.mk).map av), .int .i64 x.r.arm], 2, fun _ => rfl, fun _ => rfl, fun x y hy => by
 simp only [AV.cells, List.mem_cons, List.not_mem_nil, or_false] at hy
 rcases hy with rfl | rfl <;> first | exact Aj.int _ _ | exact Aw (x.r.AD.map TsS.mk), fun _ _ => rfl, fun x y hy => by
 simp only [AV.cells, List.mem_cons, List.not_mem_nil, or_false] at hy
 rcases hy with rfl | rfl <;> rfl⟩
theorem Mg (x : TrS) : av x = .agg [.sl ((x.r.AD.map TsS.mk).map av), .int .i64 x.r.arm] := eqq rfl
theorem N4 (a b : List Int) (ha : a.length ≤ 1099511627776) : AG Tryz.prog 96 [.sl (a.map av), .sl (b.map av)] (.bool (decide (a = b))) := by
 refine FN.F rfl (by simp; exact ⟨Aw a, Aw b⟩) (Aj.bool _) ?_
 by_cases hl : a.length = b.length
 case neg =>
  have hne : ¬ a = b := fun h => hl (by rw [h])
  have hli : ¬ (a.length : Int) = b.length := by omega
  simp +contextual -dsimp only [↓SD, SU, simprocAttr, -Nat.reduceMul, FN, Aa, hl, hli, hne]
 have hli : (a.length : Int) = b.length := by omega
 simp +contextual -dsimp only [↓SD, SU, simprocAttr, -Nat.reduceMul, FN, Aa, hli]
 refine AF (X := Nat) (fun k => ⟨[(0, .sl (a.map av)), (1, .sl (b.map av)), (12, .int .i64 b.length), (13, .int .i64 k)], []⟩) (fun k => k ≤ b.length ∧ a.take k = b.take k) (fun k => b.length - k) 0 ⟨Nat.zero_le _, rfl⟩ (by simp +contextual -dsimp only [↓SD, SU, simprocAttr, -Nat.reduceMul]) trivial ?_
 rintro k ⟨hk, hp⟩
 by_cases hlt : k < b.length
 ·have hlta : k < a.length := by omega
  have e1 := getD_map av a k .top hlta
  have e2 := getD_map av b k .top hlt
  rw [Af] at e1 e2
  by_cases he : a[k] = b[k]
  ·have hst := KZ hlta hlt hp he
   rw [he] at e1
   simp +contextual -dsimp only [↓SD, SU, simprocAttr, -Nat.reduceMul, hlt, hlta, e1, e2, Aa]
   refine ⟨by omega, Ah.le ⟨k + 1, ⟨⟨hlt, hst⟩, (by first | omega | (simp only; omega))⟩, rfl⟩ (by simp +contextual -dsimp only [↓SD, SU, simprocAttr, -Nat.reduceMul, Int.natCast_add]) trivial⟩
  ·have hne : ¬ a = b := fun h => he (by subst h; rfl)
   simp +contextual -dsimp only [↓SD, SU, simprocAttr, -Nat.reduceMul, hlt, hlta, e1, e2, he, hne, Aa]
 ·obtain rfl : k = b.length := by omega
  have hab : a = b := by
   rw [List.take_of_length_le (by omega), List.take_of_length_le (by omega)] at hp
   exact hp
  simp +contextual -dsimp only [↓SD, SU, simprocAttr, -Nat.reduceMul, Nat.lt_irrefl, hab]
theorem ME (x t : Tst) : AG Tryz.prog 97 [av (⟨x⟩ : TsS), av (⟨t⟩ : TsS)] (.bool (D4 x t)) := by
 refine DB.F rfl (by simp; exact ⟨AVal.clean (⟨x⟩ : TsS), AVal.clean (⟨t⟩ : TsS)⟩) (Aj.bool _) ?_
 unfold D4
 by_cases h1 : x.kind = t.kind
 case neg => simp +contextual -dsimp only [↓SD, SU, simprocAttr, -Nat.reduceMul, DB, FW, h1]
 by_cases h2 : x.n = t.n
 case neg => simp +contextual -dsimp only [↓SD, SU, simprocAttr, -Nat.reduceMul, DB, FW, h1, h2]
 by_cases h3 : x.s = t.s
 case neg => simp +contextual -dsimp only [↓SD, SU, simprocAttr, -Nat.reduceMul, DB, FW, h1, h2, h3]
 simp +contextual -dsimp only [↓SD, SU, simprocAttr, -Nat.reduceMul, DB, FW, h1, h2, h3]
theorem av2 {a b : AV} (ha : Aj a) (hb : Aj b) : ∀ x ∈ [a, b], Aj x := fun x hx => by
 rcases List.mem_cons.1 hx with rfl | hx
 ·exact ha
 ·rw [List.mem_singleton.1 hx]; exact hb
structure YeO where
 k : Nat
 a : Nat
structure YeJ where
 j : Nat
 c : Nat
set_option maxHeartbeats 4000000 in
theorem Zl (R : List BU) (t : Tst) (hR : R.length ≤ 1048576) (hin : RowsIn R) (hT : ∀ r ∈ R, r.AD.length ≤ 1048576) : AG Tryz.prog 76 [.sl ((R.map TrS.mk).map av), av (⟨t⟩ : TsS)] (.sl (((B8 R t).map TrS.mk).map av)) := by
 refine Jp.F rfl (av2 (Aw (R.map TrS.mk)) (AVal.clean (⟨t⟩ : TsS))) (Aw _) ?_
 have hRm : (R.map TrS.mk).length = R.length := List.length_map _
 simp +contextual -dsimp only [↓SD, SU, simprocAttr, -Nat.reduceMul, Jp, FW]
 intro u12
 refine AF (X := YeO) (fun q => ⟨[(3, .obj [.sl (t.path.map av), .int .i64 t.kind, .int .i64 t.n, .str t.s, .bool t.has]), (5, .row 12 q.a (B8 (R.take q.k) t).length), (13, .sl ((R.map TrS.mk).map av)), (14, .int .i64 R.length), (15, .int .i64 q.k)], [(12, ⟨q.a, false, 94, 2, ((B8 (R.take q.k) t).map TrS.mk).map av⟩)]⟩) (fun q => q.k ≤ R.length) (fun q => R.length - q.k) ⟨0, u12⟩ (Nat.zero_le _) (by simp +contextual -dsimp only [↓SD, SU, simprocAttr, -Nat.reduceMul, List.take_zero, B8, List.filter_nil, List.length_map]) (by simp +contextual -dsimp only [↓SD, SU, simprocAttr, -Nat.reduceMul, List.take_zero, B8, List.filter_nil, List.map_nil]) ?_
 rintro ⟨k, a⟩ hk
 dsimp only at hk ⊢
 by_cases hlk : k < R.length
 ·have e2 : ((R.map TrS.mk).map (av : TrS → AV)).getD k .top = av (⟨R[k]⟩ : TrS) := by rw [getD_map av (R.map TrS.mk) k .top (by omega), List.getElem_map]
  have hrk : R[k] ∈ R := List.getElem_mem hlk
  have ys := PD (R.take k) R[k] t
  rw [← List.take_succ_eq_append_getElem hlk] at ys
  have yl := Sc (R.take k) t
  have hkl : (R.take k).length = k := by simp; omega
  rw [hkl] at yl
  have hinr := hin R[k] hrk
  have hTr := hT R[k] hrk
  generalize R[k] = r at *
  generalize B8 (R.take k) t = Y at *
  have hra : av (⟨r⟩ : TrS) = .agg [.sl ((r.AD.map TsS.mk).map av), .int .i64 r.arm] := Mg _
  have hYl : ((Y.map TrS.mk).map (av : TrS → AV)).length = Y.length := by simp
  have hYt : List.take Y.length ((Y.map TrS.mk).map (av : TrS → AV)) = (Y.map TrS.mk).map av := List.take_of_length_le (by simp)
  simp +contextual -dsimp only [↓SD, SU, simprocAttr, -Nat.reduceMul, hlk, hRm, Aa, e2, hra]
  intro u7 u19
  refine AF (X := YeJ) (fun q => ⟨[(3, .obj [.sl (t.path.map av), .int .i64 t.kind, .int .i64 t.n, .str t.s, .bool t.has]), (5, .row 12 a Y.length), (7, .ptr 7 u7 0 0), (8, .bool (!(r.AD.take q.j).any (Dd t))), (9, .row 19 q.c ((r.AD.take q.j).filter fun x => !Cv x t).length), (13, .sl ((R.map TrS.mk).map av)), (14, .int .i64 R.length), (15, .int .i64 k), (21, .sl ((r.AD.map TsS.mk).map av)), (22, .int .i64 r.AD.length), (23, .int .i64 q.j)], [(12, ⟨a, false, 94, 2, (Y.map TrS.mk).map av⟩), (7, ⟨u7, false, 94, 2, [.agg [.sl ((r.AD.map TsS.mk).map av), .int .i64 r.arm]]⟩), (19, ⟨q.c, false, 137, 5, (((r.AD.take q.j).filter fun x => !Cv x t).map TsS.mk).map av⟩)]⟩) (fun q => q.j ≤ r.AD.length) (fun q => r.AD.length - q.j) ⟨0, u19⟩ (Nat.zero_le _) (by simp +contextual -dsimp only [↓SD, SU, simprocAttr, -Nat.reduceMul, List.take_zero, List.filter_nil, List.any_nil, List.length_map]) (by simp +contextual -dsimp only [↓SD, SU, simprocAttr, -Nat.reduceMul, List.take_zero, List.filter_nil, List.map_nil]) ?_
  rintro ⟨j, c⟩ hj
  dsimp only at hj ⊢
  have hrm : (r.AD.map TsS.mk).length = r.AD.length := List.length_map _
  by_cases hlj : j < r.AD.length
  ·have e3 : ((r.AD.map TsS.mk).map (av : TsS → AV)).getD j .top = av (⟨r.AD[j]⟩ : TsS) := by rw [getD_map av (r.AD.map TsS.mk) j .top (by omega), List.getElem_map]
   have fs := HS (p := fun x => !Cv x t) hlj
   have an := Hr (p := Dd t) hlj
   have hxp := hinr _ (List.getElem_mem hlj)
   have C1 : AG Tryz.prog 96 [.sl (r.AD[j].path.map av), .sl (t.path.map av)] (.bool (Cv r.AD[j] t)) := N4 r.AD[j].path t.path (by omega)
   have C2 := ME r.AD[j] t
   have fl : ((r.AD.take j).filter fun x => !Cv x t).length ≤ j := by
    have h1 := List.length_filter_le (fun x => !Cv x t) (r.AD.take j)
    have h2 : (r.AD.take j).length = j := by simp; omega
    omega
   generalize hx : r.AD[j] = x at *
   generalize (r.AD.take j).filter (fun x => !Cv x t) = F at *
   generalize (r.AD.take j).any (Dd t) = o at *
   have hct : Dd t x = (Cv x t && !D4 x t) := rfl
   have hFl : ((F.map TsS.mk).map (av : TsS → AV)).length = F.length := by simp
   have hFt : List.take F.length ((F.map TsS.mk).map (av : TsS → AV)) = (F.map TsS.mk).map av := List.take_of_length_le (by simp)
   have hxa : av (⟨x⟩ : TsS) = _ := FW _
   dsimp only at hxa
   rw [hct] at an
   rw [hxa, FW] at C2
   dsimp only at C2
   cases hp : Cv x t <;> cases hb : D4 x t <;> cases o
   all_goals
    rw [hp] at C1 an fs
    rw [hb] at C2 an
    simp only [Bool.and_true, Bool.and_false, Bool.false_and, Bool.true_and, Bool.not_true, Bool.not_false, Bool.or_true, Bool.or_false, Bool.true_or, Bool.false_or, if_true, if_false, Bool.false_eq_true, List.append_nil] at an fs
    simp +contextual -dsimp only [↓SD, SU, simprocAttr, -Nat.reduceMul, hlj, hrm, Aa, e3, hxa]
    intro u11
    refine Ae _ C1 ?_
    simp +contextual -dsimp only [↓SD, SU, simprocAttr, -Nat.reduceMul, hFt, hFl]
    first
     | (refine ⟨⟨by omega, by unfold maxLen; omega⟩, fun c' => ?_⟩
        exact ⟨by omega, Ah.le ⟨⟨j + 1, c'⟩, ⟨hlj, (by first | omega | (simp only; omega))⟩, rfl⟩ (by simp +contextual -dsimp only [↓SD, SU, simprocAttr, -Nat.reduceMul, Int.natCast_add, an, fs, List.length_append]) (by simp +contextual -dsimp only [↓SD, SU, simprocAttr, -Nat.reduceMul, fs, List.map_append, hxa])⟩)
     | (refine Ae _ C2 ?_
        simp +contextual -dsimp only [↓SD, SU, simprocAttr, -Nat.reduceMul]
        exact ⟨by omega, Ah.le ⟨⟨j + 1, c⟩, ⟨hlj, (by first | omega | (simp only; omega))⟩, rfl⟩ (by simp +contextual -dsimp only [↓SD, SU, simprocAttr, -Nat.reduceMul, Int.natCast_add, an, fs]) (by simp +contextual -dsimp only [↓SD, SU, simprocAttr, -Nat.reduceMul, fs])⟩)
  ·obtain rfl : j = r.AD.length := by omega
   rw [List.take_length]
   obtain ⟨L, hL⟩ : ∃ L, L = r.AD.filter fun x => !Cv x t := ⟨_, rfl⟩
   have hys : (fun x => !Cv x t) = fun x => !Cv x t := rfl
   rw [← hL] at ys ⊢
   have hfm : ∀ hp, ((L.map TsS.mk).map (av : TsS → AV)).map (AV.pur hp) = (L.map TsS.mk).map av := fun hp => Ab _ hp
   have hfl : List.take L.length ((L.map TsS.mk).map (av : TsS → AV)) = (L.map TsS.mk).map av := List.take_of_length_le (by simp)
   have hLl : ((L.map TsS.mk).map (av : TsS → AV)).length = L.length := by simp
   cases hcl : r.AD.any (Dd t)
   all_goals
    rw [hcl] at ys
    simp only [Bool.false_eq_true, if_true, if_false, List.append_nil] at ys
    simp +contextual -dsimp only [↓SD, SU, simprocAttr, -Nat.reduceMul, Nat.lt_irrefl]
    refine BO (Ah.frz 19 (Ah.pur 9 (Ah.here ?_)))
    simp +contextual -dsimp only [↓SD, SU, simprocAttr, -Nat.reduceMul, hfm, hfl, hLl, Nat.le_refl, hYl, hYt]
   ·exact ⟨⟨by omega, by unfold maxLen; omega⟩, fun a' => ⟨by omega, Ah.le ⟨⟨k + 1, a'⟩, ⟨hlk, (by first | omega | (simp only; omega))⟩, rfl⟩ (by simp +contextual -dsimp only [↓SD, SU, simprocAttr, -Nat.reduceMul, Int.natCast_add, ys, List.length_append]) (by simp +contextual -dsimp only [↓SD, SU, simprocAttr, -Nat.reduceMul, ys, List.map_append, Mg])⟩⟩
   ·exact ⟨by omega, Ah.le ⟨⟨k + 1, a⟩, ⟨hlk, (by first | omega | (simp only; omega))⟩, rfl⟩ (by simp +contextual -dsimp only [↓SD, SU, simprocAttr, -Nat.reduceMul, Int.natCast_add, ys]) (by simp +contextual -dsimp only [↓SD, SU, simprocAttr, -Nat.reduceMul, ys])⟩
 ·obtain rfl : k = R.length := by omega
  rw [List.take_length]
  obtain ⟨Z, hZ⟩ : ∃ Z, Z = B8 R t := ⟨_, rfl⟩
  rw [← hZ]
  have hZm : ∀ hp, ((Z.map TrS.mk).map (av : TrS → AV)).map (AV.pur hp) = (Z.map TrS.mk).map av := fun hp => Ab _ hp
  have hZl : ((Z.map TrS.mk).map (av : TrS → AV)).length = Z.length := by simp
  have hZt : List.take Z.length ((Z.map TrS.mk).map (av : TrS → AV)) = (Z.map TrS.mk).map av := List.take_of_length_le (by simp)
  simp +contextual -dsimp only [↓SD, SU, simprocAttr, -Nat.reduceMul, Nat.lt_irrefl, hZm, hZl, hZt, Nat.le_refl]
structure NoJ where
 j : Nat
set_option maxHeartbeats 4000000 in
theorem Aa0 (R : List BU) (t : Tst) (hR : R.length ≤ 1048576) (hin : RowsIn R) (hT : ∀ r ∈ R, r.AD.length ≤ 1048576) : AG Tryz.prog 77 [.sl ((R.map TrS.mk).map av), av (⟨t⟩ : TsS)] (.sl (((noR R t).map TrS.mk).map av)) := by
 refine Kg.F rfl (av2 (Aw (R.map TrS.mk)) (AVal.clean (⟨t⟩ : TsS))) (Aw _) ?_
 have hRm : (R.map TrS.mk).length = R.length := List.length_map _
 simp +contextual -dsimp only [↓SD, SU, simprocAttr, -Nat.reduceMul, Kg, FW]
 intro u12
 refine AF (X := YeO) (fun q => ⟨[(3, .obj [.sl (t.path.map av), .int .i64 t.kind, .int .i64 t.n, .str t.s, .bool t.has]), (5, .row 11 q.a (noR (R.take q.k) t).length), (12, .sl ((R.map TrS.mk).map av)), (13, .int .i64 R.length), (14, .int .i64 q.k)], [(11, ⟨q.a, false, 94, 2, ((noR (R.take q.k) t).map TrS.mk).map av⟩)]⟩) (fun q => q.k ≤ R.length) (fun q => R.length - q.k) ⟨0, u12⟩ (Nat.zero_le _) (by simp +contextual -dsimp only [↓SD, SU, simprocAttr, -Nat.reduceMul, List.take_zero, noR, List.filter_nil, List.length_map]) (by simp +contextual -dsimp only [↓SD, SU, simprocAttr, -Nat.reduceMul, List.take_zero, noR, List.filter_nil, List.map_nil]) ?_
 rintro ⟨k, a⟩ hk
 dsimp only at hk ⊢
 by_cases hlk : k < R.length
 ·have e2 : ((R.map TrS.mk).map (av : TrS → AV)).getD k .top = av (⟨R[k]⟩ : TrS) := by rw [getD_map av (R.map TrS.mk) k .top (by omega), List.getElem_map]
  have hrk : R[k] ∈ R := List.getElem_mem hlk
  have ys := To (R.take k) R[k] t
  rw [← List.take_succ_eq_append_getElem hlk] at ys
  have yl := XG (R.take k) t
  have hkl : (R.take k).length = k := by simp; omega
  rw [hkl] at yl
  have hinr := hin R[k] hrk
  have hTr := hT R[k] hrk
  generalize R[k] = r at *
  generalize noR (R.take k) t = Y at *
  have hra : av (⟨r⟩ : TrS) = .agg [.sl ((r.AD.map TsS.mk).map av), .int .i64 r.arm] := Mg _
  have hYl : ((Y.map TrS.mk).map (av : TrS → AV)).length = Y.length := by simp
  have hYt : List.take Y.length ((Y.map TrS.mk).map (av : TrS → AV)) = (Y.map TrS.mk).map av := List.take_of_length_le (by simp)
  simp +contextual -dsimp only [↓SD, SU, simprocAttr, -Nat.reduceMul, hlk, hRm, Aa, e2, hra]
  intro u7
  refine AF (X := NoJ) (fun q => ⟨[(3, .obj [.sl (t.path.map av), .int .i64 t.kind, .int .i64 t.n, .str t.s, .bool t.has]), (5, .row 11 a Y.length), (7, .ptr 7 u7 0 0), (8, .bool (!(r.AD.take q.j).any (Dh t))), (12, .sl ((R.map TrS.mk).map av)), (13, .int .i64 R.length), (14, .int .i64 k), (19, .sl ((r.AD.map TsS.mk).map av)), (20, .int .i64 r.AD.length), (21, .int .i64 q.j)], [(11, ⟨a, false, 94, 2, (Y.map TrS.mk).map av⟩), (7, ⟨u7, false, 94, 2, [.agg [.sl ((r.AD.map TsS.mk).map av), .int .i64 r.arm]]⟩)]⟩) (fun q => q.j ≤ r.AD.length) (fun q => r.AD.length - q.j) ⟨0⟩ (Nat.zero_le _) (by simp +contextual -dsimp only [↓SD, SU, simprocAttr, -Nat.reduceMul, List.take_zero, List.any_nil, List.length_map]) (by simp +contextual -dsimp only [↓SD, SU, simprocAttr, -Nat.reduceMul]) ?_
  rintro ⟨j⟩ hj
  dsimp only at hj ⊢
  have hrm : (r.AD.map TsS.mk).length = r.AD.length := List.length_map _
  by_cases hlj : j < r.AD.length
  ·have e3 : ((r.AD.map TsS.mk).map (av : TsS → AV)).getD j .top = av (⟨r.AD[j]⟩ : TsS) := by rw [getD_map av (r.AD.map TsS.mk) j .top (by omega), List.getElem_map]
   have an := Hr (p := Dh t) hlj
   have hxp := hinr _ (List.getElem_mem hlj)
   have C1 : AG Tryz.prog 96 [.sl (r.AD[j].path.map av), .sl (t.path.map av)] (.bool (Cv r.AD[j] t)) := N4 r.AD[j].path t.path (by omega)
   have C2 := ME r.AD[j] t
   generalize hx : r.AD[j] = x at *
   generalize (r.AD.take j).any (Dh t) = o at *
   have hct : Dh t x = (Cv x t && D4 x t) := rfl
   have hxa : av (⟨x⟩ : TsS) = _ := FW _
   dsimp only at hxa
   rw [hct] at an
   rw [hxa, FW] at C2
   dsimp only at C2
   cases hp : Cv x t <;> cases hb : D4 x t <;> cases o
   all_goals
    rw [hp] at C1 an
    rw [hb] at C2 an
    simp only [Bool.and_true, Bool.and_false, Bool.false_and, Bool.true_and, Bool.not_true, Bool.not_false, Bool.or_true, Bool.or_false, Bool.true_or, Bool.false_or] at an
    simp +contextual -dsimp only [↓SD, SU, simprocAttr, -Nat.reduceMul, hlj, hrm, Aa, e3, hxa]
    intro u11
    refine Ae _ C1 ?_
    simp +contextual -dsimp only [↓SD, SU, simprocAttr, -Nat.reduceMul]
    first
     | exact ⟨by omega, Ah.le ⟨⟨j + 1⟩, ⟨hlj, (by first | omega | (simp only; omega))⟩, rfl⟩ (by simp +contextual -dsimp only [↓SD, SU, simprocAttr, -Nat.reduceMul, Int.natCast_add, an]) (by simp +contextual -dsimp only [↓SD, SU, simprocAttr, -Nat.reduceMul])⟩
     | (refine Ae _ C2 ?_
        simp +contextual -dsimp only [↓SD, SU, simprocAttr, -Nat.reduceMul]
        exact ⟨by omega, Ah.le ⟨⟨j + 1⟩, ⟨hlj, (by first | omega | (simp only; omega))⟩, rfl⟩ (by simp +contextual -dsimp only [↓SD, SU, simprocAttr, -Nat.reduceMul, Int.natCast_add, an]) (by simp +contextual -dsimp only [↓SD, SU, simprocAttr, -Nat.reduceMul])⟩)
  ·obtain rfl : j = r.AD.length := by omega
   rw [List.take_length]
   have hcm : ∀ hp, ((r.AD.map TsS.mk).map (av : TsS → AV)).map (AV.pur hp) = (r.AD.map TsS.mk).map av := fun hp => Ab _ hp
   cases hcl : r.AD.any (Dh t)
   all_goals
    rw [hcl] at ys
    simp only [Bool.false_eq_true, if_true, if_false, List.append_nil] at ys
    simp +contextual -dsimp only [↓SD, SU, simprocAttr, -Nat.reduceMul, Nat.lt_irrefl, hYl, hYt]
   ·exact ⟨⟨by omega, by unfold maxLen; omega⟩, fun a' => ⟨by omega, Ah.le ⟨⟨k + 1, a'⟩, ⟨hlk, (by first | omega | (simp only; omega))⟩, rfl⟩ (by simp +contextual -dsimp only [↓SD, SU, simprocAttr, -Nat.reduceMul, Int.natCast_add, ys, List.length_append]) (by simp +contextual -dsimp only [↓SD, SU, simprocAttr, -Nat.reduceMul, ys, List.map_append, Mg])⟩⟩
   ·exact ⟨by omega, Ah.le ⟨⟨k + 1, a⟩, ⟨hlk, (by first | omega | (simp only; omega))⟩, rfl⟩ (by simp +contextual -dsimp only [↓SD, SU, simprocAttr, -Nat.reduceMul, Int.natCast_add, ys]) (by simp +contextual -dsimp only [↓SD, SU, simprocAttr, -Nat.reduceMul, ys])⟩
 ·obtain rfl : k = R.length := by omega
  rw [List.take_length]
  obtain ⟨Z, hZ⟩ : ∃ Z, Z = noR R t := ⟨_, rfl⟩
  rw [← hZ]
  have hZm : ∀ hp, ((Z.map TrS.mk).map (av : TrS → AV)).map (AV.pur hp) = (Z.map TrS.mk).map av := fun hp => Ab _ hp
  have hZl : ((Z.map TrS.mk).map (av : TrS → AV)).length = Z.length := by simp
  have hZt : List.take Z.length ((Z.map TrS.mk).map (av : TrS → AV)) = (Z.map TrS.mk).map av := List.take_of_length_le (by simp)
  simp +contextual -dsimp only [↓SD, SU, simprocAttr, -Nat.reduceMul, Nat.lt_irrefl, hZm, hZl, hZt, Nat.le_refl]
end Go.Proofs.YteeiaaogmjbcjaaGreat
