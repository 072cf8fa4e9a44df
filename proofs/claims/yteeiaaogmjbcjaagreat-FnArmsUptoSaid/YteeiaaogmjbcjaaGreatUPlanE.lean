/-
 TESTS AND ROWS of the reference's tree of questions, by abstract texts. Conditions: none.
-/
import Derived.Test.YteeiaaogmjbcjaaGreatUPlanC
import Derived.Test.YteeiaaogmjbcjaaGreatUJ45
set_option linter.unusedVariables false
set_option linter.unusedSimpArgs false
set_option maxRecDepth 100000
namespace Go.Proofs.YteeiaaogmjbcjaaGreat
open Go.RowKit Go.Proofs.YteeiaaogmjbcjaaGreat.Av Go.Proofs.YteeiaaogmjbcjaaGreat.Ml
open Go.Proofs.YteeiaaogmjbcjaaGreat.Av.AVal (av)

structure TsS where
 t : Tst
structure TrS where
 r : BI
instance : AVal TsS := ⟨fun x => .agg [.sl (x.t.path.map av), .int .i64 x.t.kind, .int .i64 x.t.n, .str x.t.s, .bool x.t.has], 5, fun _ => rfl, fun _ => rfl, fun x y hy => by
 simp only [AV.cells, List.mem_cons, List.not_mem_nil, or_false] at hy
 rcases hy with rfl | rfl | rfl | rfl | rfl <;> first | exact Ap.int _ _ | exact Ap.str _ | exact Ap.bool _ | exact AD x.t.path, fun _ _ => rfl, fun x y hy => by
 simp only [AV.cells, List.mem_cons, List.not_mem_nil, or_false] at hy
 rcases hy with rfl | rfl | rfl | rfl | rfl <;> rfl⟩
theorem Fg (x : TsS) : av x = .agg [.sl (x.t.path.map av), .int .i64 x.t.kind, .int .i64 x.t.n, .str x.t.s, .bool x.t.has] := eqq rfl
instance : AVal TrS := ⟨fun x => .agg [.sl ((x.r.AA.map TsS.mk).map av), .int .i64 x.r.arm], 2, fun _ => rfl, fun _ => rfl, fun x y hy => by
 simp only [AV.cells, List.mem_cons, List.not_mem_nil, or_false] at hy
 rcases hy with rfl | rfl <;> first | exact Ap.int _ _ | exact AD (x.r.AA.map TsS.mk), fun _ _ => rfl, fun x y hy => by
 simp only [AV.cells, List.mem_cons, List.not_mem_nil, or_false] at hy
 rcases hy with rfl | rfl <;> rfl⟩
theorem K9 (x : TrS) : av x = .agg [.sl ((x.r.AA.map TsS.mk).map av), .int .i64 x.r.arm] := eqq rfl
theorem MV (a b : List Int) (ha : a.length ≤ 1099511627776) : AJ Tryz.prog 96 [.sl (a.map av), .sl (b.map av)] (.bool (decide (a = b))) := by
 refine E8.F rfl (by simp; exact ⟨AD a, AD b⟩) (Ap.bool _) ?_
 by_cases hl : a.length = b.length
 case neg =>
  have hne : ¬ a = b := fun h => hl (by rw [h])
  have hli : ¬ (a.length : Int) = b.length := by omega
  simp +contextual -dsimp only [↓SD, SU, simprocAttr, -Nat.reduceMul, E8, Aa, hl, hli, hne]
 have hli : (a.length : Int) = b.length := by omega
 simp +contextual -dsimp only [↓SD, SU, simprocAttr, -Nat.reduceMul, E8, Aa, hli]
 refine AG (X := Nat) (fun k => ⟨[(0, .sl (a.map av)), (1, .sl (b.map av)), (12, .int .i64 b.length), (13, .int .i64 k)], []⟩) (fun k => k ≤ b.length ∧ a.take k = b.take k) (fun k => b.length - k) 0 ⟨Nat.zero_le _, rfl⟩ (by simp +contextual -dsimp only [↓SD, SU, simprocAttr, -Nat.reduceMul]) trivial ?_
 rintro k ⟨hk, hp⟩
 by_cases hlt : k < b.length
 ·have hlta : k < a.length := by omega
  have e1 := getD_map av a k .top hlta
  have e2 := getD_map av b k .top hlt
  rw [Ae] at e1 e2
  by_cases he : a[k] = b[k]
  ·have hst := J0 hlta hlt hp he
   rw [he] at e1
   simp +contextual -dsimp only [↓SD, SU, simprocAttr, -Nat.reduceMul, hlt, hlta, e1, e2, Aa]
   refine ⟨by omega, Ai.le ⟨k + 1, ⟨⟨hlt, hst⟩, (by first | omega | (simp only; omega))⟩, rfl⟩ (by simp +contextual -dsimp only [↓SD, SU, simprocAttr, -Nat.reduceMul, Int.natCast_add]) trivial⟩
  ·have hne : ¬ a = b := fun h => he (by subst h; rfl)
   simp +contextual -dsimp only [↓SD, SU, simprocAttr, -Nat.reduceMul, hlt, hlta, e1, e2, he, hne, Aa]
 ·obtain rfl : k = b.length := by omega
  have hab : a = b := by
   rw [List.take_of_length_le (by omega), List.take_of_length_le (by omega)] at hp
   exact hp
  simp +contextual -dsimp only [↓SD, SU, simprocAttr, -Nat.reduceMul, Nat.lt_irrefl, hab]
theorem Lw (x t : Tst) : AJ Tryz.prog 97 [av (⟨x⟩ : TsS), av (⟨t⟩ : TsS)] (.bool (Eb x t)) := by
 refine C8.F rfl (by simp; exact ⟨AVal.clean (⟨x⟩ : TsS), AVal.clean (⟨t⟩ : TsS)⟩) (Ap.bool _) ?_
 unfold Eb
 by_cases h1 : x.kind = t.kind
 case neg => simp +contextual -dsimp only [↓SD, SU, simprocAttr, -Nat.reduceMul, C8, Fg, h1]
 by_cases h2 : x.n = t.n
 case neg => simp +contextual -dsimp only [↓SD, SU, simprocAttr, -Nat.reduceMul, C8, Fg, h1, h2]
 by_cases h3 : x.s = t.s
 case neg => simp +contextual -dsimp only [↓SD, SU, simprocAttr, -Nat.reduceMul, C8, Fg, h1, h2, h3]
 simp +contextual -dsimp only [↓SD, SU, simprocAttr, -Nat.reduceMul, C8, Fg, h1, h2, h3]
theorem av2 {a b : AV} (ha : Ap a) (hb : Ap b) : ∀ x ∈ [a, b], Ap x := fun x hx => by
 rcases List.mem_cons.1 hx with rfl | hx
 ·exact ha
 ·rw [List.mem_singleton.1 hx]; exact hb
structure YeO where
 k : Nat
 a : Nat
structure YeJ where
 j : Nat
 c : Nat
set_option maxHeartbeats 4000000 in
theorem XU (R : List BI) (t : Tst) (hR : R.length ≤ 1048576) (hin : RowsIn R) (hT : ∀ r ∈ R, r.AA.length ≤ 1048576) : AJ Tryz.prog 76 [.sl ((R.map TrS.mk).map av), av (⟨t⟩ : TsS)] (.sl (((BP R t).map TrS.mk).map av)) := by
 refine Io.F rfl (av2 (AD (R.map TrS.mk)) (AVal.clean (⟨t⟩ : TsS))) (AD _) ?_
 have hRm : (R.map TrS.mk).length = R.length := List.length_map _
 simp +contextual -dsimp only [↓SD, SU, simprocAttr, -Nat.reduceMul, Io, Fg]
 intro u12
 refine AG (X := YeO) (fun q => ⟨[(3, .obj [.sl (t.path.map av), .int .i64 t.kind, .int .i64 t.n, .str t.s, .bool t.has]), (5, .row 12 q.a (BP (R.take q.k) t).length), (13, .sl ((R.map TrS.mk).map av)), (14, .int .i64 R.length), (15, .int .i64 q.k)], [(12, ⟨q.a, false, 94, 2, ((BP (R.take q.k) t).map TrS.mk).map av⟩)]⟩) (fun q => q.k ≤ R.length) (fun q => R.length - q.k) ⟨0, u12⟩ (Nat.zero_le _) (by simp +contextual -dsimp only [↓SD, SU, simprocAttr, -Nat.reduceMul, List.take_zero, BP, List.filter_nil, List.length_map]) (by simp +contextual -dsimp only [↓SD, SU, simprocAttr, -Nat.reduceMul, List.take_zero, BP, List.filter_nil, List.map_nil]) ?_
 rintro ⟨k, a⟩ hk
 dsimp only at hk ⊢
 by_cases hlk : k < R.length
 ·have e2 : ((R.map TrS.mk).map (av : TrS → AV)).getD k .top = av (⟨R[k]⟩ : TrS) := by rw [getD_map av (R.map TrS.mk) k .top (by omega), List.getElem_map]
  have hrk : R[k] ∈ R := List.getElem_mem hlk
  have ys := Ol (R.take k) R[k] t
  rw [← List.take_succ_eq_append_getElem hlk] at ys
  have yl := Q1 (R.take k) t
  have hkl : (R.take k).length = k := by simp; omega
  rw [hkl] at yl
  have hinr := hin R[k] hrk
  have hTr := hT R[k] hrk
  generalize R[k] = r at *
  generalize BP (R.take k) t = Y at *
  have hra : av (⟨r⟩ : TrS) = .agg [.sl ((r.AA.map TsS.mk).map av), .int .i64 r.arm] := K9 _
  have hYl : ((Y.map TrS.mk).map (av : TrS → AV)).length = Y.length := by simp
  have hYt : List.take Y.length ((Y.map TrS.mk).map (av : TrS → AV)) = (Y.map TrS.mk).map av := List.take_of_length_le (by simp)
  simp +contextual -dsimp only [↓SD, SU, simprocAttr, -Nat.reduceMul, hlk, hRm, Aa, e2, hra]
  intro u7 u19
  refine AG (X := YeJ) (fun q => ⟨[(3, .obj [.sl (t.path.map av), .int .i64 t.kind, .int .i64 t.n, .str t.s, .bool t.has]), (5, .row 12 a Y.length), (7, .ptr 7 u7 0 0), (8, .bool (!(r.AA.take q.j).any (CR t))), (9, .row 19 q.c ((r.AA.take q.j).filter fun x => !Cf x t).length), (13, .sl ((R.map TrS.mk).map av)), (14, .int .i64 R.length), (15, .int .i64 k), (21, .sl ((r.AA.map TsS.mk).map av)), (22, .int .i64 r.AA.length), (23, .int .i64 q.j)], [(12, ⟨a, false, 94, 2, (Y.map TrS.mk).map av⟩), (7, ⟨u7, false, 94, 2, [.agg [.sl ((r.AA.map TsS.mk).map av), .int .i64 r.arm]]⟩), (19, ⟨q.c, false, 137, 5, (((r.AA.take q.j).filter fun x => !Cf x t).map TsS.mk).map av⟩)]⟩) (fun q => q.j ≤ r.AA.length) (fun q => r.AA.length - q.j) ⟨0, u19⟩ (Nat.zero_le _) (by simp +contextual -dsimp only [↓SD, SU, simprocAttr, -Nat.reduceMul, List.take_zero, List.filter_nil, List.any_nil, List.length_map]) (by simp +contextual -dsimp only [↓SD, SU, simprocAttr, -Nat.reduceMul, List.take_zero, List.filter_nil, List.map_nil]) ?_
  rintro ⟨j, c⟩ hj
  dsimp only at hj ⊢
  have hrm : (r.AA.map TsS.mk).length = r.AA.length := List.length_map _
  by_cases hlj : j < r.AA.length
  ·have e3 : ((r.AA.map TsS.mk).map (av : TsS → AV)).getD j .top = av (⟨r.AA[j]⟩ : TsS) := by rw [getD_map av (r.AA.map TsS.mk) j .top (by omega), List.getElem_map]
   have fs := G0 (p := fun x => !Cf x t) hlj
   have an := GC (p := CR t) hlj
   have hxp := hinr _ (List.getElem_mem hlj)
   have C1 : AJ Tryz.prog 96 [.sl (r.AA[j].path.map av), .sl (t.path.map av)] (.bool (Cf r.AA[j] t)) := MV r.AA[j].path t.path (by omega)
   have C2 := Lw r.AA[j] t
   have fl : ((r.AA.take j).filter fun x => !Cf x t).length ≤ j := by
    have h1 := List.length_filter_le (fun x => !Cf x t) (r.AA.take j)
    have h2 : (r.AA.take j).length = j := by simp; omega
    omega
   generalize hx : r.AA[j] = x at *
   generalize (r.AA.take j).filter (fun x => !Cf x t) = F at *
   generalize (r.AA.take j).any (CR t) = o at *
   have hct : CR t x = (Cf x t && !Eb x t) := rfl
   have hFl : ((F.map TsS.mk).map (av : TsS → AV)).length = F.length := by simp
   have hFt : List.take F.length ((F.map TsS.mk).map (av : TsS → AV)) = (F.map TsS.mk).map av := List.take_of_length_le (by simp)
   have hxa : av (⟨x⟩ : TsS) = _ := Fg _
   dsimp only at hxa
   rw [hct] at an
   rw [hxa, Fg] at C2
   dsimp only at C2
   cases hp : Cf x t <;> cases hb : Eb x t <;> cases o
   all_goals
    rw [hp] at C1 an fs
    rw [hb] at C2 an
    simp only [Bool.and_true, Bool.and_false, Bool.false_and, Bool.true_and, Bool.not_true, Bool.not_false, Bool.or_true, Bool.or_false, Bool.true_or, Bool.false_or, if_true, if_false, Bool.false_eq_true, List.append_nil] at an fs
    simp +contextual -dsimp only [↓SD, SU, simprocAttr, -Nat.reduceMul, hlj, hrm, Aa, e3, hxa]
    intro u11
    refine Ag _ C1 ?_
    simp +contextual -dsimp only [↓SD, SU, simprocAttr, -Nat.reduceMul, hFt, hFl]
    first
     | (refine ⟨⟨by omega, by unfold maxLen; omega⟩, fun c' => ?_⟩
        exact ⟨by omega, Ai.le ⟨⟨j + 1, c'⟩, ⟨hlj, (by first | omega | (simp only; omega))⟩, rfl⟩ (by simp +contextual -dsimp only [↓SD, SU, simprocAttr, -Nat.reduceMul, Int.natCast_add, an, fs, List.length_append]) (by simp +contextual -dsimp only [↓SD, SU, simprocAttr, -Nat.reduceMul, fs, List.map_append, hxa])⟩)
     | (refine Ag _ C2 ?_
        simp +contextual -dsimp only [↓SD, SU, simprocAttr, -Nat.reduceMul]
        exact ⟨by omega, Ai.le ⟨⟨j + 1, c⟩, ⟨hlj, (by first | omega | (simp only; omega))⟩, rfl⟩ (by simp +contextual -dsimp only [↓SD, SU, simprocAttr, -Nat.reduceMul, Int.natCast_add, an, fs]) (by simp +contextual -dsimp only [↓SD, SU, simprocAttr, -Nat.reduceMul, fs])⟩)
  ·obtain rfl : j = r.AA.length := by omega
   rw [List.take_length]
   obtain ⟨L, hL⟩ : ∃ L, L = r.AA.filter fun x => !Cf x t := ⟨_, rfl⟩
   have hys : (fun x => !Cf x t) = fun x => !Cf x t := rfl
   rw [← hL] at ys ⊢
   have hfm : ∀ hp, ((L.map TsS.mk).map (av : TsS → AV)).map (AV.pur hp) = (L.map TsS.mk).map av := fun hp => Ab _ hp
   have hfl : List.take L.length ((L.map TsS.mk).map (av : TsS → AV)) = (L.map TsS.mk).map av := List.take_of_length_le (by simp)
   have hLl : ((L.map TsS.mk).map (av : TsS → AV)).length = L.length := by simp
   cases hcl : r.AA.any (CR t)
   all_goals
    rw [hcl] at ys
    simp only [Bool.false_eq_true, if_true, if_false, List.append_nil] at ys
    simp +contextual -dsimp only [↓SD, SU, simprocAttr, -Nat.reduceMul, Nat.lt_irrefl]
    refine BM (Ai.frz 19 (Ai.pur 9 (Ai.here ?_)))
    simp +contextual -dsimp only [↓SD, SU, simprocAttr, -Nat.reduceMul, hfm, hfl, hLl, Nat.le_refl, hYl, hYt]
   ·exact ⟨⟨by omega, by unfold maxLen; omega⟩, fun a' => ⟨by omega, Ai.le ⟨⟨k + 1, a'⟩, ⟨hlk, (by first | omega | (simp only; omega))⟩, rfl⟩ (by simp +contextual -dsimp only [↓SD, SU, simprocAttr, -Nat.reduceMul, Int.natCast_add, ys, List.length_append]) (by simp +contextual -dsimp only [↓SD, SU, simprocAttr, -Nat.reduceMul, ys, List.map_append, K9])⟩⟩
   ·exact ⟨by omega, Ai.le ⟨⟨k + 1, a⟩, ⟨hlk, (by first | omega | (simp only; omega))⟩, rfl⟩ (by simp +contextual -dsimp only [↓SD, SU, simprocAttr, -Nat.reduceMul, Int.natCast_add, ys]) (by simp +contextual -dsimp only [↓SD, SU, simprocAttr, -Nat.reduceMul, ys])⟩
 ·obtain rfl : k = R.length := by omega
  rw [List.take_length]
  obtain ⟨Z, hZ⟩ : ∃ Z, Z = BP R t := ⟨_, rfl⟩
  rw [← hZ]
  have hZm : ∀ hp, ((Z.map TrS.mk).map (av : TrS → AV)).map (AV.pur hp) = (Z.map TrS.mk).map av := fun hp => Ab _ hp
  have hZl : ((Z.map TrS.mk).map (av : TrS → AV)).length = Z.length := by simp
  have hZt : List.take Z.length ((Z.map TrS.mk).map (av : TrS → AV)) = (Z.map TrS.mk).map av := List.take_of_length_le (by simp)
  simp +contextual -dsimp only [↓SD, SU, simprocAttr, -Nat.reduceMul, Nat.lt_irrefl, hZm, hZl, hZt, Nat.le_refl]
structure NoJ where
 j : Nat
set_option maxHeartbeats 4000000 in
theorem ZL (R : List BI) (t : Tst) (hR : R.length ≤ 1048576) (hin : RowsIn R) (hT : ∀ r ∈ R, r.AA.length ≤ 1048576) : AJ Tryz.prog 77 [.sl ((R.map TrS.mk).map av), av (⟨t⟩ : TsS)] (.sl (((noR R t).map TrS.mk).map av)) := by
 refine Jj.F rfl (av2 (AD (R.map TrS.mk)) (AVal.clean (⟨t⟩ : TsS))) (AD _) ?_
 have hRm : (R.map TrS.mk).length = R.length := List.length_map _
 simp +contextual -dsimp only [↓SD, SU, simprocAttr, -Nat.reduceMul, Jj, Fg]
 intro u12
 refine AG (X := YeO) (fun q => ⟨[(3, .obj [.sl (t.path.map av), .int .i64 t.kind, .int .i64 t.n, .str t.s, .bool t.has]), (5, .row 11 q.a (noR (R.take q.k) t).length), (12, .sl ((R.map TrS.mk).map av)), (13, .int .i64 R.length), (14, .int .i64 q.k)], [(11, ⟨q.a, false, 94, 2, ((noR (R.take q.k) t).map TrS.mk).map av⟩)]⟩) (fun q => q.k ≤ R.length) (fun q => R.length - q.k) ⟨0, u12⟩ (Nat.zero_le _) (by simp +contextual -dsimp only [↓SD, SU, simprocAttr, -Nat.reduceMul, List.take_zero, noR, List.filter_nil, List.length_map]) (by simp +contextual -dsimp only [↓SD, SU, simprocAttr, -Nat.reduceMul, List.take_zero, noR, List.filter_nil, List.map_nil]) ?_
 rintro ⟨k, a⟩ hk
 dsimp only at hk ⊢
 by_cases hlk : k < R.length
 ·have e2 : ((R.map TrS.mk).map (av : TrS → AV)).getD k .top = av (⟨R[k]⟩ : TrS) := by rw [getD_map av (R.map TrS.mk) k .top (by omega), List.getElem_map]
  have hrk : R[k] ∈ R := List.getElem_mem hlk
  have ys := Sc (R.take k) R[k] t
  rw [← List.take_succ_eq_append_getElem hlk] at ys
  have yl := Wn (R.take k) t
  have hkl : (R.take k).length = k := by simp; omega
  rw [hkl] at yl
  have hinr := hin R[k] hrk
  have hTr := hT R[k] hrk
  generalize R[k] = r at *
  generalize noR (R.take k) t = Y at *
  have hra : av (⟨r⟩ : TrS) = .agg [.sl ((r.AA.map TsS.mk).map av), .int .i64 r.arm] := K9 _
  have hYl : ((Y.map TrS.mk).map (av : TrS → AV)).length = Y.length := by simp
  have hYt : List.take Y.length ((Y.map TrS.mk).map (av : TrS → AV)) = (Y.map TrS.mk).map av := List.take_of_length_le (by simp)
  simp +contextual -dsimp only [↓SD, SU, simprocAttr, -Nat.reduceMul, hlk, hRm, Aa, e2, hra]
  intro u7
  refine AG (X := NoJ) (fun q => ⟨[(3, .obj [.sl (t.path.map av), .int .i64 t.kind, .int .i64 t.n, .str t.s, .bool t.has]), (5, .row 11 a Y.length), (7, .ptr 7 u7 0 0), (8, .bool (!(r.AA.take q.j).any (CV t))), (12, .sl ((R.map TrS.mk).map av)), (13, .int .i64 R.length), (14, .int .i64 k), (19, .sl ((r.AA.map TsS.mk).map av)), (20, .int .i64 r.AA.length), (21, .int .i64 q.j)], [(11, ⟨a, false, 94, 2, (Y.map TrS.mk).map av⟩), (7, ⟨u7, false, 94, 2, [.agg [.sl ((r.AA.map TsS.mk).map av), .int .i64 r.arm]]⟩)]⟩) (fun q => q.j ≤ r.AA.length) (fun q => r.AA.length - q.j) ⟨0⟩ (Nat.zero_le _) (by simp +contextual -dsimp only [↓SD, SU, simprocAttr, -Nat.reduceMul, List.take_zero, List.any_nil, List.length_map]) (by simp +contextual -dsimp only [↓SD, SU, simprocAttr, -Nat.reduceMul]) ?_
  rintro ⟨j⟩ hj
  dsimp only at hj ⊢
  have hrm : (r.AA.map TsS.mk).length = r.AA.length := List.length_map _
  by_cases hlj : j < r.AA.length
  ·have e3 : ((r.AA.map TsS.mk).map (av : TsS → AV)).getD j .top = av (⟨r.AA[j]⟩ : TsS) := by rw [getD_map av (r.AA.map TsS.mk) j .top (by omega), List.getElem_map]
   have an := GC (p := CV t) hlj
   have hxp := hinr _ (List.getElem_mem hlj)
   have C1 : AJ Tryz.prog 96 [.sl (r.AA[j].path.map av), .sl (t.path.map av)] (.bool (Cf r.AA[j] t)) := MV r.AA[j].path t.path (by omega)
   have C2 := Lw r.AA[j] t
   generalize hx : r.AA[j] = x at *
   generalize (r.AA.take j).any (CV t) = o at *
   have hct : CV t x = (Cf x t && Eb x t) := rfl
   have hxa : av (⟨x⟩ : TsS) = _ := Fg _
   dsimp only at hxa
   rw [hct] at an
   rw [hxa, Fg] at C2
   dsimp only at C2
   cases hp : Cf x t <;> cases hb : Eb x t <;> cases o
   all_goals
    rw [hp] at C1 an
    rw [hb] at C2 an
    simp only [Bool.and_true, Bool.and_false, Bool.false_and, Bool.true_and, Bool.not_true, Bool.not_false, Bool.or_true, Bool.or_false, Bool.true_or, Bool.false_or] at an
    simp +contextual -dsimp only [↓SD, SU, simprocAttr, -Nat.reduceMul, hlj, hrm, Aa, e3, hxa]
    intro u11
    refine Ag _ C1 ?_
    simp +contextual -dsimp only [↓SD, SU, simprocAttr, -Nat.reduceMul]
    first
     | exact ⟨by omega, Ai.le ⟨⟨j + 1⟩, ⟨hlj, (by first | omega | (simp only; omega))⟩, rfl⟩ (by simp +contextual -dsimp only [↓SD, SU, simprocAttr, -Nat.reduceMul, Int.natCast_add, an]) (by simp +contextual -dsimp only [↓SD, SU, simprocAttr, -Nat.reduceMul])⟩
     | (refine Ag _ C2 ?_
        simp +contextual -dsimp only [↓SD, SU, simprocAttr, -Nat.reduceMul]
        exact ⟨by omega, Ai.le ⟨⟨j + 1⟩, ⟨hlj, (by first | omega | (simp only; omega))⟩, rfl⟩ (by simp +contextual -dsimp only [↓SD, SU, simprocAttr, -Nat.reduceMul, Int.natCast_add, an]) (by simp +contextual -dsimp only [↓SD, SU, simprocAttr, -Nat.reduceMul])⟩)
  ·obtain rfl : j = r.AA.length := by omega
   rw [List.take_length]
   have hcm : ∀ hp, ((r.AA.map TsS.mk).map (av : TsS → AV)).map (AV.pur hp) = (r.AA.map TsS.mk).map av := fun hp => Ab _ hp
   cases hcl : r.AA.any (CV t)
   all_goals
    rw [hcl] at ys
    simp only [Bool.false_eq_true, if_true, if_false, List.append_nil] at ys
    simp +contextual -dsimp only [↓SD, SU, simprocAttr, -Nat.reduceMul, Nat.lt_irrefl, hYl, hYt]
   ·exact ⟨⟨by omega, by unfold maxLen; omega⟩, fun a' => ⟨by omega, Ai.le ⟨⟨k + 1, a'⟩, ⟨hlk, (by first | omega | (simp only; omega))⟩, rfl⟩ (by simp +contextual -dsimp only [↓SD, SU, simprocAttr, -Nat.reduceMul, Int.natCast_add, ys, List.length_append]) (by simp +contextual -dsimp only [↓SD, SU, simprocAttr, -Nat.reduceMul, ys, List.map_append, K9])⟩⟩
   ·exact ⟨by omega, Ai.le ⟨⟨k + 1, a⟩, ⟨hlk, (by first | omega | (simp only; omega))⟩, rfl⟩ (by simp +contextual -dsimp only [↓SD, SU, simprocAttr, -Nat.reduceMul, Int.natCast_add, ys]) (by simp +contextual -dsimp only [↓SD, SU, simprocAttr, -Nat.reduceMul, ys])⟩
 ·obtain rfl : k = R.length := by omega
  rw [List.take_length]
  obtain ⟨Z, hZ⟩ : ∃ Z, Z = noR R t := ⟨_, rfl⟩
  rw [← hZ]
  have hZm : ∀ hp, ((Z.map TrS.mk).map (av : TrS → AV)).map (AV.pur hp) = (Z.map TrS.mk).map av := fun hp => Ab _ hp
  have hZl : ((Z.map TrS.mk).map (av : TrS → AV)).length = Z.length := by simp
  have hZt : List.take Z.length ((Z.map TrS.mk).map (av : TrS → AV)) = (Z.map TrS.mk).map av := List.take_of_length_le (by simp)
  simp +contextual -dsimp only [↓SD, SU, simprocAttr, -Nat.reduceMul, Nat.lt_irrefl, hZm, hZl, hZt, Nat.le_refl]
end Go.Proofs.YteeiaaogmjbcjaaGreat
