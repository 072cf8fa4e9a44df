/-
  THE GROUND OF DATA, in one text. Conditions: none.
-/
import Derived.Test.YtohalepkikjinaaPackQ
import Derived.Test.YtohalepkikjinaaPackG
import Derived.Test.YtohalepkikjinaaFrz
import Derived.Test.YtohalepkikjinaaIrPlan
import Derived.Test.YtohalepkikjinaaPackM
import Derived.Test.YtohalepkikjinaaGlueR
import Derived.Test.YtohalepkikjinaaSPat
import Derived.Test.YtohalepkikjinaaPatOk
import Derived.Test.YtohalepkikjinaaGrowP

set_option linter.unusedVariables false
set_option linter.unusedSimpArgs false
set_option maxRecDepth 100000
namespace Go.Proofs.Ytohalepkikjinaa
open Go.RowKit Go.Proofs.Ytohalepkikjinaa.Av Go.Proofs.Ytohalepkikjinaa.Ml
open Go.Proofs.Ytohalepkikjinaa.Av.AVal (av)

instance : AVal Tst := ⟨fun x => .agg [.int .i64 0, .sl (x.path.map av), .int .i64 x.kind, .int .i64 x.n, .str x.s, .bool x.has, .int .i64 0, .int .i64 0], 8, fun _ => rfl, fun _ => rfl, fun x y hy => by
  simp only [AV.cells, List.mem_cons, List.not_mem_nil, or_false] at hy
  rcases hy with rfl | rfl | rfl | rfl | rfl | rfl | rfl | rfl <;> first | exact AvPure.int _ _ | exact AvPure.str _ | exact AvPure.bool _ | exact lav_clean x.path, fun _ _ => rfl, fun x y hy => by
  simp only [AV.cells, List.mem_cons, List.not_mem_nil, or_false] at hy
  rcases hy with rfl | rfl | rfl | rfl | rfl | rfl | rfl | rfl <;> rfl⟩
theorem av_Tst (x : Tst) : av x = .agg [.int .i64 0, .sl (x.path.map av), .int .i64 x.kind, .int .i64 x.n, .str x.s, .bool x.has, .int .i64 0, .int .i64 0] := eqq rfl
instance : AVal TRow := ⟨fun x => .agg [.sl (x.tests.map av), .int .i64 x.arm], 2, fun _ => rfl, fun _ => rfl, fun x y hy => by
  simp only [AV.cells, List.mem_cons, List.not_mem_nil, or_false] at hy
  rcases hy with rfl | rfl <;> first | exact AvPure.int _ _ | exact lav_clean x.tests, fun _ _ => rfl, fun x y hy => by
  simp only [AV.cells, List.mem_cons, List.not_mem_nil, or_false] at hy
  rcases hy with rfl | rfl <;> rfl⟩
theorem av_TRow (x : TRow) : av x = .agg [.sl (x.tests.map av), .int .i64 x.arm] := eqq rfl
theorem isWild_ok (q : Px) : CallsF Try.prog 41 [av q] (.bool (decide (q.hd.kind = 1) || decide (q.hd.kind = 2))) := by
  refine fun_impl_isWild rfl (by simp; exact AVal.clean q) (AvPure.bool _) ?_
  rw [av_px]
  by_cases h1 : q.hd.kind = 1
  · simp +contextual -dsimp (maxSteps := 2000000) only [↓SD, SU, SB, Nat.reduceAdd, Nat.reduceBEq, Nat.reduceEqDiff, Nat.reduceLeDiff, Nat.reduceLT, Nat.reduceSub, ↓reduceIte, zA, zI, zN, reduceCtorEq, Int.reduceToNat, zE, Int.reduceEq, Int.reduceLT, Int.reduceLE, Int.reduceNeg, Int.reduceAdd, Int.reduceSub, ir_impl_isWild, rs_impl_isWild, h1]
  · simp +contextual -dsimp (maxSteps := 2000000) only [↓SD, SU, SB, Nat.reduceAdd, Nat.reduceBEq, Nat.reduceEqDiff, Nat.reduceLeDiff, Nat.reduceLT, Nat.reduceSub, ↓reduceIte, zA, zI, zN, reduceCtorEq, Int.reduceToNat, zE, Int.reduceEq, Int.reduceLT, Int.reduceLE, Int.reduceNeg, Int.reduceAdd, Int.reduceSub, ir_impl_isWild, rs_impl_isWild, h1]
theorem take_eq_step {a b : List Int} {k : Nat} (ha : k < a.length) (hb : k < b.length) (h : a.take k = b.take k) (e : a[k] = b[k]) : a.take (k + 1) = b.take (k + 1) := by
  rw [List.take_succ_eq_append_getElem ha, List.take_succ_eq_append_getElem hb, h, e]
theorem EqualInt_ok (a b : List Int) (ha : a.length ≤ 1099511627776) : CallsF Try.prog 62 [.sl (a.map av), .sl (b.map av)] (.bool (decide (a = b))) := by
  refine fun_slices_Equal_int_int rfl (by simp; exact ⟨lav_clean a, lav_clean b⟩) (AvPure.bool _) ?_
  by_cases hl : a.length = b.length
  case neg =>
    have hne : ¬ a = b := fun h => hl (by rw [h])
    have hli : ¬ (a.length : Int) = b.length := by omega
    simp +contextual -dsimp (maxSteps := 2000000) only [↓SD, SU, SB, Nat.reduceAdd, Nat.reduceBEq, Nat.reduceEqDiff, Nat.reduceLeDiff, Nat.reduceLT, Nat.reduceSub, ↓reduceIte, zA, zI, zN, reduceCtorEq, Int.reduceToNat, zE, Int.reduceEq, Int.reduceLT, Int.reduceLE, Int.reduceNeg, Int.reduceAdd, Int.reduceSub, ir_slices_Equal_int_int, rs_slices_Equal_int_int, map_len, hl, hli, hne]
  have hli : (a.length : Int) = b.length := by omega
  simp +contextual -dsimp (maxSteps := 2000000) only [↓SD, SU, SB, Nat.reduceAdd, Nat.reduceBEq, Nat.reduceEqDiff, Nat.reduceLeDiff, Nat.reduceLT, Nat.reduceSub, ↓reduceIte, zA, zI, zN, reduceCtorEq, Int.reduceToNat, zE, Int.reduceEq, Int.reduceLT, Int.reduceLE, Int.reduceNeg, Int.reduceAdd, Int.reduceSub, ir_slices_Equal_int_int, rs_slices_Equal_int_int, map_len, hli]
  refine aLoop_of (X := Nat) (fun k => ⟨[(0, .sl (a.map av)), (1, .sl (b.map av)), (12, .int .i64 b.length), (13, .int .i64 k)], []⟩) (fun k => k ≤ b.length ∧ a.take k = b.take k) (fun k => b.length - k) 0 ⟨Nat.zero_le _, rfl⟩ (by simp +contextual -dsimp only [↓SD, SU, SB, Nat.reduceAdd, Nat.reduceBEq, Nat.reduceEqDiff, Nat.reduceLeDiff, Nat.reduceLT, Nat.reduceSub, ↓reduceIte, zA, zI, zN, reduceCtorEq, Int.reduceToNat, zE]) trivial ?_
  rintro k ⟨hk, hp⟩
  by_cases hlt : k < b.length
  · have hlta : k < a.length := by omega
    have e1 := getD_map av a k .top hlta
    have e2 := getD_map av b k .top hlt
    rw [av_int] at e1 e2
    by_cases he : a[k] = b[k]
    · have hst := take_eq_step hlta hlt hp he
      rw [he] at e1
      simp +contextual -dsimp (maxSteps := 2000000) only [↓SD, SU, SB, Nat.reduceAdd, Nat.reduceBEq, Nat.reduceEqDiff, Nat.reduceLeDiff, Nat.reduceLT, Nat.reduceSub, ↓reduceIte, zA, zI, zN, reduceCtorEq, Int.reduceToNat, zE, Int.reduceEq, Int.reduceLT, Int.reduceLE, Int.reduceNeg, Int.reduceAdd, Int.reduceSub, hlt, hlta, e1, e2, map_len]
      refine ⟨by omega, Goes.le ⟨k + 1, ⟨⟨hlt, hst⟩, (by first | omega | (simp only; omega))⟩, rfl⟩ (by simp +contextual -dsimp only [↓SD, SU, SB, Nat.reduceAdd, Nat.reduceBEq, Nat.reduceEqDiff, Nat.reduceLeDiff, Nat.reduceLT, Nat.reduceSub, ↓reduceIte, zA, zI, zN, reduceCtorEq, Int.reduceToNat, zE, Int.natCast_add]) trivial⟩
    · have hne : ¬ a = b := fun h => he (by subst h; rfl)
      simp +contextual -dsimp (maxSteps := 2000000) only [↓SD, SU, SB, Nat.reduceAdd, Nat.reduceBEq, Nat.reduceEqDiff, Nat.reduceLeDiff, Nat.reduceLT, Nat.reduceSub, ↓reduceIte, zA, zI, zN, reduceCtorEq, Int.reduceToNat, zE, Int.reduceEq, Int.reduceLT, Int.reduceLE, Int.reduceNeg, Int.reduceAdd, Int.reduceSub, hlt, hlta, e1, e2, he, hne, map_len]
  · obtain rfl : k = b.length := by omega
    have hab : a = b := by
      rw [List.take_of_length_le (by omega), List.take_of_length_le (by omega)] at hp
      exact hp
    simp +contextual -dsimp (maxSteps := 2000000) only [↓SD, SU, SB, Nat.reduceAdd, Nat.reduceBEq, Nat.reduceEqDiff, Nat.reduceLeDiff, Nat.reduceLT, Nat.reduceSub, ↓reduceIte, zA, zI, zN, reduceCtorEq, Int.reduceToNat, zE, Int.reduceEq, Int.reduceLT, Int.reduceLE, Int.reduceNeg, Int.reduceAdd, Int.reduceSub, Nat.lt_irrefl, hab]
theorem samePart_ok (x t : Tst) (hx : x.path.length ≤ 1099511627776) : CallsF Try.prog 44 [av x, av t] (.bool (pathT x t)) := by
  refine fun_impl_samePart rfl (by simp; exact ⟨AVal.clean x, AVal.clean t⟩) (AvPure.bool _) ?_
  simp +contextual -dsimp (maxSteps := 2000000) only [↓SD, SU, SB, Nat.reduceAdd, Nat.reduceBEq, Nat.reduceEqDiff, Nat.reduceLeDiff, Nat.reduceLT, Nat.reduceSub, ↓reduceIte, zA, zI, zN, reduceCtorEq, Int.reduceToNat, zE, Int.reduceEq, Int.reduceLT, Int.reduceLE, Int.reduceNeg, Int.reduceAdd, Int.reduceSub, ir_impl_samePart, rs_impl_samePart, av_Tst]
  refine aCallK_of _ (EqualInt_ok x.path t.path hx) ?_
  simp +contextual -dsimp (maxSteps := 2000000) only [↓SD, SU, SB, Nat.reduceAdd, Nat.reduceBEq, Nat.reduceEqDiff, Nat.reduceLeDiff, Nat.reduceLT, Nat.reduceSub, ↓reduceIte, zA, zI, zN, reduceCtorEq, Int.reduceToNat, zE, Int.reduceEq, Int.reduceLT, Int.reduceLE, Int.reduceNeg, Int.reduceAdd, Int.reduceSub]
  rfl
theorem sameTest_ok (x t : Tst) (hx : x.path.length ≤ 1099511627776) : CallsF Try.prog 43 [av x, av t] (.bool (sameT t x)) := by
  have C := samePart_ok x t hx
  refine fun_impl_sameTest rfl (by simp; exact ⟨AVal.clean x, AVal.clean t⟩) (AvPure.bool _) ?_
  unfold sameT beginT
  rw [av_Tst, av_Tst] at C
  cases hp : pathT x t
  · rw [hp] at C
    simp +contextual -dsimp (maxSteps := 2000000) only [↓SD, SU, SB, Nat.reduceAdd, Nat.reduceBEq, Nat.reduceEqDiff, Nat.reduceLeDiff, Nat.reduceLT, Nat.reduceSub, ↓reduceIte, zA, zI, zN, reduceCtorEq, Int.reduceToNat, zE, Int.reduceEq, Int.reduceLT, Int.reduceLE, Int.reduceNeg, Int.reduceAdd, Int.reduceSub, ir_impl_sameTest, rs_impl_sameTest, av_Tst]
    refine aCallK_of _ C ?_
    simp +contextual -dsimp (maxSteps := 2000000) only [↓SD, SU, SB, Nat.reduceAdd, Nat.reduceBEq, Nat.reduceEqDiff, Nat.reduceLeDiff, Nat.reduceLT, Nat.reduceSub, ↓reduceIte, zA, zI, zN, reduceCtorEq, Int.reduceToNat, zE, Int.reduceEq, Int.reduceLT, Int.reduceLE, Int.reduceNeg, Int.reduceAdd, Int.reduceSub]
  rw [hp] at C
  simp +contextual -dsimp (maxSteps := 2000000) only [↓SD, SU, SB, Nat.reduceAdd, Nat.reduceBEq, Nat.reduceEqDiff, Nat.reduceLeDiff, Nat.reduceLT, Nat.reduceSub, ↓reduceIte, zA, zI, zN, reduceCtorEq, Int.reduceToNat, zE, Int.reduceEq, Int.reduceLT, Int.reduceLE, Int.reduceNeg, Int.reduceAdd, Int.reduceSub, ir_impl_sameTest, rs_impl_sameTest, av_Tst]
  refine aCallK_of _ C ?_
  by_cases h1 : x.kind = t.kind
  case neg => simp +contextual -dsimp (maxSteps := 2000000) only [↓SD, SU, SB, Nat.reduceAdd, Nat.reduceBEq, Nat.reduceEqDiff, Nat.reduceLeDiff, Nat.reduceLT, Nat.reduceSub, ↓reduceIte, zA, zI, zN, reduceCtorEq, Int.reduceToNat, zE, Int.reduceEq, Int.reduceLT, Int.reduceLE, Int.reduceNeg, Int.reduceAdd, Int.reduceSub, h1]
  by_cases h2 : x.n = t.n
  case neg => simp +contextual -dsimp (maxSteps := 2000000) only [↓SD, SU, SB, Nat.reduceAdd, Nat.reduceBEq, Nat.reduceEqDiff, Nat.reduceLeDiff, Nat.reduceLT, Nat.reduceSub, ↓reduceIte, zA, zI, zN, reduceCtorEq, Int.reduceToNat, zE, Int.reduceEq, Int.reduceLT, Int.reduceLE, Int.reduceNeg, Int.reduceAdd, Int.reduceSub, h1, h2]
  by_cases h3 : x.s = t.s
  case neg => simp +contextual -dsimp (maxSteps := 2000000) only [↓SD, SU, SB, Nat.reduceAdd, Nat.reduceBEq, Nat.reduceEqDiff, Nat.reduceLeDiff, Nat.reduceLT, Nat.reduceSub, ↓reduceIte, zA, zI, zN, reduceCtorEq, Int.reduceToNat, zE, Int.reduceEq, Int.reduceLT, Int.reduceLE, Int.reduceNeg, Int.reduceAdd, Int.reduceSub, h1, h2, h3]
  simp +contextual -dsimp (maxSteps := 2000000) only [↓SD, SU, SB, Nat.reduceAdd, Nat.reduceBEq, Nat.reduceEqDiff, Nat.reduceLeDiff, Nat.reduceLT, Nat.reduceSub, ↓reduceIte, zA, zI, zN, reduceCtorEq, Int.reduceToNat, zE, Int.reduceEq, Int.reduceLT, Int.reduceLE, Int.reduceNeg, Int.reduceAdd, Int.reduceSub, h1, h2, h3]
def CloneP (l : List Int) (r : AV) (hp' : Hp) : Prop := (l = [] ∧ r = .nils ∧ hp' = []) ∨ ∃ v, r = .row 5 v l.length ∧ hp' = [(5, ⟨v, false, 3, 1, l.map av⟩)]
theorem CloneIntH_ok (l : List Int) (hl : l.length ≤ 1048576) : CallsH Try.prog 45 [.sl (l.map av)] [] (CloneP l) := by
  refine funH_slices_Clone_int_int rfl ?_
  simp +contextual -dsimp (maxSteps := 2000000) only [↓SD, SU, SB, Nat.reduceAdd, Nat.reduceBEq, Nat.reduceEqDiff, Nat.reduceLeDiff, Nat.reduceLT, Nat.reduceSub, ↓reduceIte, zA, zI, zN, reduceCtorEq, Int.reduceToNat, zE, ir_slices_Clone_int_int, rs_slices_Clone_int_int, map_len]
  refine ⟨fun h => ?_, fun v => ⟨⟨?_, by omega, by unfold maxLen; omega⟩, fun u => ?_⟩⟩
  · refine Goes.post [] ?_
    simp +contextual -dsimp (maxSteps := 2000000) only [↓SD, SU, SB, Nat.reduceAdd, Nat.reduceBEq, Nat.reduceEqDiff, Nat.reduceLeDiff, Nat.reduceLT, Nat.reduceSub, ↓reduceIte, zA, zI, zN, reduceCtorEq, Int.reduceToNat, zE]
    exact .inl ⟨by simpa using h, rfl, rfl⟩
  · rintro y hy
    rw [map_nop] at hy
    obtain ⟨x, _, rfl⟩ := List.mem_map.1 hy
    exact AVal.len x
  · rw [map_nop]
    refine Goes.post [(5, ⟨u, false, 3, 1, l.map av⟩)] ?_
    simp +contextual -dsimp (maxSteps := 2000000) only [↓SD, SU, SB, Nat.reduceAdd, Nat.reduceBEq, Nat.reduceEqDiff, Nat.reduceLeDiff, Nat.reduceLT, Nat.reduceSub, ↓reduceIte, zA, zI, zN, reduceCtorEq, Int.reduceToNat, zE, map_nop, map_len]
    exact .inr ⟨u, rfl, rfl⟩
def GrowP (r : AV) (hp' : Hp) : Prop := ∃ v E, r = .row 22 v 0 ∧ hp' = [(22, ⟨v, false, 3, 1, E⟩)]
theorem GrowInt_ok (n : Int) (h0 : 0 < n) (h1 : n ≤ 1048576) : CallsH Try.prog 61 [.nils, .int .i64 n] [] GrowP := by
  refine funH_slices_Grow_int_int rfl ?_
  have hn : ¬ n < 0 := by omega
  have hz : n - 0 = n := by omega
  simp +contextual -dsimp (maxSteps := 2000000) only [↓SD, SU, SB, Nat.reduceAdd, Nat.reduceBEq, Nat.reduceEqDiff, Nat.reduceLeDiff, Nat.reduceLT, Nat.reduceSub, ↓reduceIte, zA, zI, zN, reduceCtorEq, Int.reduceToNat, zE, Int.reduceEq, Int.reduceLT, Int.reduceLE, Int.reduceNeg, Int.reduceAdd, Int.reduceSub, ir_slices_Grow_int_int, rs_slices_Grow_int_int, hn, h0, hz, Int.sub_zero]
  (repeat' (first | intro _ | refine And.intro ?_ ?_))
  all_goals first | omega | skip
  rename_i v
  refine Goes.post [(22, ⟨v, false, 3, 1, List.replicate n.toNat (.int .i64 0)⟩)] ?_
  simp +contextual -dsimp (maxSteps := 2000000) only [↓SD, SU, SB, Nat.reduceAdd, Nat.reduceBEq, Nat.reduceEqDiff, Nat.reduceLeDiff, Nat.reduceLT, Nat.reduceSub, ↓reduceIte, zA, zI, zN, reduceCtorEq, Int.reduceToNat, zE]
  exact ⟨v, _, rfl, rfl⟩
def ConcP (l : List Int) (r : AV) (hp' : Hp) : Prop := r = .sl (l.map av)
structure CcS where
  k : Nat
  u : Nat
  n : Nat
  E : List AV
def CcI (p : List Int) (i : Int) (x : CcS) : Prop := (x.k = 0 ∧ x.n = 0) ∨ (x.k = 1 ∧ x.n = p.length ∧ x.E = p.map av) ∨ (x.k = 2 ∧ x.n = p.length + 1 ∧ x.E = (p ++ [i]).map av)
def CcJ (p : List Int) (x : Nat × Int) : Prop := (x.1 = 0 ∧ x.2 = 0) ∨ (x.1 = 1 ∧ x.2 = p.length) ∨ (x.1 = 2 ∧ x.2 = (p.length : Int) + 1)
theorem ConcatH_ok (p : List Int) (i : Int) (hl : p.length ≤ 1048000) : CallsH Try.prog 42 [.sl [.sl (p.map av), .sl [.int .i64 i]]] [] (ConcP (p ++ [i])) := by
  refine funH_slices_Concat_int_int rfl ?_
  have CG := GrowInt_ok ((p.length : Int) + 1) (by omega) (by omega)
  simp +contextual -dsimp (maxSteps := 2000000) only [↓SD, SU, SB, Nat.reduceAdd, Nat.reduceBEq, Nat.reduceEqDiff, Nat.reduceLeDiff, Nat.reduceLT, Nat.reduceSub, ↓reduceIte, zA, zI, zN, reduceCtorEq, Int.reduceToNat, zE, Int.reduceEq, Int.reduceLT, Int.reduceLE, Int.reduceNeg, Int.reduceAdd, Int.reduceSub, ir_slices_Concat_int_int, rs_slices_Concat_int_int]
  refine aLoop_of (X := Nat × Int) (fun x => ⟨[(0, .sl [.sl (p.map av), .sl [.int .i64 i]]), (3, .int .i64 x.2), (9, .sl [.sl (p.map av), .sl [.int .i64 i]]), (10, .int .i64 2), (11, .int .i64 x.1)], []⟩) (CcJ p) (fun x => 2 - x.1) (0, 0) (.inl ⟨rfl, rfl⟩) (by simp +contextual -dsimp only [↓SD, SU, SB, Nat.reduceAdd, Nat.reduceBEq, Nat.reduceEqDiff, Nat.reduceLeDiff, Nat.reduceLT, Nat.reduceSub, ↓reduceIte, zA, zI, zN, reduceCtorEq, Int.reduceToNat, zE]) trivial ?_
  rintro ⟨k, z⟩ (⟨rfl, rfl⟩ | ⟨rfl, rfl⟩ | ⟨rfl, rfl⟩)
  · simp +contextual -dsimp (maxSteps := 2000000) only [↓SD, SU, SB, Nat.reduceAdd, Nat.reduceBEq, Nat.reduceEqDiff, Nat.reduceLeDiff, Nat.reduceLT, Nat.reduceSub, ↓reduceIte, zA, zI, zN, reduceCtorEq, Int.reduceToNat, zE, Int.reduceEq, Int.reduceLT, Int.reduceLE, Int.reduceNeg, Int.reduceAdd, Int.reduceSub, map_len]
    have hg : ¬ (p.length : Int) < 0 := by omega
    simp +contextual -dsimp (maxSteps := 2000000) only [↓SD, SU, SB, Nat.reduceAdd, Nat.reduceBEq, Nat.reduceEqDiff, Nat.reduceLeDiff, Nat.reduceLT, Nat.reduceSub, ↓reduceIte, zA, zI, zN, reduceCtorEq, Int.reduceToNat, zE, Int.reduceEq, Int.reduceLT, Int.reduceLE, Int.reduceNeg, Int.reduceAdd, Int.reduceSub, hg, Int.zero_add]
    (repeat' (first | intro _ | refine And.intro ?_ ?_))
    all_goals first | omega | skip
    exact Goes.le ⟨(1, (p.length : Int)), ⟨.inr (.inl ⟨rfl, rfl⟩), by simp only; omega⟩, rfl⟩ (by simp +contextual -dsimp only [↓SD, SU, SB, Nat.reduceAdd, Nat.reduceBEq, Nat.reduceEqDiff, Nat.reduceLeDiff, Nat.reduceLT, Nat.reduceSub, ↓reduceIte, zA, zI, zN, reduceCtorEq, Int.reduceToNat, zE, Int.zero_add]) trivial
  · have hg : ¬ (p.length : Int) + 1 < 0 := by omega
    simp +contextual -dsimp (maxSteps := 2000000) only [↓SD, SU, SB, Nat.reduceAdd, Nat.reduceBEq, Nat.reduceEqDiff, Nat.reduceLeDiff, Nat.reduceLT, Nat.reduceSub, ↓reduceIte, zA, zI, zN, reduceCtorEq, Int.reduceToNat, zE, Int.reduceEq, Int.reduceLT, Int.reduceLE, Int.reduceNeg, Int.reduceAdd, Int.reduceSub, map_len, hg]
    (repeat' (first | intro _ | refine And.intro ?_ ?_))
    all_goals first | omega | skip
    exact Goes.le ⟨(2, (p.length : Int) + 1), ⟨.inr (.inr ⟨rfl, rfl⟩), by simp only; omega⟩, rfl⟩ (by simp +contextual -dsimp only [↓SD, SU, SB, Nat.reduceAdd, Nat.reduceBEq, Nat.reduceEqDiff, Nat.reduceLeDiff, Nat.reduceLT, Nat.reduceSub, ↓reduceIte, zA, zI, zN, reduceCtorEq, Int.reduceToNat, zE, Int.reduceAdd]) trivial
  simp +contextual -dsimp (maxSteps := 2000000) only [↓SD, SU, SB, Nat.reduceAdd, Nat.reduceBEq, Nat.reduceEqDiff, Nat.reduceLeDiff, Nat.reduceLT, Nat.reduceSub, ↓reduceIte, zA, zI, zN, reduceCtorEq, Int.reduceToNat, zE, Int.reduceEq, Int.reduceLT, Int.reduceLE, Int.reduceNeg, Int.reduceAdd, Int.reduceSub]
  refine aCallH_of [] CG (by simp +contextual -dsimp only [↓SD, SU, SB, Nat.reduceAdd, Nat.reduceBEq, Nat.reduceEqDiff, Nat.reduceLeDiff, Nat.reduceLT, Nat.reduceSub, ↓reduceIte, zA, zI, zN, reduceCtorEq, Int.reduceToNat, zE]) ?_
  rintro r hp' ⟨v, E, rfl, rfl⟩
  simp +contextual -dsimp (maxSteps := 2000000) only [↓SD, SU, SB, Nat.reduceAdd, Nat.reduceBEq, Nat.reduceEqDiff, Nat.reduceLeDiff, Nat.reduceLT, Nat.reduceSub, ↓reduceIte, zA, zI, zN, reduceCtorEq, Int.reduceToNat, zE, Int.reduceEq, Int.reduceLT, Int.reduceLE, Int.reduceNeg, Int.reduceAdd, Int.reduceSub]
  refine aLoop_of (X := CcS) (fun x => ⟨[(6, .row 22 x.u x.n), (25, .sl [.sl (p.map av), .sl [.int .i64 i]]), (26, .int .i64 2), (27, .int .i64 x.k)], [(22, ⟨x.u, false, 3, 1, x.E⟩)]⟩) (CcI p i) (fun x => 2 - x.k) ⟨0, v, 0, E⟩ (.inl ⟨rfl, rfl⟩) (by simp +contextual -dsimp only [↓SD, SU, SB, Nat.reduceAdd, Nat.reduceBEq, Nat.reduceEqDiff, Nat.reduceLeDiff, Nat.reduceLT, Nat.reduceSub, ↓reduceIte, zA, zI, zN, reduceCtorEq, Int.reduceToNat, zE]) (by simp +contextual -dsimp only [↓SD, SU, SB, Nat.reduceAdd, Nat.reduceBEq, Nat.reduceEqDiff, Nat.reduceLeDiff, Nat.reduceLT, Nat.reduceSub, ↓reduceIte, zA, zI, zN, reduceCtorEq, Int.reduceToNat, zE]) ?_
  rintro ⟨k, u, n, E⟩ (⟨rfl, rfl⟩ | ⟨rfl, rfl, rfl⟩ | ⟨rfl, rfl, rfl⟩)
  · simp +contextual -dsimp (maxSteps := 2000000) only [↓SD, SU, SB, Nat.reduceAdd, Nat.reduceBEq, Nat.reduceEqDiff, Nat.reduceLeDiff, Nat.reduceLT, Nat.reduceSub, ↓reduceIte, zA, zI, zN, reduceCtorEq, Int.reduceToNat, zE, Int.reduceEq, Int.reduceLT, Int.reduceLE, Int.reduceNeg, Int.reduceAdd, Int.reduceSub, map_len, map_nop]
    refine ⟨⟨fun y hy => (by obtain ⟨x, _, rfl⟩ := List.mem_map.1 hy; exact AVal.len x), by omega, by unfold maxLen; omega⟩, fun w => ?_⟩
    exact Goes.le ⟨⟨1, w, p.length, p.map av⟩, ⟨.inr (.inl ⟨rfl, rfl, rfl⟩), by simp only; omega⟩, rfl⟩ (by simp +contextual -dsimp only [↓SD, SU, SB, Nat.reduceAdd, Nat.reduceBEq, Nat.reduceEqDiff, Nat.reduceLeDiff, Nat.reduceLT, Nat.reduceSub, ↓reduceIte, zA, zI, zN, reduceCtorEq, Int.reduceToNat, zE, Int.zero_add]) (by simp +contextual -dsimp only [↓SD, SU, SB, Nat.reduceAdd, Nat.reduceBEq, Nat.reduceEqDiff, Nat.reduceLeDiff, Nat.reduceLT, Nat.reduceSub, ↓reduceIte, zA, zI, zN, reduceCtorEq, Int.reduceToNat, zE])
  · have ht : List.take p.length (p.map (av : Int → AV)) = p.map av := List.take_of_length_le (by simp)
    simp +contextual -dsimp (maxSteps := 2000000) only [↓SD, SU, SB, Nat.reduceAdd, Nat.reduceBEq, Nat.reduceEqDiff, Nat.reduceLeDiff, Nat.reduceLT, Nat.reduceSub, ↓reduceIte, zA, zI, zN, reduceCtorEq, Int.reduceToNat, zE, Int.reduceEq, Int.reduceLT, Int.reduceLE, Int.reduceNeg, Int.reduceAdd, Int.reduceSub, map_len, map_nop, ht]
    refine ⟨⟨by omega, by unfold maxLen; omega⟩, fun w => ?_⟩
    exact Goes.le ⟨⟨2, w, p.length + 1, (p ++ [i]).map av⟩, ⟨.inr (.inr ⟨rfl, rfl, rfl⟩), by simp only; omega⟩, rfl⟩ (by simp +contextual -dsimp only [↓SD, SU, SB, Nat.reduceAdd, Nat.reduceBEq, Nat.reduceEqDiff, Nat.reduceLeDiff, Nat.reduceLT, Nat.reduceSub, ↓reduceIte, zA, zI, zN, reduceCtorEq, Int.reduceToNat, zE, Int.reduceAdd]) (by simp +contextual -dsimp only [↓SD, SU, SB, Nat.reduceAdd, Nat.reduceBEq, Nat.reduceEqDiff, Nat.reduceLeDiff, Nat.reduceLT, Nat.reduceSub, ↓reduceIte, zA, zI, zN, reduceCtorEq, Int.reduceToNat, zE, List.map_append, av_int])
  · simp +contextual -dsimp (maxSteps := 2000000) only [↓SD, SU, SB, Nat.reduceAdd, Nat.reduceBEq, Nat.reduceEqDiff, Nat.reduceLeDiff, Nat.reduceLT, Nat.reduceSub, ↓reduceIte, zA, zI, zN, reduceCtorEq, Int.reduceToNat, zE, Int.reduceEq, Int.reduceLT, Int.reduceLE, Int.reduceNeg, Int.reduceAdd, Int.reduceSub]
    have hln : ((p ++ [i]).map (av : Int → AV)).length = p.length + 1 := by simp
    have ht : List.take (p.length + 1) ((p ++ [i]).map (av : Int → AV)) = (p ++ [i]).map av := List.take_of_length_le (by simp)
    refine Goes.post [] ?_
    simp +contextual -dsimp (maxSteps := 2000000) only [↓SD, SU, SB, Nat.reduceAdd, Nat.reduceBEq, Nat.reduceEqDiff, Nat.reduceLeDiff, Nat.reduceLT, Nat.reduceSub, ↓reduceIte, zA, zI, zN, reduceCtorEq, Int.reduceToNat, zE, map_nop, hln, ht, Nat.le_refl]
    rfl
theorem Concat_ok (p : List Int) (i : Int) (hl : p.length ≤ 1048000) : CallsF Try.prog 42 [.sl [.sl (p.map av), .sl [.int .i64 i]]] (.sl ((p ++ [i]).map av)) := by
  refine callsF_of_H (ConcatH_ok p i hl) (by
    simp only [List.mem_singleton, forall_eq]
    refine AvPure.sl fun e he x hx => ?_
    simp only [List.mem_cons, List.not_mem_nil, or_false] at he
    rcases he with rfl | rfl
    · simp only [AV.cells, List.mem_singleton] at hx; subst hx; exact lav_clean p
    · simp only [AV.cells, List.mem_singleton] at hx; subst hx
      exact lav_clean [i]) (lav_clean _) ?_
  exact fun r hp' h => .inl h
end Go.Proofs.Ytohalepkikjinaa


set_option linter.unusedVariables false
set_option linter.unusedSimpArgs false
set_option maxRecDepth 100000
namespace Go.Proofs.Ytohalepkikjinaa
open Go.RowKit Go.Proofs.Ytohalepkikjinaa.Av Go.Proofs.Ytohalepkikjinaa.Ml
open Go.Proofs.Ytohalepkikjinaa.Av.AVal (av)

theorem callsF_nil {P : Go.Program} {f : FuncId} {args : List AV} (h : CallsF P f args .nils) : CallsF P f args (.sl []) := ⟨h.1, h.2.1, fun S w vs h1 h2 => (h.2.2 S w vs h1 h2).mono fun e w' ⟨v, he, hv, hb⟩ => ⟨v, he, by cases hv; exact .sl0 none 0 (Nat.zero_le _), hb⟩⟩
theorem vrs_nil_arg {S : Nat → Prop} {w : World} {μ : Mu} {vs : List Value} {a b : List AV} (h : VRs S w μ vs (a ++ .nils :: b)) : VRs S w μ vs (a ++ .sl [] :: b) := by
  refine ⟨by rw [h.1]; simp, fun i v x p q => ?_⟩
  by_cases hi : i = a.length
  · subst hi
    rw [List.getElem?_append_right (Nat.le_refl _), Nat.sub_self] at q
    cases q
    have h0 := h.2 a.length v .nils p (by rw [List.getElem?_append_right (Nat.le_refl _), Nat.sub_self]; rfl)
    cases h0
    exact .sl0 none 0 (Nat.zero_le _)
  · refine h.2 i v x p ?_
    rw [List.getElem?_append] at q ⊢
    split
    · rename_i hlt; rw [if_pos hlt] at q; exact q
    · rename_i hlt
      rw [if_neg hlt] at q
      obtain ⟨k, hk⟩ : ∃ k, i - a.length = k + 1 := ⟨i - a.length - 1, by omega⟩
      rw [hk] at q ⊢
      exact q
/-- what takes an empty slice takes nil -/
theorem callsF_argNil {P : Go.Program} {f : FuncId} {a b : List AV} {r : AV} (h : CallsF P f (a ++ .sl [] :: b) r) : CallsF P f (a ++ .nils :: b) r := ⟨h.1, fun x hx => by
  rcases List.mem_append.1 hx with hx | hx
  · exact h.2.1 x (List.mem_append.2 (.inl hx))
  · rcases List.mem_cons.1 hx with rfl | hx
    · exact AvPure.nils
    · exact h.2.1 x (List.mem_append.2 (.inr (List.mem_cons_of_mem _ hx))), fun S w vs h1 h2 => h.2.2 S w vs h1 (vrs_nil_arg h2)⟩
structure TeS where
  j : Nat
  u : Nat
theorem testsOf_ok : ∀ (q : Px) (p : List Int), pxN q + p.length ≤ 1048000 → CallsF Try.prog 21 [av q, .sl (p.map av)] (.sl ((testsX q p).map av)) := by
  refine Px.ind fun n ks ih p hb => ?_
  have CW := isWild_ok (.mk n ks)
  rw [av_Px] at CW
  by_cases hw : n.kind = 1 ∨ n.kind = 2
  · have ht : testsX (.mk n ks) p = [] := by rw [testsX, if_pos hw]
    rw [ht]
    refine callsF_nil ?_
    have hwb : (decide ((Px.mk n ks).hd.kind = 1) || decide ((Px.mk n ks).hd.kind = 2)) = true := by rw [Bool.or_eq_true, decide_eq_true_eq, decide_eq_true_eq]; exact hw
    rw [hwb] at CW
    refine fun_impl_testsOf rfl (by simp; exact ⟨AVal.clean _, lav_clean p⟩) AvPure.nils ?_
    simp +contextual -dsimp (maxSteps := 2000000) only [↓SD, SU, SB, Nat.reduceAdd, Nat.reduceBEq, Nat.reduceEqDiff, Nat.reduceLeDiff, Nat.reduceLT, Nat.reduceSub, ↓reduceIte, zA, zI, zN, reduceCtorEq, Int.reduceToNat, zE, Int.reduceEq, Int.reduceLT, Int.reduceLE, Int.reduceNeg, Int.reduceAdd, Int.reduceSub, ir_impl_testsOf, rs_impl_testsOf, av_Px]
    refine aCallK_of _ CW ?_
    simp +contextual -dsimp (maxSteps := 2000000) only [↓SD, SU, SB, Nat.reduceAdd, Nat.reduceBEq, Nat.reduceEqDiff, Nat.reduceLeDiff, Nat.reduceLT, Nat.reduceSub, ↓reduceIte, zA, zI, zN, reduceCtorEq, Int.reduceToNat, zE, Int.reduceEq, Int.reduceLT, Int.reduceLE, Int.reduceNeg, Int.reduceAdd, Int.reduceSub]
  have ht : testsX (.mk n ks) p = ⟨p, n.kind, n.n, n.s, decide (n.kind = 4) && decide (0 < ks.length)⟩ :: testsXs ks p 0 := by rw [testsX, if_neg hw]
  have hwb : (decide ((Px.mk n ks).hd.kind = 1) || decide ((Px.mk n ks).hd.kind = 2)) = false := by rw [Bool.or_eq_false_iff, decide_eq_false_iff_not, decide_eq_false_iff_not]; exact ⟨fun h => hw (.inl h), fun h => hw (.inr h)⟩
  rw [hwb] at CW
  rw [ht]
  have hkl := pxNs_len ks
  rw [pxN] at hb
  have hlen := fun j => testsXs_len (ks := ks.take j) (fun k _ p => testsX_len k p) p 0
  refine fun_impl_testsOf rfl (by simp; exact ⟨AVal.clean _, lav_clean p⟩) (lav_clean _) ?_
  have hcase : (n.kind = 4 ∧ (0 < ks.length ∨ ks.length = 0)) ∨ (¬ n.kind = 4 ∧ True) := by
    by_cases h4 : n.kind = 4
    · exact .inl ⟨h4, by omega⟩
    · exact .inr ⟨h4, trivial⟩
  obtain ⟨hs, hhs⟩ : ∃ hs, hs = (decide (n.kind = 4) && decide (0 < ks.length)) := ⟨_, rfl⟩
  rw [← hhs]
  obtain ⟨t0, ht0⟩ : ∃ t0 : Tst, t0 = ⟨p, n.kind, n.n, n.s, hs⟩ := ⟨_, rfl⟩
  have hav : av t0 = .agg [.int .i64 0, .sl (p.map av), .int .i64 n.kind, .int .i64 n.n, .str n.s, .bool hs, .int .i64 0, .int .i64 0] := by rw [ht0, av_Tst]
  rw [← ht0]
  rcases hcase with ⟨h4, h0⟩ | ⟨h4, -⟩
  case' inl =>
    have hsz : hs = decide (0 < ks.length) := by rw [hhs]; simp [h4]
    have hdi : decide ((0 : Int) < (ks.length : Int)) = hs := by rw [hsz]; simp
    simp +contextual -dsimp (maxSteps := 2000000) only [↓SD, SU, SB, Nat.reduceAdd, Nat.reduceBEq, Nat.reduceEqDiff, Nat.reduceLeDiff, Nat.reduceLT, Nat.reduceSub, ↓reduceIte, zA, zI, zN, reduceCtorEq, Int.reduceToNat, zE, Int.reduceEq, Int.reduceLT, Int.reduceLE, Int.reduceNeg, Int.reduceAdd, Int.reduceSub, ir_impl_testsOf, rs_impl_testsOf, av_Px]
    refine aCallK_of _ CW ?_
    simp +contextual -dsimp (maxSteps := 2000000) only [↓SD, SU, SB, Nat.reduceAdd, Nat.reduceBEq, Nat.reduceEqDiff, Nat.reduceLeDiff, Nat.reduceLT, Nat.reduceSub, ↓reduceIte, zA, zI, zN, reduceCtorEq, Int.reduceToNat, zE, Int.reduceEq, Int.reduceLT, Int.reduceLE, Int.reduceNeg, Int.reduceAdd, Int.reduceSub, map_len, h4]
    have F1 := h4
    have F2 := hdi
  case' inr =>
    have hsz : hs = false := by rw [hhs]; simp [h4]
    simp +contextual -dsimp (maxSteps := 2000000) only [↓SD, SU, SB, Nat.reduceAdd, Nat.reduceBEq, Nat.reduceEqDiff, Nat.reduceLeDiff, Nat.reduceLT, Nat.reduceSub, ↓reduceIte, zA, zI, zN, reduceCtorEq, Int.reduceToNat, zE, Int.reduceEq, Int.reduceLT, Int.reduceLE, Int.reduceNeg, Int.reduceAdd, Int.reduceSub, ir_impl_testsOf, rs_impl_testsOf, av_Px]
    refine aCallK_of _ CW ?_
    simp +contextual -dsimp (maxSteps := 2000000) only [↓SD, SU, SB, Nat.reduceAdd, Nat.reduceBEq, Nat.reduceEqDiff, Nat.reduceLeDiff, Nat.reduceLT, Nat.reduceSub, ↓reduceIte, zA, zI, zN, reduceCtorEq, Int.reduceToNat, zE, Int.reduceEq, Int.reduceLT, Int.reduceLE, Int.reduceNeg, Int.reduceAdd, Int.reduceSub, map_len, h4]
    have F1 := hsz
    have F2 := hsz
  all_goals
    intro v
    refine aLoop_of (X := TeS) (fun q => ⟨[(1, .sl (p.map av)), (5, .row 37 q.u (1 + (testsXs (ks.take q.j) p 0).length)), (41, .sl (ks.map av)), (42, .int .i64 ks.length), (43, .int .i64 q.j)], [(37, ⟨q.u, false, 75, 8, av t0 :: (testsXs (ks.take q.j) p 0).map av⟩)]⟩) (fun q => q.j ≤ ks.length) (fun q => ks.length - q.j) ⟨0, v⟩ (Nat.zero_le _) (by simp +contextual -dsimp only [↓SD, SU, SB, Nat.reduceAdd, Nat.reduceBEq, Nat.reduceEqDiff, Nat.reduceLeDiff, Nat.reduceLT, Nat.reduceSub, ↓reduceIte, zA, zI, zN, reduceCtorEq, Int.reduceToNat, zE, List.take_zero, testsXs]) (by simp +contextual -dsimp only [↓SD, SU, SB, Nat.reduceAdd, Nat.reduceBEq, Nat.reduceEqDiff, Nat.reduceLeDiff, Nat.reduceLT, Nat.reduceSub, ↓reduceIte, zA, zI, zN, reduceCtorEq, Int.reduceToNat, zE, List.take_zero, testsXs, hav, F1, F2]) ?_
    clear F1 F2
    rintro ⟨j, u⟩ hj
    dsimp only at hj ⊢
    by_cases hlt : j < ks.length
    · have e1 := getD_map av ks j .top hlt
      have b2 := pxNs_take ks j hlt
      have hst : testsXs (ks.take (j + 1)) p 0 = testsXs (ks.take j) p 0 ++ testsX ks[j] (p ++ [(j : Int)]) := by
        have hjl : (ks.take j).length = j := by simp; omega
        rw [List.take_succ_eq_append_getElem hlt, testsXs_snoc, hjl, Nat.zero_add]
      have l1 := hlen j
      have l2 := testsX_len ks[j] (p ++ [(j : Int)])
      have CC := Concat_ok p j (by omega)
      have CT := ih ks[j] (List.getElem_mem hlt) (p ++ [(j : Int)]) (by simp only [List.length_append, List.length_cons, List.length_nil]; omega)
      generalize testsX ks[j] (p ++ [(j : Int)]) = Y at *
      generalize testsXs (ks.take j) p 0 = X at *
      generalize hq : ks[j] = kq at *
      have hXl : (av t0 :: X.map av).length = 1 + X.length := by simp; omega
      have hXt : List.take (1 + X.length) (av t0 :: X.map av) = av t0 :: X.map av := List.take_of_length_le (by simp; omega)
      have hXc : ∀ Z : List AV, (av t0 :: X.map (av : Tst → AV)) ++ Z = av t0 :: (X.map av ++ Z) := fun _ => rfl
      obtain ⟨W, hW⟩ : ∃ W, W = av t0 :: X.map (av : Tst → AV) := ⟨_, rfl⟩
      rw [← hW] at hXl hXt hXc ⊢
      simp +contextual -dsimp (maxSteps := 2000000) only [↓SD, SU, SB, Nat.reduceAdd, Nat.reduceBEq, Nat.reduceEqDiff, Nat.reduceLeDiff, Nat.reduceLT, Nat.reduceSub, ↓reduceIte, zA, zI, zN, reduceCtorEq, Int.reduceToNat, zE, Int.reduceEq, Int.reduceLT, Int.reduceLE, Int.reduceNeg, Int.reduceAdd, Int.reduceSub, hlt, e1, px_cells, px_pur, px_pur1, px_purA, px_one, px_ok, map_len, map_nop]
      refine aCallK_of _ CC ?_
      simp +contextual -dsimp (maxSteps := 2000000) only [↓SD, SU, SB, Nat.reduceAdd, Nat.reduceBEq, Nat.reduceEqDiff, Nat.reduceLeDiff, Nat.reduceLT, Nat.reduceSub, ↓reduceIte, zA, zI, zN, reduceCtorEq, Int.reduceToNat, zE, Int.reduceEq, Int.reduceLT, Int.reduceLE, Int.reduceNeg, Int.reduceAdd, Int.reduceSub, px_purA, map_nop]
      refine aCallK_of _ CT ?_
      simp +contextual -dsimp (maxSteps := 2000000) only [↓SD, SU, SB, Nat.reduceAdd, Nat.reduceBEq, Nat.reduceEqDiff, Nat.reduceLeDiff, Nat.reduceLT, Nat.reduceSub, ↓reduceIte, zA, zI, zN, reduceCtorEq, Int.reduceToNat, zE, Int.reduceEq, Int.reduceLT, Int.reduceLE, Int.reduceNeg, Int.reduceAdd, Int.reduceSub, hXl, hXt, map_nop, map_len]
      refine ⟨⟨fun y hy => (by obtain ⟨x, _, rfl⟩ := List.mem_map.1 hy; exact AVal.len x), by omega, by unfold maxLen; omega⟩, fun w => ⟨by omega, Goes.le ⟨⟨j + 1, w⟩, ⟨hlt, (by first | omega | (simp only; omega))⟩, rfl⟩ (by simp +contextual -dsimp only [↓SD, SU, SB, Nat.reduceAdd, Nat.reduceBEq, Nat.reduceEqDiff, Nat.reduceLeDiff, Nat.reduceLT, Nat.reduceSub, ↓reduceIte, zA, zI, zN, reduceCtorEq, Int.reduceToNat, zE, Int.natCast_add, hst, List.length_append, Nat.add_assoc]) (by simp +contextual -dsimp only [↓SD, SU, SB, Nat.reduceAdd, Nat.reduceBEq, Nat.reduceEqDiff, Nat.reduceLeDiff, Nat.reduceLT, Nat.reduceSub, ↓reduceIte, zA, zI, zN, reduceCtorEq, Int.reduceToNat, zE, hst, List.map_append, hXc])⟩⟩
    · obtain rfl : j = ks.length := by omega
      rw [List.take_length]
      have hXl : (av t0 :: (testsXs ks p 0).map (av : Tst → AV)).length = 1 + (testsXs ks p 0).length := by simp; omega
      have hfin : (t0 :: testsXs ks p 0).map (av : Tst → AV) = av t0 :: (testsXs ks p 0).map av := rfl
      rw [← hfin] at hXl ⊢
      generalize t0 :: testsXs ks p 0 = Z at *
      have hZt : List.take (1 + (testsXs ks p 0).length) (Z.map (av : Tst → AV)) = Z.map av := List.take_of_length_le (by omega)
      simp +contextual -dsimp (maxSteps := 2000000) only [↓SD, SU, SB, Nat.reduceAdd, Nat.reduceBEq, Nat.reduceEqDiff, Nat.reduceLeDiff, Nat.reduceLT, Nat.reduceSub, ↓reduceIte, zA, zI, zN, reduceCtorEq, Int.reduceToNat, zE, Int.reduceEq, Int.reduceLT, Int.reduceLE, Int.reduceNeg, Int.reduceAdd, Int.reduceSub, Nat.lt_irrefl, map_nop, hXl, hZt, Nat.le_refl]
end Go.Proofs.Ytohalepkikjinaa


set_option linter.unusedVariables false
set_option linter.unusedSimpArgs false
set_option maxRecDepth 100000
namespace Go.Proofs.Ytohalepkikjinaa
open Go.RowKit Go.Proofs.Ytohalepkikjinaa.Av Go.Proofs.Ytohalepkikjinaa.Ml
open Go.Proofs.Ytohalepkikjinaa.Av.AVal (av)
open OVal (ov oh on)

theorem goes_cut {s : St} {T : St → Prop} (t : St) (h1 : frLe s.fr t.fr) (h2 : hpLe s.hp t.hp) (h : Goes t T) : Goes s T := ⟨fun E nt a w hr => let ⟨u, hT, hu⟩ := (Goes.le (T := fun u => u = t) rfl h1 h2).run E nt a w hr; by subst hT; exact h.run E nt a w hu⟩
theorem CloneO_ok (nm : Nat) (l : List Int) (hl : l.length ≤ 1048576) : CallsH Try.prog 45 [.sl (l.map av)] [] (ToPost nm l) := by
  refine callsH_goes (CloneIntH_ok l hl) ?_
  rintro r hp' (⟨rfl, rfl, rfl⟩ | ⟨v, rfl, rfl⟩)
  · refine Goes.new 0 nm 3 1 rfl fun u => ?_
    refine Goes.le (t := ⟨[(0, .row nm u 0)], [(nm, ⟨u, false, 3, 1, []⟩)]⟩) ⟨fun _ => u, rfl, rfl⟩ (by simp +contextual -dsimp only [↓SD, SU, SB, Nat.reduceAdd, Nat.reduceBEq, Nat.reduceEqDiff, Nat.reduceLeDiff, Nat.reduceLT, Nat.reduceSub, ↓reduceIte, zA, zI, zN, reduceCtorEq, Int.reduceToNat, zE]) ⟨hg_eq, trivial⟩
  · refine Goes.ren 0 5 nm (v := v) (n := l.length) rfl hg_eq rfl fun v' => ?_
    refine Goes.le (t := ⟨[(0, .row nm v' l.length)], [(nm, ⟨v', false, 3, 1, l.map av⟩)]⟩) ⟨fun _ => v', rfl, by rw [oh_ints]⟩ (by simp +contextual -dsimp only [↓SD, SU, SB, Nat.reduceAdd, Nat.reduceBEq, Nat.reduceEqDiff, Nat.reduceLeDiff, Nat.reduceLT, Nat.reduceSub, ↓reduceIte, zA, zI, zN, reduceCtorEq, Int.reduceToNat, zE]) ⟨hg_eq, trivial⟩
theorem yesR_snoc (l : List TRow) (r : TRow) (t : Tst) : yesR (l ++ [r]) t = yesR l t ++ (if r.tests.any (clashT t) = true then [] else [⟨r.tests.filter fun x => !pathT x t, r.arm⟩]) := by
  unfold yesR
  rw [List.filter_append, List.map_append]
  congr 1
  by_cases h : r.tests.any (clashT t) = true
  · rw [if_pos h, List.filter_cons_of_neg (by simp [h])]; rfl
  · rw [if_neg h, List.filter_cons_of_pos (by simpa using h)]; rfl
theorem noR_snoc (l : List TRow) (r : TRow) (t : Tst) : noR (l ++ [r]) t = noR l t ++ (if r.tests.any (sameT t) = true then [] else [r]) := by
  unfold noR
  rw [List.filter_append]
  congr 1
  by_cases h : r.tests.any (sameT t) = true
  · rw [if_pos h, List.filter_cons_of_neg (by simp [h])]; rfl
  · rw [if_neg h, List.filter_cons_of_pos (by simpa using h)]; rfl
theorem yesR_len (l : List TRow) (t : Tst) : (yesR l t).length ≤ l.length := by unfold yesR; rw [List.length_map]; exact List.length_filter_le _ _
theorem noR_len (l : List TRow) (t : Tst) : (noR l t).length ≤ l.length := List.length_filter_le _ _
/-- rows within bounds -/
def RowsIn (rows : List TRow) : Prop := ∀ r ∈ rows, ∀ t ∈ r.tests, t.path.length ≤ 1000000
theorem RowsIn.yes {rows : List TRow} (h : RowsIn rows) (t : Tst) : RowsIn (yesR rows t) := fun r hr x hx => by
  unfold yesR at hr
  obtain ⟨q, hq, rfl⟩ := List.mem_map.1 hr
  exact h q (List.mem_filter.1 hq).1 x (List.mem_filter.1 hx).1
theorem RowsIn.no {rows : List TRow} (h : RowsIn rows) (t : Tst) : RowsIn (noR rows t) := fun r hr x hx => h r (List.mem_filter.1 hr).1 x hx
theorem wt_len (rows : List TRow) : rows.length ≤ wtR rows := by
  unfold wtR
  induction rows with
  | nil => simp
  | cons r rs ih => simp only [List.map_cons, List.sum_cons, List.length_cons]; omega
theorem wt_mem {rows : List TRow} {r : TRow} (h : r ∈ rows) : r.tests.length ≤ wtR rows := by
  unfold wtR
  induction rows with
  | nil => cases h
  | cons q rs ih =>
    simp only [List.map_cons, List.sum_cons]
    rcases List.mem_cons.1 h with rfl | h
    · omega
    · have := ih h; omega
def nodesR (k w : Nat) : AV := if k = 0 then .nils else .row 36 w k
def nodesB (k w : Nat) (es : List AV) : Hp := if k = 0 then [] else [(36, ⟨w, false, 75, 8, es⟩)]
def plantB (v k w : Nat) : Nat × Box := (35, ⟨v, false, 60, 1, [.agg [nodesR k w]]⟩)
def PlantPost (nm v : Nat) (G : List AV) (P : List Ask) (r : AV) (hp' : Hp) : Prop := ∃ w vs, r = .int .i64 G.length ∧ hp' = plantB v (G.length + P.length) w :: (nodesB (G.length + P.length) w (G ++ ovL nm vs G.length P) ++ ohL nm vs G.length P)
structure PlO where
  k : Nat
  a : Nat
  b : Nat
  w : Nat
structure PlJ where
  j : Nat
  c : Nat
theorem filter_take_step {p : Tst → Bool} {l : List Tst} {j : Nat} (h : j < l.length) : (l.take (j + 1)).filter p = (l.take j).filter p ++ (if p l[j] = true then [l[j]] else []) := by
  rw [List.take_succ_eq_append_getElem h, List.filter_append]
  congr 1
  by_cases hp : p l[j] = true
  · rw [if_pos hp, List.filter_cons_of_pos hp]; rfl
  · rw [if_neg hp, List.filter_cons_of_neg (by simpa using hp)]; rfl
theorem any_take_step {p : Tst → Bool} {l : List Tst} {j : Nat} (h : j < l.length) : (l.take (j + 1)).any p = ((l.take j).any p || p l[j]) := by
  rw [List.take_succ_eq_append_getElem h, List.any_append]; simp
theorem nodesB_le {s : Hp} {k u : Nat} {es : List AV} (h : hget s 36 = hget (nodesB k u es) 36) : hpLe s (nodesB k u es) := by
  unfold nodesB at *
  split
  · trivial
  · rename_i hk
    rw [if_neg hk] at h
    exact ⟨h, trivial⟩
theorem leaf_goes (nm v : Nat) (G : List AV) (arm : Int) (w' : Nat) (s : St) (h4 : fget s.fr 4 = .int .i64 G.length) (h35 : hget s.hp 35 = some ⟨v, false, 60, 1, [.agg [.row 36 w' (G.length + 1)]]⟩)
    (h36 : hget s.hp 36 = some ⟨w', false, 75, 8, G ++ [.agg [.int .i64 arm, .nils, .int .i64 0, .int .i64 0, .str (bs []), .bool false, .int .i64 0, .int .i64 0]]⟩) :
    Goes s (PostH [.t 4] (PlantPost nm v G [⟨arm, [], 0, 0, bs [], false, 0, 0⟩])) := by
  have hg : (G ++ [AV.agg [.int .i64 arm, .nils, .int .i64 0, .int .i64 0, .str (bs []), .bool false, .int .i64 0, .int .i64 0]]).getD G.length .top = .agg [.int .i64 arm, .nils, .int .i64 0, .int .i64 0, .str (bs []), .bool false, .int .i64 0, .int .i64 0] := by simp [List.getD_eq_getElem?_getD]
  have hs : ∀ x, (G ++ [AV.agg [.int .i64 arm, .nils, .int .i64 0, .int .i64 0, .str (bs []), .bool false, .int .i64 0, .int .i64 0]]).set G.length x = G ++ [x] := fun x => by simp
  refine Goes.adoptB 36 G.length 1 (sub (sub nm G.length) 0) 3 1 h36 rfl (by simp) (by rw [hg]; rfl) (fun e => by have := sub_ge (sub nm G.length) 0; omega) fun u => ?_
  have hK : ∀ q, q < 10000 → (sub (sub nm G.length) 0 = q) = False := fun q hq => propext ⟨fun e => by have := sub_ge (sub nm G.length) 0; omega, False.elim⟩
  obtain ⟨E, hE⟩ : ∃ E : List AV, E = G ++ [.agg [.int .i64 arm, .row (sub (sub nm G.length) 0) u 0, .int .i64 0, .int .i64 0, .str (bs []), .bool false, .int .i64 0, .int .i64 0]] := ⟨_, rfl⟩
  have hEs : (G ++ [AV.agg [.int .i64 arm, .nils, .int .i64 0, .int .i64 0, .str (bs []), .bool false, .int .i64 0, .int .i64 0]]).set G.length (((G ++ [AV.agg [.int .i64 arm, .nils, .int .i64 0, .int .i64 0, .str (bs []), .bool false, .int .i64 0, .int .i64 0]]).getD G.length .top).setc 1 [.row (sub (sub nm G.length) 0) u 0]) = E := by rw [hg, hs, hE]; rfl
  dsimp only
  rw [hEs]
  obtain ⟨H, hH⟩ : ∃ H, H = ((sub (sub nm G.length) 0, (⟨u, false, 3, 1, []⟩ : Box)) :: (36, (⟨w', false, 75, 8, E⟩ : Box)) :: s.hp : Hp) := ⟨_, rfl⟩
  rw [← hH]
  rw [hE] at hH
  have g35 : hget H 35 = some ⟨v, false, 60, 1, [.agg [.row 36 w' (G.length + 1)]]⟩ := by rw [hH, hg_ne (fun e => by have := sub_ge (sub nm G.length) 0; omega), hg_ne (by decide)]; exact h35
  have g36 : hget H 36 = some ⟨w', false, 75, 8, G ++ [.agg [.int .i64 arm, .row (sub (sub nm G.length) 0) u 0, .int .i64 0, .int .i64 0, .str (bs []), .bool false, .int .i64 0, .int .i64 0]]⟩ := by
    rw [hH, hg_ne (fun e => by have := sub_ge (sub nm G.length) 0; omega)]; exact hg_eq
  have gK : hget H (sub (sub nm G.length) 0) = some ⟨u, false, 3, 1, []⟩ := by rw [hH]; exact hg_eq
  refine Goes.post (plantB v (G.length + 1) w' :: (nodesB (G.length + 1) w' (G ++ ovL nm (fun _ => u) G.length [(⟨arm, [], 0, 0, bs [], false, 0, 0⟩ : Ask)]) ++ ohL nm (fun _ => u) G.length [(⟨arm, [], 0, 0, bs [], false, 0, 0⟩ : Ask)])) ?_
  have e1 : nodesR (G.length + 1) w' = .row 36 w' (G.length + 1) := if_neg (by omega)
  have e2 : ∀ es, nodesB (G.length + 1) w' es = [(36, ⟨w', false, 75, 8, es⟩)] := fun _ => if_neg (by omega)
  have e3 : ovL nm (fun _ => u) G.length [(⟨arm, [], 0, 0, bs [], false, 0, 0⟩ : Ask)] = [.agg [.int .i64 arm, .row (sub (sub nm G.length) 0) u 0, .int .i64 0, .int .i64 0, .str (bs []), .bool false, .int .i64 0, .int .i64 0]] := rfl
  have e4 : ohL nm (fun _ => u) G.length [(⟨arm, [], 0, 0, bs [], false, 0, 0⟩ : Ask)] = [(sub (sub nm G.length) 0, ⟨u, false, 3, 1, []⟩)] := by
    simp only [ohL, oh_Ask, oh_ints, List.map_nil, List.append_nil]
  have hpp : plantB v (G.length + 1) w' :: (nodesB (G.length + 1) w' (G ++ ovL nm (fun _ => u) G.length [(⟨arm, [], 0, 0, bs [], false, 0, 0⟩ : Ask)]) ++ ohL nm (fun _ => u) G.length [(⟨arm, [], 0, 0, bs [], false, 0, 0⟩ : Ask)]) = [(35, ⟨v, false, 60, 1, [.agg [.row 36 w' (G.length + 1)]]⟩), (36, ⟨w', false, 75, 8, G ++ [.agg [.int .i64 arm, .row (sub (sub nm G.length) 0) u 0, .int .i64 0, .int .i64 0, .str (bs []), .bool false, .int .i64 0, .int .i64 0]]⟩), (sub (sub nm G.length) 0, ⟨u, false, 3, 1, []⟩)] := by
    rw [e2, e3, e4, plantB, e1]; rfl
  have hpost : PlantPost nm v G [⟨arm, [], 0, 0, bs [], false, 0, 0⟩] (.int .i64 G.length) (plantB v (G.length + 1) w' :: (nodesB (G.length + 1) w' (G ++ ovL nm (fun _ => u) G.length [(⟨arm, [], 0, 0, bs [], false, 0, 0⟩ : Ask)]) ++ ohL nm (fun _ => u) G.length [(⟨arm, [], 0, 0, bs [], false, 0, 0⟩ : Ask)])) := ⟨w', fun _ => u, rfl, rfl⟩
  rw [hpp] at hpost ⊢
  simp +contextual -dsimp (maxSteps := 2000000) only [↓SD, SU, SB, Nat.reduceAdd, Nat.reduceBEq, Nat.reduceEqDiff, Nat.reduceLeDiff, Nat.reduceLT, Nat.reduceSub, ↓reduceIte, zA, zI, zN, reduceCtorEq, Int.reduceToNat, zE, g35, g36, gK, h4]
  exact hpost
set_option maxHeartbeats 4000000 in
theorem plant_ok (nm v : Nat) : ∀ (f : Nat) (rows : List TRow) (G : List AV) (w : Nat), wtR rows < f → wtR rows ≤ 1048576 → RowsIn rows → G.length ≤ 401 →
    CallsH Try.prog 23 [.ptr 35 v 0 0, .sl (rows.map av)] (plantB v G.length w :: nodesB G.length w G) (PlantPost nm v G (planX f G.length rows)) := by
  intro f
  induction f with
  | zero => intro rows G w h; omega
  | succ f ih =>
    intro rows G w hf hwt hin hG
    refine funH_impl_planter_plant rfl ?_
    have hwl := wt_len rows
    by_cases hbig : 400 < G.length
    · have hP : planX (f + 1) G.length rows = [] := by rw [planX, if_pos hbig]
      rw [hP]
      have hk : ¬ G.length = 0 := by omega
      have hbi : (400 : Int) < (G.length : Int) := by omega
      have r1 : nodesR G.length w = .row 36 w G.length := if_neg hk
      have r2 : nodesB G.length w G = [(36, ⟨w, false, 75, 8, G⟩)] := if_neg hk
      unfold plantB
      rw [r1, r2]
      simp +contextual -dsimp (maxSteps := 2000000) only [↓SD, SU, SB, Nat.reduceAdd, Nat.reduceBEq, Nat.reduceEqDiff, Nat.reduceLeDiff, Nat.reduceLT, Nat.reduceSub, ↓reduceIte, zA, zI, zN, reduceCtorEq, Int.reduceToNat, zE, Int.reduceEq, Int.reduceLT, Int.reduceLE, Int.reduceNeg, Int.reduceAdd, Int.reduceSub, ir_impl_planter_plant, rs_impl_planter_plant, hbi]
      refine Goes.post [(35, ⟨v, false, 60, 1, [.agg [.row 36 w G.length]]⟩), (36, ⟨w, false, 75, 8, G⟩)] ?_
      simp +contextual -dsimp (maxSteps := 2000000) only [↓SD, SU, SB, Nat.reduceAdd, Nat.reduceBEq, Nat.reduceEqDiff, Nat.reduceLeDiff, Nat.reduceLT, Nat.reduceSub, ↓reduceIte, zA, zI, zN, reduceCtorEq, Int.reduceToNat, zE, false_and]
      refine ⟨w, fun _ => 0, rfl, ?_⟩
      simp [plantB, nodesR, nodesB, hk, ovL, ohL]
    have hP : planX (f + 1) G.length rows = planS (planX f) G.length rows := by rw [planX, if_neg hbig]
    rw [hP]
    have hbi : ¬ (400 : Int) < (G.length : Int) := by omega
    have hlt : List.take G.length G = G := List.take_length
    have hlen0 : aLen false (nodesR G.length w) = fun K => K (.int .i64 G.length) := by
      funext K
      unfold nodesR
      by_cases hk : G.length = 0
      · rw [if_pos hk, hk]; simp [aLen]
      · rw [if_neg hk]; simp [aLen]
    cases rows with
    | nil =>
      have e0 : planS (planX f) G.length [] = [⟨-1, [], 0, 0, bs [], false, 0, 0⟩] := rfl
      rw [e0]
      by_cases hk : G.length = 0
      · have r1 : nodesR G.length w = .nils := if_pos hk
        have r2 : nodesB G.length w G = [] := if_pos hk
        have hG0 : G = [] := List.eq_nil_of_length_eq_zero hk
        unfold plantB
        rw [r1, r2]
        subst hG0
        simp +contextual -dsimp (maxSteps := 2000000) only [↓SD, SU, SB, Nat.reduceAdd, Nat.reduceBEq, Nat.reduceEqDiff, Nat.reduceLeDiff, Nat.reduceLT, Nat.reduceSub, ↓reduceIte, zA, zI, zN, reduceCtorEq, Int.reduceToNat, zE, Int.reduceEq, Int.reduceLT, Int.reduceLE, Int.reduceNeg, Int.reduceAdd, Int.reduceSub, ir_impl_planter_plant, rs_impl_planter_plant]
        refine ⟨⟨by omega, by unfold maxLen; omega⟩, fun u => ?_⟩
        exact leaf_goes nm v [] (-1) u _ rfl rfl rfl
      · have r1 : nodesR G.length w = .row 36 w G.length := if_neg hk
        have r2 : nodesB G.length w G = [(36, ⟨w, false, 75, 8, G⟩)] := if_neg hk
        unfold plantB
        rw [r1, r2]
        simp +contextual -dsimp (maxSteps := 2000000) only [↓SD, SU, SB, Nat.reduceAdd, Nat.reduceBEq, Nat.reduceEqDiff, Nat.reduceLeDiff, Nat.reduceLT, Nat.reduceSub, ↓reduceIte, zA, zI, zN, reduceCtorEq, Int.reduceToNat, zE, Int.reduceEq, Int.reduceLT, Int.reduceLE, Int.reduceNeg, Int.reduceAdd, Int.reduceSub, ir_impl_planter_plant, rs_impl_planter_plant, hbi, hlt]
        refine ⟨⟨by omega, by unfold maxLen; omega⟩, fun u => ?_⟩
        exact leaf_goes nm v G (-1) u _ rfl rfl rfl
    | cons r0 rs =>
      obtain ⟨R, hR⟩ : ∃ R, R = r0 :: rs := ⟨_, rfl⟩
      have hRl : R.length = rs.length + 1 := by rw [hR]; rfl
      have hRi : ¬ (R.length : Int) = 0 := by omega
      have hRp : (0 : Int) < (R.length : Int) := by omega
      have e0 : (R.map (av : TRow → AV)).getD 0 .top = av r0 := by rw [hR]; rfl
      cases ht : r0.tests with
      | nil =>
        have e00 : planS (planX f) G.length (r0 :: rs) = [⟨r0.arm, [], 0, 0, bs [], false, 0, 0⟩] := by rw [planS, ht]; rfl
        rw [e00, ← hR]
        by_cases hk : G.length = 0
        · have r1 : nodesR G.length w = .nils := if_pos hk
          have r2 : nodesB G.length w G = [] := if_pos hk
          have hG0 : G = [] := List.eq_nil_of_length_eq_zero hk
          unfold plantB
          rw [r1, r2]
          subst hG0
          simp +contextual -dsimp (maxSteps := 2000000) only [↓SD, SU, SB, Nat.reduceAdd, Nat.reduceBEq, Nat.reduceEqDiff, Nat.reduceLeDiff, Nat.reduceLT, Nat.reduceSub, ↓reduceIte, zA, zI, zN, reduceCtorEq, Int.reduceToNat, zE, Int.reduceEq, Int.reduceLT, Int.reduceLE, Int.reduceNeg, Int.reduceAdd, Int.reduceSub, ir_impl_planter_plant, rs_impl_planter_plant, map_len, hRi, hRp, e0, av_TRow, ht]
          refine ⟨⟨by omega, by unfold maxLen; omega⟩, fun u => ?_⟩
          exact leaf_goes nm v [] r0.arm u _ rfl rfl rfl
        · have r1 : nodesR G.length w = .row 36 w G.length := if_neg hk
          have r2 : nodesB G.length w G = [(36, ⟨w, false, 75, 8, G⟩)] := if_neg hk
          unfold plantB
          rw [r1, r2]
          simp +contextual -dsimp (maxSteps := 2000000) only [↓SD, SU, SB, Nat.reduceAdd, Nat.reduceBEq, Nat.reduceEqDiff, Nat.reduceLeDiff, Nat.reduceLT, Nat.reduceSub, ↓reduceIte, zA, zI, zN, reduceCtorEq, Int.reduceToNat, zE, Int.reduceEq, Int.reduceLT, Int.reduceLE, Int.reduceNeg, Int.reduceAdd, Int.reduceSub, ir_impl_planter_plant, rs_impl_planter_plant, hbi, hlt, map_len, hRi, hRp, e0, av_TRow, ht]
          refine ⟨⟨by omega, by unfold maxLen; omega⟩, fun u => ?_⟩
          exact leaf_goes nm v G r0.arm u _ rfl rfl rfl
      | cons t ts =>
        have hts : ¬ (r0.tests.length : Int) = 0 := by rw [ht, List.length_cons]; omega
        have htp : (0 : Int) < (r0.tests.length : Int) := by rw [ht, List.length_cons]; omega
        have e1 : (r0.tests.map (av : Tst → AV)).getD 0 .top = av t := by rw [ht]; rfl
        have hP2 : planS (planX f) G.length (r0 :: rs) = ⟨0, t.path, t.kind, t.n, t.s, t.has, G.length + 1, G.length + 1 + (planX f (G.length + 1) (yesR R t)).length⟩ :: (planX f (G.length + 1) (yesR R t) ++ planX f (G.length + 1 + (planX f (G.length + 1) (yesR R t)).length) (noR R t)) := by
          rw [planS, ht, planT, ← hR]
        have hy := wt_yes (rs := rs) ht
        have hn := wt_no (rs := rs) ht
        rw [← hR] at hy hn hwt hin hf hwl
        rw [hP2, ← hR]
        have htpl : t.path.length ≤ 1000000 := hin r0 (by rw [hR]; simp) t (by rw [ht]; simp)
        unfold plantB
        have hlen1 : ∀ K, aLen false (nodesR G.length w) K = K (.int .i64 G.length) := fun K => by rw [hlen0]
        simp +contextual -dsimp (maxSteps := 2000000) only [↓SD, SU, SB, Nat.reduceAdd, Nat.reduceBEq, Nat.reduceEqDiff, Nat.reduceLeDiff, Nat.reduceLT, Nat.reduceSub, ↓reduceIte, zA, zI, zN, reduceCtorEq, Int.reduceToNat, zE, Int.reduceEq, Int.reduceLT, Int.reduceLE, Int.reduceNeg, Int.reduceAdd, Int.reduceSub, ir_impl_planter_plant, rs_impl_planter_plant, hbi, hlen1, map_len, hRi, hRp, e0, av_TRow, hts, htp, e1, av_Tst]
        intro u6 u68 u69
        refine aLoop_goes (X := PlO) (fun q => ⟨[(0, .ptr 35 v 0 0), (5, .int .i64 G.length), (6, .ptr 6 u6 0 0), (7, .row 68 q.a (yesR (R.take q.k) t).length), (8, .row 69 q.b (noR (R.take q.k) t).length), (70, .sl (R.map av)), (71, .int .i64 R.length), (72, .int .i64 q.k)], [(35, ⟨v, false, 60, 1, [.agg [.row 36 q.w G.length]]⟩), (6, ⟨u6, false, 75, 8, [av t]⟩), (68, ⟨q.a, false, 57, 2, (yesR (R.take q.k) t).map av⟩), (69, ⟨q.b, false, 57, 2, (noR (R.take q.k) t).map av⟩), (36, ⟨q.w, false, 75, 8, G⟩)]⟩) (fun q => q.k ≤ R.length) (fun q => R.length - q.k) (by
          by_cases hk : G.length = 0
          · have r1 : nodesR G.length w = .nils := if_pos hk
            have r2 : nodesB G.length w G = [] := if_pos hk
            have hG0 : G = [] := List.eq_nil_of_length_eq_zero hk
            rw [r1, r2]
            subst hG0
            refine Goes.adoptB 35 0 0 36 75 8 rfl rfl Nat.zero_lt_one rfl (by decide) fun w' => ?_
            exact Goes.le ⟨⟨0, u68, u69, w'⟩, Nat.zero_le _, rfl⟩ (by simp +contextual -dsimp only [↓SD, SU, SB, Nat.reduceAdd, Nat.reduceBEq, Nat.reduceEqDiff, Nat.reduceLeDiff, Nat.reduceLT, Nat.reduceSub, ↓reduceIte, zA, zI, zN, reduceCtorEq, Int.reduceToNat, zE, List.take_zero, yesR, noR, List.filter_nil]) (by simp +contextual -dsimp only [↓SD, SU, SB, Nat.reduceAdd, Nat.reduceBEq, Nat.reduceEqDiff, Nat.reduceLeDiff, Nat.reduceLT, Nat.reduceSub, ↓reduceIte, zA, zI, zN, reduceCtorEq, Int.reduceToNat, zE, List.take_zero, yesR, noR, List.filter_nil, av_Tst])
          · have r1 : nodesR G.length w = .row 36 w G.length := if_neg hk
            have r2 : nodesB G.length w G = [(36, ⟨w, false, 75, 8, G⟩)] := if_neg hk
            rw [r1, r2]
            exact Goes.le ⟨⟨0, u68, u69, w⟩, Nat.zero_le _, rfl⟩ (by simp +contextual -dsimp only [↓SD, SU, SB, Nat.reduceAdd, Nat.reduceBEq, Nat.reduceEqDiff, Nat.reduceLeDiff, Nat.reduceLT, Nat.reduceSub, ↓reduceIte, zA, zI, zN, reduceCtorEq, Int.reduceToNat, zE, List.take_zero, yesR, noR, List.filter_nil]) (by simp +contextual -dsimp only [↓SD, SU, SB, Nat.reduceAdd, Nat.reduceBEq, Nat.reduceEqDiff, Nat.reduceLeDiff, Nat.reduceLT, Nat.reduceSub, ↓reduceIte, zA, zI, zN, reduceCtorEq, Int.reduceToNat, zE, List.take_zero, yesR, noR, List.filter_nil, av_Tst])) ?_
        clear hlen0 hlen1
        rintro ⟨k, a, b, w⟩ hk
        dsimp only at hk ⊢
        by_cases hlk : k < R.length
        · have e2 := getD_map av R k .top hlk
          have hrk : R[k] ∈ R := List.getElem_mem hlk
          have ys := yesR_snoc (R.take k) R[k] t
          have ns := noR_snoc (R.take k) R[k] t
          rw [← List.take_succ_eq_append_getElem hlk] at ys ns
          have yl := yesR_len (R.take k) t
          have nl := noR_len (R.take k) t
          have hkl : (R.take k).length = k := by simp; omega
          rw [hkl] at yl nl
          have hinr := hin R[k] hrk
          have hwr := wt_mem hrk
          have hle := @left_eq R[k] t
          have hll := @left_len R[k] t
          generalize R[k] = r at *
          generalize yesR (R.take k) t = Y at *
          generalize noR (R.take k) t = Z at *
          simp +contextual -dsimp (maxSteps := 2000000) only [↓SD, SU, SB, Nat.reduceAdd, Nat.reduceBEq, Nat.reduceEqDiff, Nat.reduceLeDiff, Nat.reduceLT, Nat.reduceSub, ↓reduceIte, zA, zI, zN, reduceCtorEq, Int.reduceToNat, zE, Int.reduceEq, Int.reduceLT, Int.reduceLE, Int.reduceNeg, Int.reduceAdd, Int.reduceSub, hlk, map_len, e2, av_TRow]
          intro u10 u76
          refine aLoop_of (X := PlJ) (fun q => ⟨[(0, .ptr 35 v 0 0), (5, .int .i64 G.length), (6, .ptr 6 u6 0 0), (7, .row 68 a Y.length), (8, .row 69 b Z.length), (10, .ptr 10 u10 0 0), (11, .row 76 q.c ((r.tests.take q.j).filter fun x => !sameT t x).length), (12, .bool ((r.tests.take q.j).any (clashT t))), (70, .sl (R.map av)), (71, .int .i64 R.length), (72, .int .i64 k), (78, .sl (r.tests.map av)), (79, .int .i64 r.tests.length), (80, .int .i64 q.j)], (35, ⟨v, false, 60, 1, [.agg [.row 36 w G.length]]⟩) :: (6, ⟨u6, false, 75, 8, [av t]⟩) :: (68, ⟨a, false, 57, 2, Y.map av⟩) :: (69, ⟨b, false, 57, 2, Z.map av⟩) :: (10, ⟨u10, false, 57, 2, [av r]⟩) :: (76, ⟨q.c, false, 75, 8, ((r.tests.take q.j).filter fun x => !sameT t x).map av⟩) ::  [(36, ⟨w, false, 75, 8, G⟩)]⟩) (fun q => q.j ≤ r.tests.length) (fun q => r.tests.length - q.j) ⟨0, u76⟩ (Nat.zero_le _) (by simp +contextual -dsimp only [↓SD, SU, SB, Nat.reduceAdd, Nat.reduceBEq, Nat.reduceEqDiff, Nat.reduceLeDiff, Nat.reduceLT, Nat.reduceSub, ↓reduceIte, zA, zI, zN, reduceCtorEq, Int.reduceToNat, zE, List.take_zero, List.filter_nil, List.any_nil]) (by simp +contextual -dsimp only [↓SD, SU, SB, Nat.reduceAdd, Nat.reduceBEq, Nat.reduceEqDiff, Nat.reduceLeDiff, Nat.reduceLT, Nat.reduceSub, ↓reduceIte, zA, zI, zN, reduceCtorEq, Int.reduceToNat, zE, List.take_zero, List.filter_nil, List.map_nil, av_TRow]) ?_
          rintro ⟨j, c⟩ hj
          dsimp only at hj ⊢
          by_cases hlj : j < r.tests.length
          · have e3 := getD_map av r.tests j .top hlj
            have fs := filter_take_step (p := fun x => !sameT t x) hlj
            have an := any_take_step (p := clashT t) hlj
            have hxp := hinr _ (List.getElem_mem hlj)
            have C1 := sameTest_ok r.tests[j] t (by omega)
            have C2 := samePart_ok r.tests[j] t (by omega)
            have fl : ((r.tests.take j).filter fun x => !sameT t x).length ≤ j := by
              have h1 := List.length_filter_le (fun x => !sameT t x) (r.tests.take j)
              have h2 : (r.tests.take j).length = j := by simp; omega
              omega
            generalize hx : r.tests[j] = x at *
            generalize (r.tests.take j).filter (fun x => !sameT t x) = F at *
            generalize (r.tests.take j).any (clashT t) = o at *
            have hct : clashT t x = (pathT x t && !beginT x t) := rfl
            have hsm : sameT t x = (pathT x t && beginT x t) := rfl
            have hFt : List.take F.length (F.map (av : Tst → AV)) = F.map av := List.take_of_length_le (by simp)
            have hxa := av_Tst x
            rw [hct] at an
            rw [hsm] at C1 fs
            rw [av_Tst x, av_Tst t] at C1 C2
            rw [av_Tst t]
            cases hp : pathT x t <;> cases hb : beginT x t <;> cases o
            all_goals
              rw [hp, hb] at C1 an fs
              rw [hp] at C2
              simp only [Bool.and_true, Bool.and_false, Bool.false_and, Bool.true_and, Bool.not_true, Bool.not_false, Bool.or_true, Bool.or_false, Bool.true_or, Bool.false_or, if_true, if_false, Bool.false_eq_true, List.append_nil] at C1 C2 an fs
              simp +contextual -dsimp (maxSteps := 2000000) only [↓SD, SU, SB, Nat.reduceAdd, Nat.reduceBEq, Nat.reduceEqDiff, Nat.reduceLeDiff, Nat.reduceLT, Nat.reduceSub, ↓reduceIte, zA, zI, zN, reduceCtorEq, Int.reduceToNat, zE, Int.reduceEq, Int.reduceLT, Int.reduceLE, Int.reduceNeg, Int.reduceAdd, Int.reduceSub, hlj, map_len, e3, hxa]
              intro u14
              refine aCallK_of _ C1 ?_
              simp +contextual -dsimp (maxSteps := 2000000) only [↓SD, SU, SB, Nat.reduceAdd, Nat.reduceBEq, Nat.reduceEqDiff, Nat.reduceLeDiff, Nat.reduceLT, Nat.reduceSub, ↓reduceIte, zA, zI, zN, reduceCtorEq, Int.reduceToNat, zE, Int.reduceEq, Int.reduceLT, Int.reduceLE, Int.reduceNeg, Int.reduceAdd, Int.reduceSub, hFt]
              first
                | (refine ⟨⟨by rw [List.length_map]; exact Nat.le_refl _, by omega, by unfold maxLen; omega⟩, fun c' => ?_⟩
                   repeat' (first | (refine aCallK_of _ C2 ?_; simp +contextual -dsimp (maxSteps := 2000000) only [↓SD, SU, SB, Nat.reduceAdd, Nat.reduceBEq, Nat.reduceEqDiff, Nat.reduceLeDiff, Nat.reduceLT, Nat.reduceSub, ↓reduceIte, zA, zI, zN, reduceCtorEq, Int.reduceToNat, zE, Int.reduceEq, Int.reduceLT, Int.reduceLE, Int.reduceNeg, Int.reduceAdd, Int.reduceSub]) | (refine aCallK_of _ C1 ?_; simp +contextual -dsimp (maxSteps := 2000000) only [↓SD, SU, SB, Nat.reduceAdd, Nat.reduceBEq, Nat.reduceEqDiff, Nat.reduceLeDiff, Nat.reduceLT, Nat.reduceSub, ↓reduceIte, zA, zI, zN, reduceCtorEq, Int.reduceToNat, zE, Int.reduceEq, Int.reduceLT, Int.reduceLE, Int.reduceNeg, Int.reduceAdd, Int.reduceSub]))
                   exact ⟨by omega, Goes.le ⟨⟨j + 1, c'⟩, ⟨hlj, (by first | omega | (simp only; omega))⟩, rfl⟩ (by simp +contextual -dsimp only [↓SD, SU, SB, Nat.reduceAdd, Nat.reduceBEq, Nat.reduceEqDiff, Nat.reduceLeDiff, Nat.reduceLT, Nat.reduceSub, ↓reduceIte, zA, zI, zN, reduceCtorEq, Int.reduceToNat, zE, Int.natCast_add, an, fs, List.length_append]) (by simp +contextual -dsimp only [↓SD, SU, SB, Nat.reduceAdd, Nat.reduceBEq, Nat.reduceEqDiff, Nat.reduceLeDiff, Nat.reduceLT, Nat.reduceSub, ↓reduceIte, zA, zI, zN, reduceCtorEq, Int.reduceToNat, zE, fs, List.map_append, hxa])⟩)
                | (repeat' (first | (refine aCallK_of _ C2 ?_; simp +contextual -dsimp (maxSteps := 2000000) only [↓SD, SU, SB, Nat.reduceAdd, Nat.reduceBEq, Nat.reduceEqDiff, Nat.reduceLeDiff, Nat.reduceLT, Nat.reduceSub, ↓reduceIte, zA, zI, zN, reduceCtorEq, Int.reduceToNat, zE, Int.reduceEq, Int.reduceLT, Int.reduceLE, Int.reduceNeg, Int.reduceAdd, Int.reduceSub]) | (refine aCallK_of _ C1 ?_; simp +contextual -dsimp (maxSteps := 2000000) only [↓SD, SU, SB, Nat.reduceAdd, Nat.reduceBEq, Nat.reduceEqDiff, Nat.reduceLeDiff, Nat.reduceLT, Nat.reduceSub, ↓reduceIte, zA, zI, zN, reduceCtorEq, Int.reduceToNat, zE, Int.reduceEq, Int.reduceLT, Int.reduceLE, Int.reduceNeg, Int.reduceAdd, Int.reduceSub]))
                   exact ⟨by omega, Goes.le ⟨⟨j + 1, c⟩, ⟨hlj, (by first | omega | (simp only; omega))⟩, rfl⟩ (by simp +contextual -dsimp only [↓SD, SU, SB, Nat.reduceAdd, Nat.reduceBEq, Nat.reduceEqDiff, Nat.reduceLeDiff, Nat.reduceLT, Nat.reduceSub, ↓reduceIte, zA, zI, zN, reduceCtorEq, Int.reduceToNat, zE, Int.natCast_add, an, fs]) (by simp +contextual -dsimp only [↓SD, SU, SB, Nat.reduceAdd, Nat.reduceBEq, Nat.reduceEqDiff, Nat.reduceLeDiff, Nat.reduceLT, Nat.reduceSub, ↓reduceIte, zA, zI, zN, reduceCtorEq, Int.reduceToNat, zE, fs, hxa])⟩)
          · obtain rfl : j = r.tests.length := by omega
            rw [List.take_length]
            obtain ⟨L, hL⟩ : ∃ L, L = r.tests.filter fun x => !sameT t x := ⟨_, rfl⟩
            rw [← hL] at hle hll ⊢
            have hLl : L.length ≤ r.tests.length := by rw [hL]; exact List.length_filter_le _ _
            have hfm : ∀ hp, (L.map (av : Tst → AV)).map (AV.pur hp) = L.map av := fun hp => map_nop _ hp
            have hfl : List.take L.length (L.map (av : Tst → AV)) = L.map av := List.take_of_length_le (by simp)
            have hYt : List.take Y.length (Y.map (av : TRow → AV)) = Y.map av := List.take_of_length_le (by simp)
            have hZt : List.take Z.length (Z.map (av : TRow → AV)) = Z.map av := List.take_of_length_le (by simp)
            have hra := av_TRow r
            clear hL hlj hj
            have hdec : ((L.length : Int) = r.tests.length) = (r.tests.any (sameT t) = false) := by
              have h1 : ((L.length : Int) = r.tests.length) = (L.length = r.tests.length) := propext ⟨fun h => by omega, fun h => by omega⟩
              rw [h1]
              cases hs : r.tests.any (sameT t) <;> rw [hs] at hll <;> simp at hll <;> simp [hll]
            clear hll
            cases hcl : r.tests.any (clashT t) <;> cases hsm : r.tests.any (sameT t)
            all_goals
              rw [hsm] at hdec ns
              rw [hcl] at ys
              simp only [Bool.false_eq_true, if_true, if_false, List.append_nil, Bool.true_eq_false, eq_self] at ys ns hdec
              try rw [← hle hcl] at ys
              simp +contextual -dsimp (maxSteps := 2000000) only [↓SD, SU, SB, Nat.reduceAdd, Nat.reduceBEq, Nat.reduceEqDiff, Nat.reduceLeDiff, Nat.reduceLT, Nat.reduceSub, ↓reduceIte, zA, zI, zN, reduceCtorEq, Int.reduceToNat, zE, Int.reduceEq, Int.reduceLT, Int.reduceLE, Int.reduceNeg, Int.reduceAdd, Int.reduceSub, Nat.lt_irrefl]
              refine ghost_of (Goes.frz 76 (Goes.pur 11 (Goes.here ?_)))
              simp +contextual -dsimp (maxSteps := 2000000) only [↓SD, SU, SB, Nat.reduceAdd, Nat.reduceBEq, Nat.reduceEqDiff, Nat.reduceLeDiff, Nat.reduceLT, Nat.reduceSub, ↓reduceIte, zA, zI, zN, reduceCtorEq, Int.reduceToNat, zE, Int.reduceEq, Int.reduceLT, Int.reduceLE, Int.reduceNeg, Int.reduceAdd, Int.reduceSub, hfm, hfl, List.length_map, Nat.le_refl, hra, hdec, hYt, hZt]
            · exact ⟨⟨by omega, by unfold maxLen; omega⟩, fun a' => ⟨⟨by omega, by unfold maxLen; omega⟩, fun b' => ⟨by omega, Goes.le ⟨⟨k + 1, a', b', w⟩, ⟨hlk, (by first | omega | (simp only; omega))⟩, rfl⟩ (by simp +contextual -dsimp only [↓SD, SU, SB, Nat.reduceAdd, Nat.reduceBEq, Nat.reduceEqDiff, Nat.reduceLeDiff, Nat.reduceLT, Nat.reduceSub, ↓reduceIte, zA, zI, zN, reduceCtorEq, Int.reduceToNat, zE, Int.natCast_add, ys, ns, List.length_append]) (by simp +contextual -dsimp only [↓SD, SU, SB, Nat.reduceAdd, Nat.reduceBEq, Nat.reduceEqDiff, Nat.reduceLeDiff, Nat.reduceLT, Nat.reduceSub, ↓reduceIte, zA, zI, zN, reduceCtorEq, Int.reduceToNat, zE, ys, ns, List.map_append, hra, av_TRow])⟩⟩⟩
            · exact ⟨⟨by omega, by unfold maxLen; omega⟩, fun a' => ⟨by omega, Goes.le ⟨⟨k + 1, a', b, w⟩, ⟨hlk, (by first | omega | (simp only; omega))⟩, rfl⟩ (by simp +contextual -dsimp only [↓SD, SU, SB, Nat.reduceAdd, Nat.reduceBEq, Nat.reduceEqDiff, Nat.reduceLeDiff, Nat.reduceLT, Nat.reduceSub, ↓reduceIte, zA, zI, zN, reduceCtorEq, Int.reduceToNat, zE, Int.natCast_add, ys, ns, List.length_append]) (by simp +contextual -dsimp only [↓SD, SU, SB, Nat.reduceAdd, Nat.reduceBEq, Nat.reduceEqDiff, Nat.reduceLeDiff, Nat.reduceLT, Nat.reduceSub, ↓reduceIte, zA, zI, zN, reduceCtorEq, Int.reduceToNat, zE, ys, ns, List.map_append, hra, av_TRow])⟩⟩
            · exact ⟨⟨by omega, by unfold maxLen; omega⟩, fun b' => ⟨by omega, Goes.le ⟨⟨k + 1, a, b', w⟩, ⟨hlk, (by first | omega | (simp only; omega))⟩, rfl⟩ (by simp +contextual -dsimp only [↓SD, SU, SB, Nat.reduceAdd, Nat.reduceBEq, Nat.reduceEqDiff, Nat.reduceLeDiff, Nat.reduceLT, Nat.reduceSub, ↓reduceIte, zA, zI, zN, reduceCtorEq, Int.reduceToNat, zE, Int.natCast_add, ys, ns, List.length_append]) (by simp +contextual -dsimp only [↓SD, SU, SB, Nat.reduceAdd, Nat.reduceBEq, Nat.reduceEqDiff, Nat.reduceLeDiff, Nat.reduceLT, Nat.reduceSub, ↓reduceIte, zA, zI, zN, reduceCtorEq, Int.reduceToNat, zE, ys, ns, List.map_append, hra, av_TRow])⟩⟩
            · exact ⟨by omega, Goes.le ⟨⟨k + 1, a, b, w⟩, ⟨hlk, (by first | omega | (simp only; omega))⟩, rfl⟩ (by simp +contextual -dsimp only [↓SD, SU, SB, Nat.reduceAdd, Nat.reduceBEq, Nat.reduceEqDiff, Nat.reduceLeDiff, Nat.reduceLT, Nat.reduceSub, ↓reduceIte, zA, zI, zN, reduceCtorEq, Int.reduceToNat, zE, Int.natCast_add, ys, ns, List.length_append]) (by simp +contextual -dsimp only [↓SD, SU, SB, Nat.reduceAdd, Nat.reduceBEq, Nat.reduceEqDiff, Nat.reduceLeDiff, Nat.reduceLT, Nat.reduceSub, ↓reduceIte, zA, zI, zN, reduceCtorEq, Int.reduceToNat, zE, ys, ns, List.map_append, hra, av_TRow])⟩
        · obtain rfl : k = R.length := by omega
          rw [List.take_length]
          simp +contextual -dsimp (maxSteps := 2000000) only [↓SD, SU, SB, Nat.reduceAdd, Nat.reduceBEq, Nat.reduceEqDiff, Nat.reduceLeDiff, Nat.reduceLT, Nat.reduceSub, ↓reduceIte, zA, zI, zN, reduceCtorEq, Int.reduceToNat, zE, Int.reduceEq, Int.reduceLT, Int.reduceLE, Int.reduceNeg, Int.reduceAdd, Int.reduceSub, Nat.lt_irrefl, av_Tst]
          obtain ⟨K, hK⟩ : ∃ K, K = sub (sub nm G.length) 0 := ⟨_, rfl⟩
          have hKge : 10000 ≤ K := by rw [hK]; exact sub_ge _ _
          have CC := CloneO_ok K t.path (by omega)
          refine aCallH_gen [] CC (by simp +contextual -dsimp only [↓SD, SU, SB, Nat.reduceAdd, Nat.reduceBEq, Nat.reduceEqDiff, Nat.reduceLeDiff, Nat.reduceLT, Nat.reduceSub, ↓reduceIte, zA, zI, zN, reduceCtorEq, Int.reduceToNat, zE, map_nop]) ?_
          rintro r hp' ⟨v1, rfl, rfl⟩ H hH
          rw [hrest_no, oh_ints] at hH
          have h35 : hget H 35 = some ⟨v, false, 60, 1, [.agg [.row 36 w G.length]]⟩ := by rw [hH, List.cons_append, hg_ne (by omega)]; rfl
          have h36 : hget H 36 = some ⟨w, false, 75, 8, G⟩ := by rw [hH, List.cons_append, hg_ne (by omega)]; rfl
          have h6 : hget H 6 = some ⟨u6, false, 75, 8, [.agg [.int .i64 0, .sl (t.path.map av), .int .i64 t.kind, .int .i64 t.n, .str t.s, .bool t.has, .int .i64 0, .int .i64 0]]⟩ := by rw [hH, List.cons_append, hg_ne (by omega)]; rfl
          have h68 : hget H 68 = some ⟨a, false, 57, 2, (yesR R t).map av⟩ := by rw [hH, List.cons_append, hg_ne (by omega)]; rfl
          have h69 : hget H 69 = some ⟨b, false, 57, 2, (noR R t).map av⟩ := by rw [hH, List.cons_append, hg_ne (by omega)]; rfl
          have hKH : hget H K = some ⟨v1 K, false, 3, 1, t.path.map av⟩ := by rw [hH, List.cons_append]; exact hg_eq
          have hKn : ∀ q, q < 10000 → (q == K) = false := fun q hq => beq_eq_false_iff_ne.2 (by omega)
          simp +contextual -dsimp (maxSteps := 2000000) only [↓SD, SU, SB, Nat.reduceAdd, Nat.reduceBEq, Nat.reduceEqDiff, Nat.reduceLeDiff, Nat.reduceLT, Nat.reduceSub, ↓reduceIte, zA, zI, zN, reduceCtorEq, Int.reduceToNat, zE, Int.reduceEq, Int.reduceLT, Int.reduceLE, Int.reduceNeg, Int.reduceAdd, Int.reduceSub, ov_list, h6, h35, h36, hlt, hKn, hKH, false_and]
          refine ⟨⟨by omega, by unfold maxLen; omega⟩, fun w1 => ?_⟩
          obtain ⟨e, he⟩ : ∃ e : AV, e = .agg [.int .i64 0, .row K (v1 K) t.path.length, .int .i64 t.kind, .int .i64 t.n, .str t.s, .bool t.has, .int .i64 0, .int .i64 0] := ⟨_, rfl⟩
          rw [← he]
          have hYm : ∀ hp, ((yesR R t).map (av : TRow → AV)).map (AV.pur hp) = (yesR R t).map av := fun hp => map_nop _ hp
          have hZm : ∀ hp, ((noR R t).map (av : TRow → AV)).map (AV.pur hp) = (noR R t).map av := fun hp => map_nop _ hp
          have hYt : List.take (yesR R t).length ((yesR R t).map (av : TRow → AV)) = (yesR R t).map av := List.take_of_length_le (by simp)
          have hZt : List.take (noR R t).length ((noR R t).map (av : TRow → AV)) = (noR R t).map av := List.take_of_length_le (by simp)
          have C1 := ih (yesR R t) (G ++ [e]) w1 (by omega) (by omega) (hin.yes t) (by simp only [List.length_append, List.length_cons, List.length_nil]; omega)
          have C2 := fun (Q : List AV) (w2 : Nat) (hQ : Q.length ≤ 401) => ih (noR R t) Q w2 (by omega) (by omega) (hin.no t) hQ
          have hGe : (G ++ [e]).length = G.length + 1 := by simp
          have hP1 := plan_len f (G.length + 1) (yesR R t)
          rw [hGe] at C1
          generalize hp1 : planX f (G.length + 1) (yesR R t) = P1 at *
          have hP2l := plan_len f (G.length + 1 + P1.length) (noR R t)
          have C3 : ∀ (Q : List AV) (w2 : Nat), Q.length = G.length + 1 + P1.length → Q.length ≤ 401 → CallsH Try.prog 23 [.ptr 35 v 0 0, .sl ((noR R t).map av)] (plantB v Q.length w2 :: nodesB Q.length w2 Q) (PlantPost nm v Q (planX f (G.length + 1 + P1.length) (noR R t))) := fun Q w2 hQ hQ2 => by
            have := C2 Q w2 hQ2
            rw [hQ] at this ⊢
            exact this
          generalize hp2 : planX f (G.length + 1 + P1.length) (noR R t) = P2 at *
          clear C2 ih hP hP2 hp1 hp2
          generalize yesR R t = Y at *
          generalize noR R t = Z at *
          have q1 : ∀ k w, nodesR (k + 1) w = .row 36 w (k + 1) := fun k w => if_neg (by omega)
          have q2 : ∀ k w es, nodesB (k + 1) w es = [(36, ⟨w, false, 75, 8, es⟩)] := fun k w es => if_neg (by omega)
          unfold plantB at C1
          rw [q1, q2] at C1
          refine ghost_of (goes_cut ⟨[(0, .ptr 35 v 0 0), (5, .int .i64 G.length), (7, .row 68 a Y.length), (8, .row 69 b Z.length)], [(35, ⟨v, false, 60, 1, [.agg [.row 36 w1 (G.length + 1)]]⟩), (36, ⟨w1, false, 75, 8, G ++ [e]⟩), (K, ⟨v1 K, false, 3, 1, t.path.map av⟩), (68, ⟨a, false, 57, 2, Y.map av⟩), (69, ⟨b, false, 57, 2, Z.map av⟩)]⟩ (by simp +contextual -dsimp only [↓SD, SU, SB, Nat.reduceAdd, Nat.reduceBEq, Nat.reduceEqDiff, Nat.reduceLeDiff, Nat.reduceLT, Nat.reduceSub, ↓reduceIte, zA, zI, zN, reduceCtorEq, Int.reduceToNat, zE]) (by simp +contextual -dsimp only [↓SD, SU, SB, Nat.reduceAdd, Nat.reduceBEq, Nat.reduceEqDiff, Nat.reduceLeDiff, Nat.reduceLT, Nat.reduceSub, ↓reduceIte, zA, zI, zN, reduceCtorEq, Int.reduceToNat, zE, h68, h69, hKH, hKn]) (Goes.frz 68 (Goes.pur 7 (Goes.frz 69 (Goes.pur 8 (Goes.here ?_))))))
          have hKn2 : ∀ q, q < 10000 → (K == q) = false := fun q hq => beq_eq_false_iff_ne.2 (by omega)
          simp +contextual -dsimp (maxSteps := 2000000) only [↓SD, SU, SB, Nat.reduceAdd, Nat.reduceBEq, Nat.reduceEqDiff, Nat.reduceLeDiff, Nat.reduceLT, Nat.reduceSub, ↓reduceIte, zA, zI, zN, reduceCtorEq, Int.reduceToNat, zE, Int.reduceEq, Int.reduceLT, Int.reduceLE, Int.reduceNeg, Int.reduceAdd, Int.reduceSub, hYm, hZm, hYt, hZt, List.length_map, Nat.le_refl, hKn2]
          refine aCallH_gen [35, 36] C1 (by simp +contextual -dsimp only [↓SD, SU, SB, Nat.reduceAdd, Nat.reduceBEq, Nat.reduceEqDiff, Nat.reduceLeDiff, Nat.reduceLT, Nat.reduceSub, ↓reduceIte, zA, zI, zN, reduceCtorEq, Int.reduceToNat, zE]) ?_
          rintro r hp' ⟨w2, vs1, rfl, rfl⟩ H1 hH1
          rw [hGe] at hH1 ⊢
          obtain ⟨n1, hn1⟩ : ∃ n1, n1 = G.length + 1 + P1.length := ⟨_, rfl⟩
          have hn10 : ¬ n1 = 0 := by omega
          have m1 : ∀ w, nodesR n1 w = .row 36 w n1 := fun w => if_neg hn10
          have m2 : ∀ w es, nodesB n1 w es = [(36, ⟨w, false, 75, 8, es⟩)] := fun w es => if_neg hn10
          obtain ⟨Q, hQ⟩ : ∃ Q, Q = G ++ [e] ++ ovL nm vs1 (G.length + 1) P1 := ⟨_, rfl⟩
          have hQl : Q.length = n1 := by rw [hQ, List.length_append, hGe, ovL_len, hn1]
          rw [← hn1] at hH1 hP2l C3
          rw [plantB, m1, m2, ← hQ] at hH1
          have o1 : ∀ q, q < 10000 → hget (ohL nm vs1 (G.length + 1) P1) q = none := fun q hq => hg_none fun p hp e' => by
            obtain ⟨j, _, hj⟩ := ohL_in hp
            have := hj.ge
            omega
          have g35 : hget H1 35 = some ⟨v, false, 60, 1, [.agg [.row 36 w2 n1]]⟩ := by rw [hH1]; exact hg_eq
          have g36 : hget H1 36 = some ⟨w2, false, 75, 8, Q⟩ := by rw [hH1]; rfl
          have hKo : ∀ i vs (P : List Ask), G.length < i → ∀ p ∈ ohL nm vs i P, p.1 ≠ K := fun i vs P hi p hp e' => by
            obtain ⟨j, hj0, hj⟩ := ohL_in hp
            rw [e', hK] at hj
            have := hj.sib (InT.up (i := 0) .root)
            omega
          have gK : hget H1 K = some ⟨v1 K, false, 3, 1, t.path.map av⟩ := by
            rw [hH1, List.cons_append, hg_ne (by omega), List.append_assoc, List.cons_append, hg_ne (by omega), List.nil_append, hg_app_r (hKo _ _ _ (by omega)), hget_rest_out (by simp; omega), hg_ne (by omega), hg_ne (by omega), hg_ne (by omega), hg_ne (by omega)]
            exact hg_eq
          have gO : ∀ p ∈ ohL nm vs1 (G.length + 1) P1, hget H1 p.1 = some p.2 := fun p hp => by
            obtain ⟨j, hj0, hj⟩ := ohL_in hp
            have hge := hj.ge
            rw [hH1, List.cons_append, hg_ne (by omega), List.append_assoc, List.cons_append, hg_ne (by omega), List.nil_append]
            exact hg_app_l (hpLe_iff.1 (ohL_self nm vs1 (G.length + 1) P1) p hp)
          clear hH1 C1
          have C4 := C3 Q w2 hQl (by omega)
          rw [hQl] at C4
          rw [plantB, m1, m2] at C4
          simp +contextual -dsimp (maxSteps := 2000000) only [↓SD, SU, SB, Nat.reduceAdd, Nat.reduceBEq, Nat.reduceEqDiff, Nat.reduceLeDiff, Nat.reduceLT, Nat.reduceSub, ↓reduceIte, zA, zI, zN, reduceCtorEq, Int.reduceToNat, zE, Int.reduceEq, Int.reduceLT, Int.reduceLE, Int.reduceNeg, Int.reduceAdd, Int.reduceSub, hYm, hZm, hYt, hZt, List.length_map, Nat.le_refl, hKn2, g35]
          refine aCallH_gen [35, 36] C4 (by simp +contextual -dsimp only [↓SD, SU, SB, Nat.reduceAdd, Nat.reduceBEq, Nat.reduceEqDiff, Nat.reduceLeDiff, Nat.reduceLT, Nat.reduceSub, ↓reduceIte, zA, zI, zN, reduceCtorEq, Int.reduceToNat, zE, g35, g36]) ?_
          rintro r hp' ⟨w3, vs2, rfl, rfl⟩ H2 hH2
          rw [hQl] at hH2 ⊢
          obtain ⟨n2, hn2⟩ : ∃ n2, n2 = n1 + P2.length := ⟨_, rfl⟩
          have hn20 : ¬ n2 = 0 := by omega
          have k1 : ∀ w, nodesR n2 w = .row 36 w n2 := fun w => if_neg hn20
          have k2 : ∀ w es, nodesB n2 w es = [(36, ⟨w, false, 75, 8, es⟩)] := fun w es => if_neg hn20
          obtain ⟨Q2, hQ2⟩ : ∃ Q2, Q2 = Q ++ ovL nm vs2 n1 P2 := ⟨_, rfl⟩
          have hQ2l : Q2.length = n2 := by rw [hQ2, List.length_append, hQl, ovL_len, hn2]
          rw [← hn2] at hH2
          rw [plantB, k1, k2, ← hQ2] at hH2
          have f35 : hget H2 35 = some ⟨v, false, 60, 1, [.agg [.row 36 w3 n2]]⟩ := by rw [hH2]; exact hg_eq
          have f36 : hget H2 36 = some ⟨w3, false, 75, 8, Q2⟩ := by rw [hH2]; rfl
          have fK : hget H2 K = some ⟨v1 K, false, 3, 1, t.path.map av⟩ := by
            rw [hH2, List.cons_append, hg_ne (by omega), List.append_assoc, List.cons_append, hg_ne (by omega), List.nil_append, hg_app_r (hKo _ _ _ (by omega)), hget_rest_out (by simp; omega)]
            exact gK
          have fO2 : ∀ p ∈ ohL nm vs2 n1 P2, hget H2 p.1 = some p.2 := fun p hp => by
            obtain ⟨j, hj0, hj⟩ := ohL_in hp
            have hge := hj.ge
            rw [hH2, List.cons_append, hg_ne (by omega), List.append_assoc, List.cons_append, hg_ne (by omega), List.nil_append]
            exact hg_app_l (hpLe_iff.1 (ohL_self nm vs2 n1 P2) p hp)
          have fO1 : ∀ p ∈ ohL nm vs1 (G.length + 1) P1, hget H2 p.1 = some p.2 := fun p hp => by
            obtain ⟨j, hj1, hj2⟩ := ohL_mem hp
            have hin := OVal.inh hj2
            have hge := hin.ge
            have hno : ∀ q ∈ ohL nm vs2 n1 P2, q.1 ≠ p.1 := fun q hq e' => by
              obtain ⟨i, hi0, hi⟩ := ohL_in hq
              rw [e'] at hi
              have := hi.sib hin
              omega
            rw [hH2, List.cons_append, hg_ne (by omega), List.append_assoc, List.cons_append, hg_ne (by omega), List.nil_append, hg_app_r hno, hget_rest_out (by simp; omega)]
            exact gO p hp
          clear hH2 C4 C3
          have hQe : Q2.getD G.length .top = .agg [.int .i64 0, .row K (v1 K) t.path.length, .int .i64 t.kind, .int .i64 t.n, .str t.s, .bool t.has, .int .i64 0, .int .i64 0] := by
            rw [hQ2, hQ, he]; simp [List.getD_eq_getElem?_getD]
          have hQs : ∀ x, Q2.set G.length x = G ++ x :: (ovL nm vs1 (G.length + 1) P1 ++ ovL nm vs2 n1 P2) := fun x => by
            rw [hQ2, hQ]; simp [List.set_append]
          have hltn : (G.length : Int) < (n2 : Int) := by omega
          have hltn2 : G.length < n2 := by omega
          have hss : ∀ x y, (Q2.set G.length x).set G.length y = Q2.set G.length y := fun x y => by simp
          have hsl : ∀ x, (Q2.set G.length x).length = n2 := fun x => by rw [List.length_set, hQ2l]
          have hsg : ∀ x, (Q2.set G.length x).getD G.length .top = x := fun x => by simp [List.getD_eq_getElem?_getD, hQ2l, hltn2]
          obtain ⟨a0, ha0⟩ : ∃ a0 : Ask, a0 = ⟨0, t.path, t.kind, t.n, t.s, t.has, (G.length + 1 : Nat), (n1 : Nat)⟩ := ⟨_, rfl⟩
          have hov : ovL nm (glueR nm (G.length + [a0].length) (glueR nm (G.length + 1 + P1.length) vs2 vs1) (fun _ => v1 K)) G.length ([a0] ++ (P1 ++ P2)) = .agg [.int .i64 0, .row K (v1 K) t.path.length, .int .i64 t.kind, .int .i64 t.n, .str t.s, .bool t.has, .int .i64 (G.length + 1 : Nat), .int .i64 n1] :: (ovL nm vs1 (G.length + 1) P1 ++ ovL nm vs2 n1 P2) := by
            rw [(glueR_app _ _ _ _ _).1, show G.length + [a0].length = G.length + 1 from rfl, (glueR_app _ _ _ _ _).1, ← hn1, ha0, hK]; rfl
          have hoh : ohL nm (glueR nm (G.length + [a0].length) (glueR nm (G.length + 1 + P1.length) vs2 vs1) (fun _ => v1 K)) G.length ([a0] ++ (P1 ++ P2)) = (K, ⟨v1 K, false, 3, 1, t.path.map av⟩) :: (ohL nm vs1 (G.length + 1) P1 ++ ohL nm vs2 n1 P2) := by
            rw [(glueR_app _ _ _ _ _).2, show G.length + [a0].length = G.length + 1 from rfl, (glueR_app _ _ _ _ _).2, ← hn1, ha0, hK]
            simp only [ohL, oh_Ask, oh_ints, List.append_nil, List.cons_append, List.nil_append]
          have hpost : PlantPost nm v G ([a0] ++ (P1 ++ P2)) (.int .i64 G.length) _ := ⟨w3, glueR nm (G.length + [a0].length) (glueR nm (G.length + 1 + P1.length) vs2 vs1) (fun _ => v1 K), rfl, rfl⟩
          have hPl : G.length + ([a0] ++ (P1 ++ P2)).length = n2 := by simp only [List.length_append, List.length_cons, List.length_nil]; omega
          rw [hov, hoh, hPl, k2, plantB, k1, ← hQs] at hpost
          have hPe : (⟨0, t.path, t.kind, t.n, t.s, t.has, (G.length : Int) + 1, (G.length : Int) + 1 + P1.length⟩ :: (P1 ++ P2) : List Ask) = [a0] ++ (P1 ++ P2) := by rw [ha0, hn1]; simp only [List.cons_append, List.nil_append, Int.natCast_add]; rfl
          try rw [hPe]
          simp +contextual -dsimp (maxSteps := 2000000) only [↓SD, SU, SB, Nat.reduceAdd, Nat.reduceBEq, Nat.reduceEqDiff, Nat.reduceLeDiff, Nat.reduceLT, Nat.reduceSub, ↓reduceIte, zA, zI, zN, reduceCtorEq, Int.reduceToNat, zE, Int.reduceEq, Int.reduceLT, Int.reduceLE, Int.reduceNeg, Int.reduceAdd, Int.reduceSub, hYm, hZm, hYt, hZt, List.length_map, Nat.le_refl, hKn2, f35, f36, hQe, hQ2l, hltn, hltn2, hss, hsg, hsl]
          refine Goes.post _ (.intro ?_ hpost)
          rw [List.cons_append, List.nil_append]
          refine ⟨by simp +contextual -dsimp (maxSteps := 2000000) only [↓SD, SU, SB, Nat.reduceAdd, Nat.reduceBEq, Nat.reduceEqDiff, Nat.reduceLeDiff, Nat.reduceLT, Nat.reduceSub, ↓reduceIte, zA, zI, zN, reduceCtorEq, Int.reduceToNat, zE, f35], by simp +contextual -dsimp (maxSteps := 2000000) only [↓SD, SU, SB, Nat.reduceAdd, Nat.reduceBEq, Nat.reduceEqDiff, Nat.reduceLeDiff, Nat.reduceLT, Nat.reduceSub, ↓reduceIte, zA, zI, zN, reduceCtorEq, Int.reduceToNat, zE], by simp +contextual -dsimp (maxSteps := 2000000) only [↓SD, SU, SB, Nat.reduceAdd, Nat.reduceBEq, Nat.reduceEqDiff, Nat.reduceLeDiff, Nat.reduceLT, Nat.reduceSub, ↓reduceIte, zA, zI, zN, reduceCtorEq, Int.reduceToNat, zE, fK, hKn, hKn2], ?_⟩
          rw [hpLe_app]
          have hlow : ∀ (i : Nat) (vs : Nat → Nat) (P : List Ask) p, p ∈ ohL nm vs i P → 36 ≠ p.1 := fun i vs P p hp e' => by
            obtain ⟨j, _, hj⟩ := ohL_in hp
            have := hj.ge
            omega
          have hl1 := hlow (G.length + 1) vs1 P1
          have hl2 := hlow n1 vs2 P2
          refine ⟨hpLe_iff.2 fun p hp => ?_, hpLe_iff.2 fun p hp => ?_⟩
          · refine Eq.trans ?_ (fO1 p hp)
            dsimp only
            repeat rw [hg_ne (hl1 p hp)]
          · refine Eq.trans ?_ (fO2 p hp)
            dsimp only
            repeat rw [hg_ne (hl2 p hp)]
end Go.Proofs.Ytohalepkikjinaa


set_option linter.unusedVariables false
set_option linter.unusedSimpArgs false
set_option maxRecDepth 100000
namespace Go.Proofs.Ytohalepkikjinaa
open Go.RowKit Go.Proofs.Ytohalepkikjinaa.Av Go.Proofs.Ytohalepkikjinaa.Ml
open Go.Proofs.Ytohalepkikjinaa.Av.AVal (av)
open OVal (ov oh on)

theorem Av.VR.tupSet {S : Nat → Prop} {w : World} {μ : Mu} {u : Value} {cs : List AV} {off : Nat} {y : AV} (h : VR S w μ u (.tup cs)) (hy : ∀ x v, cs[off]? = some x → VR S w μ v x → VR S w μ v y) : VR S w μ u (.tup (cs.set off y)) := by
  cases h with
  | tup vs _ hl hh =>
    refine .tup vs _ (by simpa using hl) (fun q v x p e => ?_)
    rw [List.getElem?_set] at e
    split at e
    · rename_i hq
      subst hq
      split at e
      · rename_i hlt
        cases e
        exact hy _ v (List.getElem?_eq_getElem hlt) (hh off v _ p (List.getElem?_eq_getElem hlt))
      · cases e
    · exact hh q v x p e
/-- as renA, within a tuple -/
theorem Goes.renT {s : St} {T : St → Prop} (i o2 off j k : Nat) {v n : Nat} {ts cs : List AV} {b : Box} (hi : fget s.fr i = .tup ts) (ht : ts[o2]? = some (.agg cs)) (hc : cs[off]? = some (.row j v n)) (hb : hget s.hp j = some b) (hv : b.ver = v)
    (h : ∀ v', Goes ⟨(i, .tup (ts.set o2 (.agg (cs.set off (.row k v' n))))) :: s.fr, (k, ⟨v', b.frz, b.ty, b.esz, b.es⟩) :: hrest [j] s.hp⟩ T) : Goes s T :=
  Goes.renF (fun v' => (i, .tup (ts.set o2 (.agg (cs.set off (.row k v' n))))) :: s.fr) j k hb hv (fun v' S w μ a e hf => fr_put hf (Av.VR.tupSet (hi ▸ hf i) fun x u hx hu => by
    rw [ht] at hx; cases hx
    exact hu.aggSet rfl fun x u hx hu => by rw [hc] at hx; cases hx; exact hu.ren e)) h
theorem Goes.newT {s : St} {T : St → Prop} (i o2 off k : Nat) (ty : TypeId) (esz : Nat) {ts cs : List AV} (hi : fget s.fr i = .tup ts) (ht : ts[o2]? = some (.agg cs)) (hc : cs[off]? = some .nils) (h : ∀ v, Goes ⟨(i, .tup (ts.set o2 (.agg (cs.set off (.row k v 0))))) :: s.fr, (k, ⟨v, false, ty, esz, []⟩) :: s.hp⟩ T) : Goes s T :=
  Goes.newF (fun v => (i, .tup (ts.set o2 (.agg (cs.set off (.row k v 0))))) :: s.fr) k ty esz (fun v S w μ a e hf => fr_put hf (Av.VR.tupSet (hi ▸ hf i) fun x u hx hu => by
    rw [ht] at hx; cases hx
    exact hu.aggSet rfl fun x u hx hu => by rw [hc] at hx; cases hx; exact hu.new e)) h
theorem asksOf1_ok (q : Pat) (hx : Bulk.bulk q.nodes ≤ 1048576) : CallsF Try.prog 19 [av q] (.bool (!patB q.nodes)) := by
  refine fun_impl_AsksOf_1 rfl (by simp; exact AVal.clean q) (AvPure.bool _) ?_
  simp +contextual -dsimp (maxSteps := 2000000) only [↓SD, SU, SB, Nat.reduceAdd, Nat.reduceBEq, Nat.reduceEqDiff, Nat.reduceLeDiff, Nat.reduceLT, Nat.reduceSub, ↓reduceIte, zA, zI, zN, reduceCtorEq, Int.reduceToNat, zE, ir_impl_AsksOf_1, rs_impl_AsksOf_1, av_Pat]
  refine aCallK_of _ (implPatOk_ok q.nodes hx) ?_
  simp +contextual -dsimp (maxSteps := 2000000) only [↓SD, SU, SB, Nat.reduceAdd, Nat.reduceBEq, Nat.reduceEqDiff, Nat.reduceLeDiff, Nat.reduceLT, Nat.reduceSub, ↓reduceIte, zA, zI, zN, reduceCtorEq, Int.reduceToNat, zE]
theorem pat_size {q : Pat} (h : patB q.nodes = true) : pxN (ptree q.nodes 0) = q.nodes.length ∧ q.nodes.length ≤ 600 ∧ 0 < q.nodes.length ∧ ∀ i, i < q.nodes.length → ∀ k ∈ pkids q.nodes i, (i : Int) < k ∧ k < q.nodes.length := by
  obtain ⟨pl, pt, _⟩ := patB_at h
  have hpk : ∀ i, i < q.nodes.length → ∀ k ∈ pkids q.nodes i, (i : Int) < k ∧ k < q.nodes.length := fun i hi k hk => tree_in pt hi hk
  exact ⟨tree_size pt hpk (by omega), pl.2, by omega, hpk⟩
theorem rowsP_len : ∀ (i : Nat) (l : List Px), (rowsP i l).length = l.length
  | _, [] => rfl
  | i, _ :: l => by rw [rowsP, List.length_cons, List.length_cons, rowsP_len (i + 1) l]
theorem rowsP_wt : ∀ (i : Nat) (l : List Pat), (∀ q ∈ l, patB q.nodes = true) → wtR (rowsP i (l.map fun q => ptree q.nodes 0)) + 1 ≤ Bulk.bulk l
  | _, [], _ => by simp [rowsP, wtR, Bulk.bulk]
  | i, q :: l, h => by
    have h1 := rowsP_wt (i + 1) l (fun q hq => h q (List.mem_cons_of_mem _ hq))
    have h2 := testsX_len (ptree q.nodes 0) []
    have h3 := (pat_size (h q (by simp))).1
    have h4 := bulk_length q.nodes
    rw [List.map_cons, rowsP]
    simp only [wtR, Bulk.bulk, List.map_cons, List.sum_cons] at h1 h4 ⊢
    omega
theorem testsXs_path {m : Nat} {ks : List Px} (ih : ∀ k ∈ ks, ∀ p t, t ∈ testsX k p → t.path.length ≤ p.length + pxN k) : ∀ p i t, t ∈ testsXs ks p i → t.path.length ≤ p.length + 1 + pxNs ks := by
  induction ks with
  | nil => intro p i t h; rw [testsXs] at h; cases h
  | cons k ks ihk =>
    intro p i t h
    rw [testsXs, List.mem_append] at h
    rw [pxNs]
    rcases h with h | h
    · have := ih k (by simp) _ t h
      rw [List.length_append, List.length_singleton] at this
      omega
    · have := ihk (fun k hk => ih k (List.mem_cons_of_mem _ hk)) p (i + 1) t h
      omega
theorem testsX_path : ∀ (q : Px) (p : List Int) (t : Tst), t ∈ testsX q p → t.path.length ≤ p.length + pxN q := Px.ind fun n ks ih p t h => by
  rw [testsX] at h
  rw [pxN]
  split at h
  · cases h
  · rcases List.mem_cons.1 h with rfl | h
    · simp only; omega
    · have := testsXs_path (m := 0) ih p 0 t h
      omega
theorem rowsP_mem : ∀ (i : Nat) (l : List Px) (r : TRow), r ∈ rowsP i l → ∃ q ∈ l, r.tests = testsX q []
  | _, [], r, h => by rw [rowsP] at h; cases h
  | i, q :: l, r, h => by
    rw [rowsP] at h
    rcases List.mem_cons.1 h with rfl | h
    · exact ⟨q, by simp, rfl⟩
    · obtain ⟨q', h1, h2⟩ := rowsP_mem (i + 1) l r h
      exact ⟨q', List.mem_cons_of_mem _ h1, h2⟩
theorem rowsP_in {i : Nat} {l : List Pat} (h : ∀ q ∈ l, patB q.nodes = true) : RowsIn (rowsP i (l.map fun q => ptree q.nodes 0)) := fun r hr t ht => by
  obtain ⟨q, hq, he⟩ := rowsP_mem i _ r hr
  obtain ⟨p, hp, rfl⟩ := List.mem_map.1 hq
  rw [he] at ht
  have h1 := testsX_path _ _ t ht
  have h2 := pat_size (h p hp)
  simp only [List.length_nil] at h1
  omega
def AsksPost (nm : Nat) (o : Option (List Ask)) (r : AV) (hp' : Hp) : Prop := ∃ vs, r = .tup [ov nm vs (⟨o.getD []⟩ : Asks), .bool o.isSome] ∧ hp' = oh nm vs (⟨o.getD []⟩ : Asks)
theorem asks_none (nm : Nat) (s : St) (rs : List IRes) : True := trivial
structure PoS where
  j : Nat
  u : Nat
set_option maxHeartbeats 4000000 in
theorem implAsksOf_ok (nm : Nat) (l : List Pat) (hx : Bulk.bulk l ≤ 1048576) : CallsH Try.prog 7 [.sl (l.map av)] [] (AsksPost nm (asksO l)) := by
  have hbl := bulk_length l
  have hne : ∀ {Post : AV → Hp → Prop}, (∀ r hp', Post r hp' → r = .tup [.agg [.nils], .bool false] ∧ hp' = []) → CallsH Try.prog 7 [.sl (l.map av)] [] Post → CallsH Try.prog 7 [.sl (l.map av)] [] (AsksPost nm none) := fun h0 h => callsH_goes h fun r hp' hr => by
    obtain ⟨rfl, rfl⟩ := h0 r hp' hr
    refine Goes.newT 0 0 0 (sub nm 0) 75 8 rfl rfl rfl fun u => ?_
    refine Goes.le (t := ⟨[(0, .tup [.agg [.row (sub nm 0) u 0], .bool false])], [(sub nm 0, ⟨u, false, 75, 8, []⟩)]⟩) ⟨fun _ => u, rfl, rfl⟩ (by simp +contextual -dsimp only [↓SD, SU, SB, Nat.reduceAdd, Nat.reduceBEq, Nat.reduceEqDiff, Nat.reduceLeDiff, Nat.reduceLT, Nat.reduceSub, ↓reduceIte, zA, zI, zN, reduceCtorEq, Int.reduceToNat, zE]) ⟨hg_eq, trivial⟩
  have C1 := ContainsFunc_Pat_ok l 19 [] (fun q => !patB q.nodes) (by omega) (by simp) (by intro hp; rfl) (fun q hq => asksOf1_ok q (by have h : Bulk.bulk q.nodes + 1 + 1 ≤ Bulk.bulk l := bulk_mem hq; omega))
  by_cases h0 : l = []
  · have ho : asksO l = none := by unfold asksO; rw [if_pos (.inl h0)]
    rw [ho]
    refine hne (Post := fun r hp' => r = .tup [.agg [.nils], .bool false] ∧ hp' = []) (fun _ _ h => h) (funH_impl_AsksOf rfl ?_)
    have h00 : (l.length : Int) = 0 := by rw [h0]; rfl
    simp +contextual -dsimp (maxSteps := 2000000) only [↓SD, SU, SB, Nat.reduceAdd, Nat.reduceBEq, Nat.reduceEqDiff, Nat.reduceLeDiff, Nat.reduceLT, Nat.reduceSub, ↓reduceIte, zA, zI, zN, reduceCtorEq, Int.reduceToNat, zE, Int.reduceEq, Int.reduceLT, Int.reduceLE, Int.reduceNeg, Int.reduceAdd, Int.reduceSub, ir_impl_AsksOf, rs_impl_AsksOf, map_len, h00]
    intro u
    refine Goes.post [] ?_
    simp +contextual -dsimp (maxSteps := 2000000) only [↓SD, SU, SB, Nat.reduceAdd, Nat.reduceBEq, Nat.reduceEqDiff, Nat.reduceLeDiff, Nat.reduceLT, Nat.reduceSub, ↓reduceIte, zA, zI, zN, reduceCtorEq, Int.reduceToNat, zE]
  have h00 : ¬ (l.length : Int) = 0 := fun e => h0 (List.eq_nil_of_length_eq_zero (by omega))
  cases ha : l.any fun q => !patB q.nodes with
  | true =>
    have ho : asksO l = none := by unfold asksO; rw [if_pos (.inr ha)]
    rw [ho]
    rw [ha] at C1
    refine hne (Post := fun r hp' => r = .tup [.agg [.nils], .bool false] ∧ hp' = []) (fun _ _ h => h) (funH_impl_AsksOf rfl ?_)
    simp +contextual -dsimp (maxSteps := 2000000) only [↓SD, SU, SB, Nat.reduceAdd, Nat.reduceBEq, Nat.reduceEqDiff, Nat.reduceLeDiff, Nat.reduceLT, Nat.reduceSub, ↓reduceIte, zA, zI, zN, reduceCtorEq, Int.reduceToNat, zE, Int.reduceEq, Int.reduceLT, Int.reduceLE, Int.reduceNeg, Int.reduceAdd, Int.reduceSub, ir_impl_AsksOf, rs_impl_AsksOf, map_len, h00]
    intro u
    refine aCallK_of _ C1 ?_
    simp +contextual -dsimp (maxSteps := 2000000) only [↓SD, SU, SB, Nat.reduceAdd, Nat.reduceBEq, Nat.reduceEqDiff, Nat.reduceLeDiff, Nat.reduceLT, Nat.reduceSub, ↓reduceIte, zA, zI, zN, reduceCtorEq, Int.reduceToNat, zE, Int.reduceEq, Int.reduceLT, Int.reduceLE, Int.reduceNeg, Int.reduceAdd, Int.reduceSub]
    refine Goes.post [] ?_
    simp +contextual -dsimp (maxSteps := 2000000) only [↓SD, SU, SB, Nat.reduceAdd, Nat.reduceBEq, Nat.reduceEqDiff, Nat.reduceLeDiff, Nat.reduceLT, Nat.reduceSub, ↓reduceIte, zA, zI, zN, reduceCtorEq, Int.reduceToNat, zE]
  | false =>
    rw [ha] at C1
    have hall : ∀ q ∈ l, patB q.nodes = true := fun q hq => by have := List.any_eq_false.1 ha q hq; simpa using this
    obtain ⟨f, hf⟩ : ∃ f : Pat → Px, f = fun q => ptree q.nodes 0 := ⟨_, rfl⟩
    have hwt := rowsP_wt 0 l hall
    have hin := rowsP_in (i := 0) hall
    rw [← hf] at hwt hin
    obtain ⟨P, hP⟩ : ∃ P, P = planX (wtR (rowsP 0 (l.map f)) + 1) 0 (rowsP 0 (l.map f)) := ⟨_, rfl⟩
    have ho : asksO l = if 400 < P.length then none else some P := by unfold asksO; rw [if_neg (by rw [ha]; simp [h0]), ← hf]; dsimp only; rw [← hP]
    have hPl := plan_len (wtR (rowsP 0 (l.map f)) + 1) 0 (rowsP 0 (l.map f))
    have CP := fun (nm v : Nat) => plant_ok nm v (wtR (rowsP 0 (l.map f)) + 1) (rowsP 0 (l.map f)) [] 0 (by omega) (by omega) hin (by simp)
    rw [← hP] at hPl
    unfold PlantPost at CP
    simp only [List.length_nil, Nat.zero_add, ← hP, List.nil_append] at CP
    have hP1 : 0 < P.length := by
      rw [hP, planX, if_neg (by omega)]
      cases rowsP 0 (l.map f) with
      | nil => simp [planS]
      | cons r rs =>
        rw [planS]
        cases r.tests with
        | nil => simp [planT]
        | cons t ts => simp [planT]
    have hrl : (rowsP 0 (l.map f)).length = l.length := by rw [rowsP_len, List.length_map]
    have hP0 : ¬ P.length = 0 := by omega
    have m1 : ∀ w, nodesR P.length w = .row 36 w P.length := fun w => if_neg hP0
    have m2 : ∀ w es, nodesB P.length w es = [(36, ⟨w, false, 75, 8, es⟩)] := fun w es => if_neg hP0
    have m3 : ∀ w, nodesR 0 w = .nils := fun w => rfl
    have m4 : ∀ w es, nodesB 0 w es = [] := fun w es => rfl
    unfold plantB at CP
    simp only [m1, m2, m3, m4] at CP
    clear hP
    rw [ho]
    have hrun : ∀ Post : AV → Hp → Prop, (∀ w vs, (P.length : Int) ≤ 400 → Post (.tup [.agg [.row 36 w P.length], .bool true]) ((36, ⟨w, false, 75, 8, ovL (sub nm 0) vs 0 P⟩) :: ohL (sub nm 0) vs 0 P)) → (¬ (P.length : Int) ≤ 400 → Post (.tup [.agg [.nils], .bool false]) []) → CallsH Try.prog 7 [.sl (l.map av)] [] Post := fun Post hp1 hp2 => by
      refine funH_impl_AsksOf rfl ?_
      simp +contextual -dsimp (maxSteps := 2000000) only [↓SD, SU, SB, Nat.reduceAdd, Nat.reduceBEq, Nat.reduceEqDiff, Nat.reduceLeDiff, Nat.reduceLT, Nat.reduceSub, ↓reduceIte, zA, zI, zN, reduceCtorEq, Int.reduceToNat, zE, Int.reduceEq, Int.reduceLT, Int.reduceLE, Int.reduceNeg, Int.reduceAdd, Int.reduceSub, ir_impl_AsksOf, rs_impl_AsksOf, map_len, h00]
      intro u2
      refine aCallK_of _ C1 ?_
      simp +contextual -dsimp (maxSteps := 2000000) only [↓SD, SU, SB, Nat.reduceAdd, Nat.reduceBEq, Nat.reduceEqDiff, Nat.reduceLeDiff, Nat.reduceLT, Nat.reduceSub, ↓reduceIte, zA, zI, zN, reduceCtorEq, Int.reduceToNat, zE, Int.reduceEq, Int.reduceLT, Int.reduceLE, Int.reduceNeg, Int.reduceAdd, Int.reduceSub]
      intro u32
      refine aLoop_of (X := PoS) (fun s => ⟨[(2, .ptr 2 u2 0 0), (4, .row 32 s.u s.j), (17, .sl (l.map av)), (18, .int .i64 l.length), (19, .int .i64 s.j)], [(2, ⟨u2, false, 26, 1, [.agg [.nils]]⟩), (32, ⟨s.u, false, 57, 2, (rowsP 0 ((l.take s.j).map f)).map av⟩)]⟩) (fun s => s.j ≤ l.length) (fun s => l.length - s.j) ⟨0, u32⟩ (Nat.zero_le _) (by simp +contextual -dsimp only [↓SD, SU, SB, Nat.reduceAdd, Nat.reduceBEq, Nat.reduceEqDiff, Nat.reduceLeDiff, Nat.reduceLT, Nat.reduceSub, ↓reduceIte, zA, zI, zN, reduceCtorEq, Int.reduceToNat, zE, List.take_zero, List.length_map]) (by simp +contextual -dsimp only [↓SD, SU, SB, Nat.reduceAdd, Nat.reduceBEq, Nat.reduceEqDiff, Nat.reduceLeDiff, Nat.reduceLT, Nat.reduceSub, ↓reduceIte, zA, zI, zN, reduceCtorEq, Int.reduceToNat, zE, List.take_zero, List.map_nil, rowsP]) ?_
      rintro ⟨j, u⟩ hj
      dsimp only at hj ⊢
      by_cases hlt : j < l.length
      · have e1 := getD_map av l j .top hlt
        have hq := hall l[j] (List.getElem_mem hlt)
        have hps := pat_size hq
        have hbq : Bulk.bulk l[j].nodes + 1 + 1 ≤ Bulk.bulk l := bulk_mem (List.getElem_mem hlt)
        have GQ := growPatH_ok l[j].nodes hps.2.2.2 (by omega) l[j].nodes.length 0 hps.2.2.1 (by omega)
        have TQ := callsF_argNil (a := [av (ptree l[j].nodes 0)]) (b := []) (testsOf_ok (ptree l[j].nodes 0) [] (by simp only [List.length_nil]; omega))
        have ht : rowsP 0 ((l.take (j + 1)).map f) = rowsP 0 ((l.take j).map f) ++ [⟨testsX (ptree l[j].nodes 0) [], (j : Int)⟩] := by
          rw [List.take_succ_eq_append_getElem hlt, List.map_append, List.map_cons, List.map_nil, rowsP_snoc, hf]
          simp [Nat.min_eq_left (Nat.le_of_lt hlt)]
        have hRl : (rowsP 0 ((l.take j).map f)).length = j := by rw [rowsP_len]; simp; omega
        have hRt : List.take j ((rowsP 0 ((l.take j).map f)).map av) = (rowsP 0 ((l.take j).map f)).map av := List.take_of_length_le (by rw [List.length_map]; omega)
        rw [show growX (phd l[j].nodes) (pkids l[j].nodes) l[j].nodes.length 0 = ptree l[j].nodes 0 from rfl] at GQ
        rw [List.cons_append, List.nil_append] at TQ
        generalize ptree l[j].nodes 0 = T at *
        generalize testsX T [] = TT at *
        generalize l[j] = q at *
        generalize rowsP 0 ((l.take j).map f) = R at *
        simp +contextual -dsimp (maxSteps := 2000000) only [↓SD, SU, SB, Nat.reduceAdd, Nat.reduceBEq, Nat.reduceEqDiff, Nat.reduceLeDiff, Nat.reduceLT, Nat.reduceSub, ↓reduceIte, zA, zI, zN, reduceCtorEq, Int.reduceToNat, zE, Int.reduceEq, Int.reduceLT, Int.reduceLE, Int.reduceNeg, Int.reduceAdd, Int.reduceSub, hlt, map_len, e1, av_Pat]
        intro u6
        refine aCallK_of _ GQ ?_
        simp +contextual -dsimp (maxSteps := 2000000) only [↓SD, SU, SB, Nat.reduceAdd, Nat.reduceBEq, Nat.reduceEqDiff, Nat.reduceLeDiff, Nat.reduceLT, Nat.reduceSub, ↓reduceIte, zA, zI, zN, reduceCtorEq, Int.reduceToNat, zE, Int.reduceEq, Int.reduceLT, Int.reduceLE, Int.reduceNeg, Int.reduceAdd, Int.reduceSub, px_purA]
        refine aCallK_of _ TQ ?_
        simp +contextual -dsimp (maxSteps := 2000000) only [↓SD, SU, SB, Nat.reduceAdd, Nat.reduceBEq, Nat.reduceEqDiff, Nat.reduceLeDiff, Nat.reduceLT, Nat.reduceSub, ↓reduceIte, zA, zI, zN, reduceCtorEq, Int.reduceToNat, zE, Int.reduceEq, Int.reduceLT, Int.reduceLE, Int.reduceNeg, Int.reduceAdd, Int.reduceSub, hRt, hRl]
        exact ⟨⟨by rw [List.length_map]; omega, by omega, by unfold maxLen; omega⟩, fun u' => ⟨by omega, Goes.le ⟨⟨j + 1, u'⟩, ⟨hlt, (by first | omega | (simp only; omega))⟩, rfl⟩ (by simp +contextual -dsimp only [↓SD, SU, SB, Nat.reduceAdd, Nat.reduceBEq, Nat.reduceEqDiff, Nat.reduceLeDiff, Nat.reduceLT, Nat.reduceSub, ↓reduceIte, zA, zI, zN, reduceCtorEq, Int.reduceToNat, zE, Int.natCast_add]) (by simp +contextual -dsimp only [↓SD, SU, SB, Nat.reduceAdd, Nat.reduceBEq, Nat.reduceEqDiff, Nat.reduceLeDiff, Nat.reduceLT, Nat.reduceSub, ↓reduceIte, zA, zI, zN, reduceCtorEq, Int.reduceToNat, zE, ht, List.map_append, av_TRow])⟩⟩
      · obtain rfl : j = l.length := by omega
        rw [List.take_length]
        obtain ⟨R, hR⟩ : ∃ R, R = rowsP 0 (l.map f) := ⟨_, rfl⟩
        rw [← hR] at hrl CP ⊢
        have hRm : ∀ hp, (R.map (av : TRow → AV)).map (AV.pur hp) = R.map av := fun hp => map_nop _ hp
        have hRt : List.take l.length (R.map (av : TRow → AV)) = R.map av := List.take_of_length_le (by rw [List.length_map]; omega)
        simp +contextual -dsimp (maxSteps := 2000000) only [↓SD, SU, SB, Nat.reduceAdd, Nat.reduceBEq, Nat.reduceEqDiff, Nat.reduceLeDiff, Nat.reduceLT, Nat.reduceSub, ↓reduceIte, zA, zI, zN, reduceCtorEq, Int.reduceToNat, zE, Int.reduceEq, Int.reduceLT, Int.reduceLE, Int.reduceNeg, Int.reduceAdd, Int.reduceSub, Nat.lt_irrefl]
        intro v35
        refine ghost_of (Goes.frz 32 (Goes.pur 4 (Goes.here ?_)))
        simp +contextual -dsimp (maxSteps := 2000000) only [↓SD, SU, SB, Nat.reduceAdd, Nat.reduceBEq, Nat.reduceEqDiff, Nat.reduceLeDiff, Nat.reduceLT, Nat.reduceSub, ↓reduceIte, zA, zI, zN, reduceCtorEq, Int.reduceToNat, zE, Int.reduceEq, Int.reduceLT, Int.reduceLE, Int.reduceNeg, Int.reduceAdd, Int.reduceSub, hRm, hRt, List.length_map, hrl, Nat.le_refl]
        refine aCallH_gen [35] (CP (sub nm 0) v35) (by simp +contextual -dsimp only [↓SD, SU, SB, Nat.reduceAdd, Nat.reduceBEq, Nat.reduceEqDiff, Nat.reduceLeDiff, Nat.reduceLT, Nat.reduceSub, ↓reduceIte, zA, zI, zN, reduceCtorEq, Int.reduceToNat, zE]) ?_
        rintro r hp' ⟨w, vs, rfl, rfl⟩ H hH
        have g35 : hget H 35 = some ⟨v35, false, 60, 1, [.agg [.row 36 w P.length]]⟩ := by rw [hH]; exact hg_eq
        have g36 : hget H 36 = some ⟨w, false, 75, 8, ovL (sub nm 0) vs 0 P⟩ := by rw [hH]; rfl
        have g2 : hget H 2 = some ⟨u2, false, 26, 1, [.agg [.nils]]⟩ := by
          rw [hH, List.cons_append, hg_ne (by omega), List.append_assoc, List.cons_append, hg_ne (by omega), List.nil_append, hg_app_r (fun p hp e => by
            obtain ⟨j, _, hj⟩ := ohL_in hp
            have := hj.ge
            omega), hget_rest_out (by simp)]
          rfl
        have gO : ∀ p ∈ ohL (sub nm 0) vs 0 P, hget H p.1 = some p.2 := fun p hp => by
          obtain ⟨j, _, hj⟩ := ohL_in hp
          have := hj.ge
          rw [hH, List.cons_append, hg_ne (by omega), List.append_assoc, List.cons_append, hg_ne (by omega), List.nil_append]
          exact hg_app_l (hpLe_iff.1 (ohL_self (sub nm 0) vs 0 P) p hp)
        clear hH
        have hE : ∀ x, hpLe ((2, x) :: H) (ohL (sub nm 0) vs 0 P) := fun x => hpLe_iff.2 fun p hp => by
          obtain ⟨j, _, hj⟩ := ohL_in hp
          have := hj.ge
          rw [hg_ne (by omega)]
          exact gO p hp
        obtain ⟨E, hEe⟩ : ∃ E, E = ovL (sub nm 0) vs 0 P := ⟨_, rfl⟩
        have hEl : E.length = P.length := by rw [hEe, ovL_len]
        have hp1' := hp1 w vs
        rw [← hEe] at hp1' g36
        by_cases hbig : 400 < (P.length : Int)
        · simp +contextual -dsimp (maxSteps := 2000000) only [↓SD, SU, SB, Nat.reduceAdd, Nat.reduceBEq, Nat.reduceEqDiff, Nat.reduceLeDiff, Nat.reduceLT, Nat.reduceSub, ↓reduceIte, zA, zI, zN, reduceCtorEq, Int.reduceToNat, zE, Int.reduceEq, Int.reduceLT, Int.reduceLE, Int.reduceNeg, Int.reduceAdd, Int.reduceSub, hRm, hRt, List.length_map, hrl, Nat.le_refl, g35, g36, g2, hEl, hbig]
          refine Goes.post [] ?_
          simp +contextual -dsimp (maxSteps := 2000000) only [↓SD, SU, SB, Nat.reduceAdd, Nat.reduceBEq, Nat.reduceEqDiff, Nat.reduceLeDiff, Nat.reduceLT, Nat.reduceSub, ↓reduceIte, zA, zI, zN, reduceCtorEq, Int.reduceToNat, zE, hbig]
          exact hp2 (by omega)
        · simp +contextual -dsimp (maxSteps := 2000000) only [↓SD, SU, SB, Nat.reduceAdd, Nat.reduceBEq, Nat.reduceEqDiff, Nat.reduceLeDiff, Nat.reduceLT, Nat.reduceSub, ↓reduceIte, zA, zI, zN, reduceCtorEq, Int.reduceToNat, zE, Int.reduceEq, Int.reduceLT, Int.reduceLE, Int.reduceNeg, Int.reduceAdd, Int.reduceSub, hRm, hRt, List.length_map, hrl, Nat.le_refl, g35, g36, g2, hEl, hbig]
          refine Goes.post ((36, ⟨w, false, 75, 8, E⟩) :: ohL (sub nm 0) vs 0 P) ?_
          simp +contextual -dsimp (maxSteps := 2000000) only [↓SD, SU, SB, Nat.reduceAdd, Nat.reduceBEq, Nat.reduceEqDiff, Nat.reduceLeDiff, Nat.reduceLT, Nat.reduceSub, ↓reduceIte, zA, zI, zN, reduceCtorEq, Int.reduceToNat, zE, g36, hE]
          exact hp1' (by omega)
    by_cases hbig : 400 < P.length
    · rw [if_pos hbig]
      refine hne (Post := fun r hp' => r = .tup [.agg [.nils], .bool false] ∧ hp' = []) (fun _ _ h => h) (hrun _ (fun w vs h => by omega) (fun _ => ⟨rfl, rfl⟩))
    · rw [if_neg hbig]
      refine callsH_goes (Post := fun r hp' => ∃ w vs, r = .tup [.agg [.row 36 w P.length], .bool true] ∧ hp' = ((36, ⟨w, false, 75, 8, ovL (sub nm 0) vs 0 P⟩) :: ohL (sub nm 0) vs 0 P)) (hrun _ (fun w vs h => ⟨w, vs, rfl, rfl⟩) (fun h => by omega)) ?_
      rintro r hp' ⟨w, vs, rfl, rfl⟩
      refine Goes.renT 0 0 0 36 (sub nm 0) (v := w) (n := P.length) rfl rfl rfl hg_eq rfl fun v' => ?_
      obtain ⟨H', hH'⟩ : ∃ H', H' = ((sub nm 0, ⟨v', false, 75, 8, ovL (sub nm 0) vs 0 P⟩) :: hrest [36] ((36, ⟨w, false, 75, 8, ovL (sub nm 0) vs 0 P⟩) :: ohL (sub nm 0) vs 0 P) : Hp) := ⟨_, rfl⟩
      have hle := full_le (α := Ask) (nm := sub nm 0) (j := 36) (l := P) (vs := vs) (by omega) hH'
      dsimp only
      rw [← hH']
      refine Goes.le (t := ⟨[(0, .tup [.agg [.row (sub nm 0) v' P.length], .bool true])], oh (sub nm 0) (glue (sub nm 0) (fun k => if k = sub nm 0 then v' else vs k) vs) P⟩) ?_ (by simp +contextual -dsimp only [↓SD, SU, SB, Nat.reduceAdd, Nat.reduceBEq, Nat.reduceEqDiff, Nat.reduceLeDiff, Nat.reduceLT, Nat.reduceSub, ↓reduceIte, zA, zI, zN, reduceCtorEq, Int.reduceToNat, zE]) hle
      exact ⟨_, by rw [Option.getD_some, ov_Asks]; rw [← (oh_full (nm := sub nm 0) (vs := vs) (v' := v') P).1]; rfl, rfl⟩
end Go.Proofs.Ytohalepkikjinaa
