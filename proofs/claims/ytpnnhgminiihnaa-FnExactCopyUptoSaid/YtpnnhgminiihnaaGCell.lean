/-
  Val, Cell BY ABSTRACT TEXTS: as abstract values, copies, comparisons, sizes. Conditions: none. Printed by genav.py.
-/
import Derived.Test.YtpnnhgminiihnaaDCell
import Derived.Test.YtpnnhgminiihnaaAvRep
import Derived.Test.YtpnnhgminiihnaaIrGCell
set_option linter.unusedVariables false
set_option linter.unusedSimpArgs false
set_option maxRecDepth 100000
namespace Go.Proofs.Ytpnnhgminiihnaa
open Go.RowKit Go.Proofs.Ytpnnhgminiihnaa.Av Go.Proofs.Ytpnnhgminiihnaa.Ml
open Go.Proofs.Ytpnnhgminiihnaa.Av.AVal (av)

instance : AVal Val := ⟨fun x => .agg [.int .i64 x.kind, .int .i64 x.n, .str x.s], 3, fun _ => rfl, fun _ => rfl, fun x y hy => by
  simp only [AV.cells, List.mem_cons, List.not_mem_nil, or_false] at hy
  rcases hy with rfl | rfl | rfl <;> first | exact AvPure.int _ _ | exact AvPure.str _ | exact AvPure.bool _, fun _ _ => rfl, fun x y hy => by
  simp only [AV.cells, List.mem_cons, List.not_mem_nil, or_false] at hy
  rcases hy with rfl | rfl | rfl <;> rfl⟩
theorem av_Val (x : Val) : av x = .agg [.int .i64 x.kind, .int .i64 x.n, .str x.s] := eqq rfl
instance : AvRep Val := ⟨fun {S w cs y} h => by
  obtain ⟨rfl, h0, h1, h2⟩ := h
  exact VRs.cons (.int _ _ h0.1 h0.2) (VRs.cons (.int _ _ h1.1 h1.2) (VRs.cons (.str _ h2) (VRs.nil)))⟩

instance : AVal Cell := ⟨fun x => .agg [.int .i64 x.kind, .int .i64 x.n, .str x.s, .int .i64 x.a.kind, .int .i64 x.a.n, .str x.a.s, .int .i64 x.b.kind, .int .i64 x.b.n, .str x.b.s], 9, fun _ => rfl, fun _ => rfl, fun x y hy => by
  simp only [AV.cells, List.mem_cons, List.not_mem_nil, or_false] at hy
  rcases hy with rfl | rfl | rfl | rfl | rfl | rfl | rfl | rfl | rfl <;> first | exact AvPure.int _ _ | exact AvPure.str _ | exact AvPure.bool _, fun _ _ => rfl, fun x y hy => by
  simp only [AV.cells, List.mem_cons, List.not_mem_nil, or_false] at hy
  rcases hy with rfl | rfl | rfl | rfl | rfl | rfl | rfl | rfl | rfl <;> rfl⟩
theorem av_Cell (x : Cell) : av x = .agg [.int .i64 x.kind, .int .i64 x.n, .str x.s, .int .i64 x.a.kind, .int .i64 x.a.n, .str x.a.s, .int .i64 x.b.kind, .int .i64 x.b.n, .str x.b.s] := eqq rfl
instance : AvRep Cell := ⟨fun {S w cs y} h => by
  obtain ⟨rfl, h0, h1, h2, h3, h4, h5, h6, h7, h8⟩ := h
  exact VRs.cons (.int _ _ h0.1 h0.2) (VRs.cons (.int _ _ h1.1 h1.2) (VRs.cons (.str _ h2) (VRs.cons (.int _ _ h3.1 h3.2) (VRs.cons (.int _ _ h4.1 h4.2) (VRs.cons (.str _ h5) (VRs.cons (.int _ _ h6.1 h6.2) (VRs.cons (.int _ _ h7.1 h7.2) (VRs.cons (.str _ h8) (VRs.nil)))))))))⟩

theorem szVal_ok (x : Val) (n : Int) (hx : Bulk.bulk x ≤ 1048576) (h1 : -1 ≤ n) (h2 : n ≤ 1048576) : SzOk 8 [av x, .int .i64 n] := by
  have hb : Bulk.bulk x.kind + Bulk.bulk x.n + Bulk.bulk x.s + 1 ≤ 1048576 := hx
  have e2 : Bulk.bulk x.s = x.s.size + 1 := rfl
  refine funH_laws_szVal rfl ?_
  simp +contextual -dsimp (maxSteps := 2000000) only [↓SD, SU, SB, Nat.reduceAdd, Nat.reduceBEq, Nat.reduceEqDiff, Nat.reduceLeDiff, Nat.reduceLT, Nat.reduceSub, ↓reduceIte, forall_const, implies_true, ne_eq, reduceCtorEq, Int.reduceToNat, forall_eq, ir_laws_szVal, rs_laws_szVal, av_Val]
  (repeat' (first | intro _ | refine And.intro ?_ ?_))
  all_goals first | omega | (refine Goes.post [] ?_; simp +contextual -dsimp (maxSteps := 2000000) only [↓SD, SU, SB, Nat.reduceAdd, Nat.reduceBEq, Nat.reduceEqDiff, Nat.reduceLeDiff, Nat.reduceLT, Nat.reduceSub, ↓reduceIte, forall_const, implies_true, ne_eq, reduceCtorEq, Int.reduceToNat, forall_eq, rs_laws_szVal]; exact ⟨_, rfl, rfl, by omega, by omega⟩)

theorem toVal_ok (x : Val) (hx : Bulk.bulk x ≤ 1048576) : CallsF Try.prog 11 [av x] (av x) := by
  have hb : Bulk.bulk x.kind + Bulk.bulk x.n + Bulk.bulk x.s + 1 ≤ 1048576 := hx
  refine fun_laws_toVal rfl (by simp; exact AVal.clean x) (AVal.clean x) ?_
  simp +contextual -dsimp (maxSteps := 2000000) only [↓SD, SU, SB, Nat.reduceAdd, Nat.reduceBEq, Nat.reduceEqDiff, Nat.reduceLeDiff, Nat.reduceLT, Nat.reduceSub, ↓reduceIte, forall_const, implies_true, ne_eq, reduceCtorEq, Int.reduceToNat, forall_eq, ir_laws_toVal, rs_laws_toVal, av_Val]

theorem eqVal_ok (x : Val) (hx : Bulk.bulk x ≤ 1048576) : CallsF Try.prog 39 [av x, av x] (.bool true) := by
  have hb : Bulk.bulk x.kind + Bulk.bulk x.n + Bulk.bulk x.s + 1 ≤ 1048576 := hx
  refine fun_laws_eqVal rfl (by simp; exact AVal.clean x) (AvPure.bool _) ?_
  simp +contextual -dsimp (maxSteps := 2000000) only [↓SD, SU, SB, Nat.reduceAdd, Nat.reduceBEq, Nat.reduceEqDiff, Nat.reduceLeDiff, Nat.reduceLT, Nat.reduceSub, ↓reduceIte, forall_const, implies_true, ne_eq, reduceCtorEq, Int.reduceToNat, forall_eq, ir_laws_eqVal, rs_laws_eqVal, av_Val, beq_self_eq_true]

theorem szCell_ok (x : Cell) (n : Int) (hx : Bulk.bulk x ≤ 1048576) (h1 : -1 ≤ n) (h2 : n ≤ 1048576) : SzOk 30 [av x, .int .i64 n] := by
  have hb : Bulk.bulk x.kind + Bulk.bulk x.n + Bulk.bulk x.s + Bulk.bulk x.a + Bulk.bulk x.b + 1 ≤ 1048576 := hx
  have e2 : Bulk.bulk x.s = x.s.size + 1 := rfl
  refine funH_laws_szCell rfl ?_
  simp +contextual -dsimp (maxSteps := 2000000) only [↓SD, SU, SB, Nat.reduceAdd, Nat.reduceBEq, Nat.reduceEqDiff, Nat.reduceLeDiff, Nat.reduceLT, Nat.reduceSub, ↓reduceIte, forall_const, implies_true, ne_eq, reduceCtorEq, Int.reduceToNat, forall_eq, ir_laws_szCell, rs_laws_szCell, av_Cell]
  (repeat' (first | intro _ | refine And.intro ?_ ?_))
  all_goals first | omega | (refine Goes.post [] ?_; simp +contextual -dsimp (maxSteps := 2000000) only [↓SD, SU, SB, Nat.reduceAdd, Nat.reduceBEq, Nat.reduceEqDiff, Nat.reduceLeDiff, Nat.reduceLT, Nat.reduceSub, ↓reduceIte, forall_const, implies_true, ne_eq, reduceCtorEq, Int.reduceToNat, forall_eq, rs_laws_szCell]; exact ⟨_, rfl, rfl, by omega, by omega⟩) | (refine aCallH_of [] (szVal_ok x.a _ (by omega)  (by omega) (by omega)) (by simp +contextual -dsimp (maxSteps := 2000000) only [↓SD, SU, SB, Nat.reduceAdd, Nat.reduceBEq, Nat.reduceEqDiff, Nat.reduceLeDiff, Nat.reduceLT, Nat.reduceSub, ↓reduceIte, forall_const, implies_true, ne_eq, reduceCtorEq, Int.reduceToNat, forall_eq]) ?_; rintro r hp' ⟨m, rfl, rfl, hm1, hm2⟩; simp +contextual -dsimp (maxSteps := 2000000) only [↓SD, SU, SB, Nat.reduceAdd, Nat.reduceBEq, Nat.reduceEqDiff, Nat.reduceLeDiff, Nat.reduceLT, Nat.reduceSub, ↓reduceIte, forall_const, implies_true, ne_eq, reduceCtorEq, Int.reduceToNat, forall_eq]; (repeat' (first | intro _ | refine And.intro ?_ ?_))) | (refine aCallH_of [] (szVal_ok x.b _ (by omega)  (by omega) (by omega)) (by simp +contextual -dsimp (maxSteps := 2000000) only [↓SD, SU, SB, Nat.reduceAdd, Nat.reduceBEq, Nat.reduceEqDiff, Nat.reduceLeDiff, Nat.reduceLT, Nat.reduceSub, ↓reduceIte, forall_const, implies_true, ne_eq, reduceCtorEq, Int.reduceToNat, forall_eq]) ?_; rintro r hp' ⟨m, rfl, rfl, hm1, hm2⟩; simp +contextual -dsimp (maxSteps := 2000000) only [↓SD, SU, SB, Nat.reduceAdd, Nat.reduceBEq, Nat.reduceEqDiff, Nat.reduceLeDiff, Nat.reduceLT, Nat.reduceSub, ↓reduceIte, forall_const, implies_true, ne_eq, reduceCtorEq, Int.reduceToNat, forall_eq]; (repeat' (first | intro _ | refine And.intro ?_ ?_)))
  all_goals first | omega | (refine Goes.post [] ?_; simp +contextual -dsimp (maxSteps := 2000000) only [↓SD, SU, SB, Nat.reduceAdd, Nat.reduceBEq, Nat.reduceEqDiff, Nat.reduceLeDiff, Nat.reduceLT, Nat.reduceSub, ↓reduceIte, forall_const, implies_true, ne_eq, reduceCtorEq, Int.reduceToNat, forall_eq, rs_laws_szCell]; exact ⟨_, rfl, rfl, by omega, by omega⟩) | (refine aCallH_of [] (szVal_ok x.a _ (by omega)  (by omega) (by omega)) (by simp +contextual -dsimp (maxSteps := 2000000) only [↓SD, SU, SB, Nat.reduceAdd, Nat.reduceBEq, Nat.reduceEqDiff, Nat.reduceLeDiff, Nat.reduceLT, Nat.reduceSub, ↓reduceIte, forall_const, implies_true, ne_eq, reduceCtorEq, Int.reduceToNat, forall_eq]) ?_; rintro r hp' ⟨m, rfl, rfl, hm1, hm2⟩; simp +contextual -dsimp (maxSteps := 2000000) only [↓SD, SU, SB, Nat.reduceAdd, Nat.reduceBEq, Nat.reduceEqDiff, Nat.reduceLeDiff, Nat.reduceLT, Nat.reduceSub, ↓reduceIte, forall_const, implies_true, ne_eq, reduceCtorEq, Int.reduceToNat, forall_eq]; (repeat' (first | intro _ | refine And.intro ?_ ?_))) | (refine aCallH_of [] (szVal_ok x.b _ (by omega)  (by omega) (by omega)) (by simp +contextual -dsimp (maxSteps := 2000000) only [↓SD, SU, SB, Nat.reduceAdd, Nat.reduceBEq, Nat.reduceEqDiff, Nat.reduceLeDiff, Nat.reduceLT, Nat.reduceSub, ↓reduceIte, forall_const, implies_true, ne_eq, reduceCtorEq, Int.reduceToNat, forall_eq]) ?_; rintro r hp' ⟨m, rfl, rfl, hm1, hm2⟩; simp +contextual -dsimp (maxSteps := 2000000) only [↓SD, SU, SB, Nat.reduceAdd, Nat.reduceBEq, Nat.reduceEqDiff, Nat.reduceLeDiff, Nat.reduceLT, Nat.reduceSub, ↓reduceIte, forall_const, implies_true, ne_eq, reduceCtorEq, Int.reduceToNat, forall_eq]; (repeat' (first | intro _ | refine And.intro ?_ ?_)))
  all_goals first | omega | (refine Goes.post [] ?_; simp +contextual -dsimp (maxSteps := 2000000) only [↓SD, SU, SB, Nat.reduceAdd, Nat.reduceBEq, Nat.reduceEqDiff, Nat.reduceLeDiff, Nat.reduceLT, Nat.reduceSub, ↓reduceIte, forall_const, implies_true, ne_eq, reduceCtorEq, Int.reduceToNat, forall_eq, rs_laws_szCell]; exact ⟨_, rfl, rfl, by omega, by omega⟩)

theorem toCell_ok (x : Cell) (hx : Bulk.bulk x ≤ 1048576) : CallsF Try.prog 33 [av x] (av x) := by
  have hb : Bulk.bulk x.kind + Bulk.bulk x.n + Bulk.bulk x.s + Bulk.bulk x.a + Bulk.bulk x.b + 1 ≤ 1048576 := hx
  refine fun_laws_toCell rfl (by simp; exact AVal.clean x) (AVal.clean x) ?_
  simp +contextual -dsimp (maxSteps := 2000000) only [↓SD, SU, SB, Nat.reduceAdd, Nat.reduceBEq, Nat.reduceEqDiff, Nat.reduceLeDiff, Nat.reduceLT, Nat.reduceSub, ↓reduceIte, forall_const, implies_true, ne_eq, reduceCtorEq, Int.reduceToNat, forall_eq, ir_laws_toCell, rs_laws_toCell, av_Cell]
  (repeat' (first | intro _ | refine And.intro ?_ ?_))
  have C := toVal_ok x.a (by omega)
  rw [av_Val] at C
  refine aCallK_of _ C ?_
  clear C
  simp +contextual -dsimp (maxSteps := 2000000) only [↓SD, SU, SB, Nat.reduceAdd, Nat.reduceBEq, Nat.reduceEqDiff, Nat.reduceLeDiff, Nat.reduceLT, Nat.reduceSub, ↓reduceIte, forall_const, implies_true, ne_eq, reduceCtorEq, Int.reduceToNat, forall_eq]
  (repeat' (first | intro _ | refine And.intro ?_ ?_))
  have C := toVal_ok x.b (by omega)
  rw [av_Val] at C
  refine aCallK_of _ C ?_
  clear C
  simp +contextual -dsimp (maxSteps := 2000000) only [↓SD, SU, SB, Nat.reduceAdd, Nat.reduceBEq, Nat.reduceEqDiff, Nat.reduceLeDiff, Nat.reduceLT, Nat.reduceSub, ↓reduceIte, forall_const, implies_true, ne_eq, reduceCtorEq, Int.reduceToNat, forall_eq]

theorem eqCell_ok (x : Cell) (hx : Bulk.bulk x ≤ 1048576) : CallsF Try.prog 36 [av x, av x] (.bool true) := by
  have hb : Bulk.bulk x.kind + Bulk.bulk x.n + Bulk.bulk x.s + Bulk.bulk x.a + Bulk.bulk x.b + 1 ≤ 1048576 := hx
  refine fun_laws_eqCell rfl (by simp; exact AVal.clean x) (AvPure.bool _) ?_
  simp +contextual -dsimp (maxSteps := 2000000) only [↓SD, SU, SB, Nat.reduceAdd, Nat.reduceBEq, Nat.reduceEqDiff, Nat.reduceLeDiff, Nat.reduceLT, Nat.reduceSub, ↓reduceIte, forall_const, implies_true, ne_eq, reduceCtorEq, Int.reduceToNat, forall_eq, ir_laws_eqCell, rs_laws_eqCell, av_Cell, beq_self_eq_true]
  have C := eqVal_ok x.a (by omega)
  rw [av_Val] at C
  refine aCallK_of _ C ?_
  clear C
  simp +contextual -dsimp (maxSteps := 2000000) only [↓SD, SU, SB, Nat.reduceAdd, Nat.reduceBEq, Nat.reduceEqDiff, Nat.reduceLeDiff, Nat.reduceLT, Nat.reduceSub, ↓reduceIte, forall_const, implies_true, ne_eq, reduceCtorEq, Int.reduceToNat, forall_eq, beq_self_eq_true]
  have C := eqVal_ok x.b (by omega)
  rw [av_Val] at C
  refine aCallK_of _ C ?_
  clear C
  simp +contextual -dsimp (maxSteps := 2000000) only [↓SD, SU, SB, Nat.reduceAdd, Nat.reduceBEq, Nat.reduceEqDiff, Nat.reduceLeDiff, Nat.reduceLT, Nat.reduceSub, ↓reduceIte, forall_const, implies_true, ne_eq, reduceCtorEq, Int.reduceToNat, forall_eq, beq_self_eq_true]

end Go.Proofs.Ytpnnhgminiihnaa
