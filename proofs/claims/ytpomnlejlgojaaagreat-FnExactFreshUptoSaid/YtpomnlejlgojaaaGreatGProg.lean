/-
  Con, Type, Node, Program BY ABSTRACT TEXTS: as abstract values, copies, comparisons, sizes. Conditions: none. Printed by genav.py.
-/
import Derived.Test.YtpomnlejlgojaaaGreatPackA
import Derived.Test.YtpomnlejlgojaaaGreatGTy
import Derived.Test.YtpomnlejlgojaaaGreatGPatS
import Derived.Test.YtpomnlejlgojaaaGreatIrGProg
set_option linter.unusedVariables false
set_option linter.unusedSimpArgs false
set_option maxRecDepth 100000
namespace Go.Proofs.YtpomnlejlgojaaaGreat
open Go.RowKit Go.Proofs.YtpomnlejlgojaaaGreat.Av Go.Proofs.YtpomnlejlgojaaaGreat.Ml
open Go.Proofs.YtpomnlejlgojaaaGreat.Av.AVal (av)

instance : AVal Con := ⟨fun x => .agg [.str x.name, .bool x.has, .sl (x.arg.items.map av)], 3, fun _ => rfl, fun _ => rfl, fun x y hy => by
  simp only [AV.cells, List.mem_cons, List.not_mem_nil, or_false] at hy
  rcases hy with rfl | rfl | rfl <;> first | exact AvPure.int _ _ | exact AvPure.str _ | exact AvPure.bool _ | exact lav_clean x.arg.items, fun _ _ => rfl, fun x y hy => by
  simp only [AV.cells, List.mem_cons, List.not_mem_nil, or_false] at hy
  rcases hy with rfl | rfl | rfl <;> rfl⟩
theorem av_Con (x : Con) : av x = .agg [.str x.name, .bool x.has, .sl (x.arg.items.map av)] := eqq rfl
instance : AvRep Con := ⟨fun {S w cs y} h => by
  obtain ⟨v2, rfl, h0, r2⟩ := h
  exact VRs.cons (.str _ h0) (VRs.cons (.bool _) (VRs.cons (repSl_vr r2) (VRs.nil)))⟩

instance : AVal TypeD := ⟨fun x => .agg [.str x.name, .int .i64 x.params, .sl (x.cons.map av)], 3, fun _ => rfl, fun _ => rfl, fun x y hy => by
  simp only [AV.cells, List.mem_cons, List.not_mem_nil, or_false] at hy
  rcases hy with rfl | rfl | rfl <;> first | exact AvPure.int _ _ | exact AvPure.str _ | exact AvPure.bool _ | exact lav_clean x.cons, fun _ _ => rfl, fun x y hy => by
  simp only [AV.cells, List.mem_cons, List.not_mem_nil, or_false] at hy
  rcases hy with rfl | rfl | rfl <;> rfl⟩
theorem av_TypeD (x : TypeD) : av x = .agg [.str x.name, .int .i64 x.params, .sl (x.cons.map av)] := eqq rfl
instance : AvRep TypeD := ⟨fun {S w cs y} h => by
  obtain ⟨v2, rfl, h0, h1, r2⟩ := h
  exact VRs.cons (.str _ h0) (VRs.cons (.int _ _ h1.1 h1.2) (VRs.cons (repSl_vr r2) (VRs.nil)))⟩

instance : AVal Node := ⟨fun x => .agg [.int .i64 x.kind, .int .i64 x.pos, .int .i64 x.n, .str x.s, .sl (x.kids.map av), .sl (x.pats.map av)], 6, fun _ => rfl, fun _ => rfl, fun x y hy => by
  simp only [AV.cells, List.mem_cons, List.not_mem_nil, or_false] at hy
  rcases hy with rfl | rfl | rfl | rfl | rfl | rfl <;> first | exact AvPure.int _ _ | exact AvPure.str _ | exact AvPure.bool _ | exact lav_clean x.kids | exact lav_clean x.pats, fun _ _ => rfl, fun x y hy => by
  simp only [AV.cells, List.mem_cons, List.not_mem_nil, or_false] at hy
  rcases hy with rfl | rfl | rfl | rfl | rfl | rfl <;> rfl⟩
theorem av_Node (x : Node) : av x = .agg [.int .i64 x.kind, .int .i64 x.pos, .int .i64 x.n, .str x.s, .sl (x.kids.map av), .sl (x.pats.map av)] := eqq rfl
instance : AvRep Node := ⟨fun {S w cs y} h => by
  obtain ⟨v4, v5, rfl, h0, h1, h2, h3, r4, r5⟩ := h
  exact VRs.cons (.int _ _ h0.1 h0.2) (VRs.cons (.int _ _ h1.1 h1.2) (VRs.cons (.int _ _ h2.1 h2.2) (VRs.cons (.str _ h3) (VRs.cons (repSl_vr r4) (VRs.cons (repSl_vr r5) (VRs.nil))))))⟩

instance : AVal Program := ⟨fun x => .agg [.sl (x.types.map av), .sl (x.nodes.map av)], 2, fun _ => rfl, fun _ => rfl, fun x y hy => by
  simp only [AV.cells, List.mem_cons, List.not_mem_nil, or_false] at hy
  rcases hy with rfl | rfl <;> first | exact AvPure.int _ _ | exact AvPure.str _ | exact AvPure.bool _ | exact lav_clean x.types | exact lav_clean x.nodes, fun _ _ => rfl, fun x y hy => by
  simp only [AV.cells, List.mem_cons, List.not_mem_nil, or_false] at hy
  rcases hy with rfl | rfl <;> rfl⟩
theorem av_Program (x : Program) : av x = .agg [.sl (x.types.map av), .sl (x.nodes.map av)] := eqq rfl
instance : AvRep Program := ⟨fun {S w cs y} h => by
  obtain ⟨v0, v1, rfl, r0, r1⟩ := h
  exact VRs.cons (repSl_vr r0) (VRs.cons (repSl_vr r1) (VRs.nil))⟩

theorem szCon_ok (x : Con) (n : Int) (hx : Bulk.bulk x ≤ 1048576) (h1 : -1 ≤ n) (h2 : n ≤ 1048576) : SzOk 201 [av x, .int .i64 n] := by
  have hb : Bulk.bulk x.name + Bulk.bulk x.has + Bulk.bulk x.arg + 1 ≤ 1048576 := hx
  have e0 : Bulk.bulk x.name = x.name.size + 1 := rfl
  refine funH_laws_szCon rfl ?_
  simp +contextual -dsimp (maxSteps := 2000000) only [↓SD, SU, SB, Nat.reduceAdd, Nat.reduceBEq, Nat.reduceEqDiff, Nat.reduceLeDiff, Nat.reduceLT, Nat.reduceSub, ↓reduceIte, forall_const, implies_true, ne_eq, reduceCtorEq, Int.reduceToNat, forall_eq, ir_laws_szCon, rs_laws_szCon, av_Con]
  (repeat' (first | intro _ | refine And.intro ?_ ?_))
  all_goals first | omega | (refine Goes.post [] ?_; simp +contextual -dsimp (maxSteps := 2000000) only [↓SD, SU, SB, Nat.reduceAdd, Nat.reduceBEq, Nat.reduceEqDiff, Nat.reduceLeDiff, Nat.reduceLT, Nat.reduceSub, ↓reduceIte, forall_const, implies_true, ne_eq, reduceCtorEq, Int.reduceToNat, forall_eq, rs_laws_szCon]; exact ⟨_, rfl, rfl, by omega, by omega⟩) | (refine aCallH_of [] (szTy_ok x.arg _ (by omega)  (by omega) (by omega)) (by simp +contextual -dsimp (maxSteps := 2000000) only [↓SD, SU, SB, Nat.reduceAdd, Nat.reduceBEq, Nat.reduceEqDiff, Nat.reduceLeDiff, Nat.reduceLT, Nat.reduceSub, ↓reduceIte, forall_const, implies_true, ne_eq, reduceCtorEq, Int.reduceToNat, forall_eq]) ?_; rintro r hp' ⟨m, rfl, rfl, hm1, hm2⟩; simp +contextual -dsimp (maxSteps := 2000000) only [↓SD, SU, SB, Nat.reduceAdd, Nat.reduceBEq, Nat.reduceEqDiff, Nat.reduceLeDiff, Nat.reduceLT, Nat.reduceSub, ↓reduceIte, forall_const, implies_true, ne_eq, reduceCtorEq, Int.reduceToNat, forall_eq]; (repeat' (first | intro _ | refine And.intro ?_ ?_)))
  all_goals first | omega | (refine Goes.post [] ?_; simp +contextual -dsimp (maxSteps := 2000000) only [↓SD, SU, SB, Nat.reduceAdd, Nat.reduceBEq, Nat.reduceEqDiff, Nat.reduceLeDiff, Nat.reduceLT, Nat.reduceSub, ↓reduceIte, forall_const, implies_true, ne_eq, reduceCtorEq, Int.reduceToNat, forall_eq, rs_laws_szCon]; exact ⟨_, rfl, rfl, by omega, by omega⟩)

theorem toCon_ok (x : Con) (hx : Bulk.bulk x ≤ 1048576) : CallsF Tryz.prog 203 [av x] (av x) := by
  have hb : Bulk.bulk x.name + Bulk.bulk x.has + Bulk.bulk x.arg + 1 ≤ 1048576 := hx
  refine fun_laws_toCon rfl (by simp; exact AVal.clean x) (AVal.clean x) ?_
  simp +contextual -dsimp (maxSteps := 2000000) only [↓SD, SU, SB, Nat.reduceAdd, Nat.reduceBEq, Nat.reduceEqDiff, Nat.reduceLeDiff, Nat.reduceLT, Nat.reduceSub, ↓reduceIte, forall_const, implies_true, ne_eq, reduceCtorEq, Int.reduceToNat, forall_eq, ir_laws_toCon, rs_laws_toCon, av_Con]
  (repeat' (first | intro _ | refine And.intro ?_ ?_))
  have C := toTy_ok x.arg (by omega)
  rw [av_Ty] at C
  refine aCallK_of _ C ?_
  clear C
  simp +contextual -dsimp (maxSteps := 2000000) only [↓SD, SU, SB, Nat.reduceAdd, Nat.reduceBEq, Nat.reduceEqDiff, Nat.reduceLeDiff, Nat.reduceLT, Nat.reduceSub, ↓reduceIte, forall_const, implies_true, ne_eq, reduceCtorEq, Int.reduceToNat, forall_eq]

theorem eqCon_ok (x : Con) (hx : Bulk.bulk x ≤ 1048576) : CallsF Tryz.prog 215 [av x, av x] (.bool true) := by
  have hb : Bulk.bulk x.name + Bulk.bulk x.has + Bulk.bulk x.arg + 1 ≤ 1048576 := hx
  refine fun_laws_eqCon rfl (by simp; exact AVal.clean x) (AvPure.bool _) ?_
  simp +contextual -dsimp (maxSteps := 2000000) only [↓SD, SU, SB, Nat.reduceAdd, Nat.reduceBEq, Nat.reduceEqDiff, Nat.reduceLeDiff, Nat.reduceLT, Nat.reduceSub, ↓reduceIte, forall_const, implies_true, ne_eq, reduceCtorEq, Int.reduceToNat, forall_eq, ir_laws_eqCon, rs_laws_eqCon, av_Con, beq_self_eq_true]
  have C := eqTy_ok x.arg (by omega)
  rw [av_Ty] at C
  refine aCallK_of _ C ?_
  clear C
  simp +contextual -dsimp (maxSteps := 2000000) only [↓SD, SU, SB, Nat.reduceAdd, Nat.reduceBEq, Nat.reduceEqDiff, Nat.reduceLeDiff, Nat.reduceLT, Nat.reduceSub, ↓reduceIte, forall_const, implies_true, ne_eq, reduceCtorEq, Int.reduceToNat, forall_eq, beq_self_eq_true]

theorem szConS_ok (l : List Con) (n : Int) (hx : Bulk.bulk l ≤ 1048576) (h1 : -1 ≤ n) (h2 : n ≤ 1048576) : SzOk 142 [.sl (l.map av), .int .i64 n] := by
  have hl := bulk_length l
  refine funH_laws_szConS rfl ?_
  simp +contextual -dsimp (maxSteps := 2000000) only [↓SD, SU, SB, Nat.reduceAdd, Nat.reduceBEq, Nat.reduceEqDiff, Nat.reduceLeDiff, Nat.reduceLT, Nat.reduceSub, ↓reduceIte, forall_const, implies_true, ne_eq, reduceCtorEq, Int.reduceToNat, forall_eq, ir_laws_szConS, rs_laws_szConS, map_len]
  refine ⟨by omega, fun h => ?_, fun h => ?_⟩
  · refine Goes.post [] ?_; simp +contextual -dsimp (maxSteps := 2000000) only [↓SD, SU, SB, Nat.reduceAdd, Nat.reduceBEq, Nat.reduceEqDiff, Nat.reduceLeDiff, Nat.reduceLT, Nat.reduceSub, ↓reduceIte, forall_const, implies_true, ne_eq, reduceCtorEq, Int.reduceToNat, forall_eq, rs_laws_szConS]; exact ⟨_, rfl, rfl, by omega, by omega⟩
  refine aLoop_of (X := Nat × Int) (fun x => ⟨[(0, .sl (l.map av)), (1, .int .i64 x.2), (5, .int .i64 x.1)], []⟩) (fun x => x.1 ≤ l.length ∧ 0 ≤ x.2 ∧ x.2 ≤ 1048576) (fun x => l.length - x.1) (0, n - l.length) ⟨Nat.zero_le _, by simp only; omega, by simp only; omega⟩ (by simp +contextual -dsimp (maxSteps := 2000000) only [↓SD, SU, SB, Nat.reduceAdd, Nat.reduceBEq, Nat.reduceEqDiff, Nat.reduceLeDiff, Nat.reduceLT, Nat.reduceSub, ↓reduceIte, forall_const, implies_true, ne_eq, reduceCtorEq, Int.reduceToNat, forall_eq]) trivial ?_
  rintro ⟨k, m⟩ ⟨hk, hm0, hm1⟩
  simp only at hk hm0 hm1
  by_cases hlt : k < l.length
  · have e := getD_map av l k .top hlt
    have hbk : Bulk.bulk l[k] ≤ 1048576 := by have := bulk_mem (List.getElem_mem hlt); omega
    simp +contextual -dsimp (maxSteps := 2000000) only [↓SD, SU, SB, Nat.reduceAdd, Nat.reduceBEq, Nat.reduceEqDiff, Nat.reduceLeDiff, Nat.reduceLT, Nat.reduceSub, ↓reduceIte, forall_const, implies_true, ne_eq, reduceCtorEq, Int.reduceToNat, forall_eq, map_len, hlt, e, av_Con]
    refine aCallH_of [] (szCon_ok l[k] m hbk (by omega) hm1) (by simp +contextual -dsimp (maxSteps := 2000000) only [↓SD, SU, SB, Nat.reduceAdd, Nat.reduceBEq, Nat.reduceEqDiff, Nat.reduceLeDiff, Nat.reduceLT, Nat.reduceSub, ↓reduceIte, forall_const, implies_true, ne_eq, reduceCtorEq, Int.reduceToNat, forall_eq]) ?_
    rintro r hp' ⟨q, rfl, rfl, hq1, hq2⟩
    simp +contextual -dsimp (maxSteps := 2000000) only [↓SD, SU, SB, Nat.reduceAdd, Nat.reduceBEq, Nat.reduceEqDiff, Nat.reduceLeDiff, Nat.reduceLT, Nat.reduceSub, ↓reduceIte, forall_const, implies_true, ne_eq, reduceCtorEq, Int.reduceToNat, forall_eq]
    (repeat' (first | intro _ | refine And.intro ?_ ?_))
    all_goals first | omega | (refine Goes.post [] ?_; simp +contextual -dsimp (maxSteps := 2000000) only [↓SD, SU, SB, Nat.reduceAdd, Nat.reduceBEq, Nat.reduceEqDiff, Nat.reduceLeDiff, Nat.reduceLT, Nat.reduceSub, ↓reduceIte, forall_const, implies_true, ne_eq, reduceCtorEq, Int.reduceToNat, forall_eq, rs_laws_szConS]; exact ⟨_, rfl, rfl, by omega, by omega⟩) | exact Goes.le ⟨(k + 1, q), ⟨⟨hlt, by simp only; omega, hq2⟩, (by first | omega | (simp only; omega))⟩, rfl⟩ (by simp +contextual -dsimp (maxSteps := 2000000) only [↓SD, SU, SB, Nat.reduceAdd, Nat.reduceBEq, Nat.reduceEqDiff, Nat.reduceLeDiff, Nat.reduceLT, Nat.reduceSub, ↓reduceIte, forall_const, implies_true, ne_eq, reduceCtorEq, Int.reduceToNat, forall_eq, Int.natCast_add]) trivial
  · obtain rfl : k = l.length := by omega
    simp +contextual -dsimp (maxSteps := 2000000) only [↓SD, SU, SB, Nat.reduceAdd, Nat.reduceBEq, Nat.reduceEqDiff, Nat.reduceLeDiff, Nat.reduceLT, Nat.reduceSub, ↓reduceIte, forall_const, implies_true, ne_eq, reduceCtorEq, Int.reduceToNat, forall_eq, map_len, Nat.lt_irrefl]
    refine Goes.post [] ?_
    simp +contextual -dsimp (maxSteps := 2000000) only [↓SD, SU, SB, Nat.reduceAdd, Nat.reduceBEq, Nat.reduceEqDiff, Nat.reduceLeDiff, Nat.reduceLT, Nat.reduceSub, ↓reduceIte, forall_const, implies_true, ne_eq, reduceCtorEq, Int.reduceToNat, forall_eq, rs_laws_szConS]
    exact ⟨_, rfl, rfl, by omega, by omega⟩

theorem toConS_ok (l : List Con) (hx : Bulk.bulk l ≤ 1048576) : CallsF Tryz.prog 145 [.sl (l.map av)] (.sl (l.map av)) := by
  have hl := bulk_length l
  refine fun_laws_toConS rfl (by simp; exact lav_clean l) (lav_clean l) ?_
  simp +contextual -dsimp (maxSteps := 2000000) only [↓SD, SU, SB, Nat.reduceAdd, Nat.reduceBEq, Nat.reduceEqDiff, Nat.reduceLeDiff, Nat.reduceLT, Nat.reduceSub, ↓reduceIte, forall_const, implies_true, ne_eq, reduceCtorEq, Int.reduceToNat, forall_eq, ir_laws_toConS, rs_laws_toConS, map_len]
  refine ⟨by omega, fun v => ?_⟩
  refine aLoop_of (X := Nat) (fun k => ⟨[(0, .sl (l.map av)), (3, .row 7 v l.length), (4, .int .i64 k)], [(7, ⟨v, false, 119, 3, fillL l (AV.agg [.str (bs []), .bool false, .nils]) k⟩)]⟩) (fun k => k ≤ l.length) (fun k => l.length - k) 0 (Nat.zero_le _) (by simp +contextual -dsimp (maxSteps := 2000000) only [↓SD, SU, SB, Nat.reduceAdd, Nat.reduceBEq, Nat.reduceEqDiff, Nat.reduceLeDiff, Nat.reduceLT, Nat.reduceSub, ↓reduceIte, forall_const, implies_true, ne_eq, reduceCtorEq, Int.reduceToNat, forall_eq]) (by simp +contextual -dsimp (maxSteps := 2000000) only [↓SD, SU, SB, Nat.reduceAdd, Nat.reduceBEq, Nat.reduceEqDiff, Nat.reduceLeDiff, Nat.reduceLT, Nat.reduceSub, ↓reduceIte, forall_const, implies_true, ne_eq, reduceCtorEq, Int.reduceToNat, forall_eq, fillL_zero]) ?_
  intro k hk
  by_cases hlt : k < l.length
  · have e := getD_map av l k .top hlt
    have e1 := fillL_len (AV.agg [.str (bs []), .bool false, .nils]) hk
    have e2 := fillL_get (AV.agg [.str (bs []), .bool false, .nils]) hlt .top
    have e3 := fillL_set (z := (AV.agg [.str (bs []), .bool false, .nils])) hlt rfl
    have hbk : Bulk.bulk l[k] ≤ 1048576 := by have := bulk_mem (List.getElem_mem hlt); omega
    rw [av_Con] at e3
    simp +contextual -dsimp (maxSteps := 2000000) only [↓SD, SU, SB, Nat.reduceAdd, Nat.reduceBEq, Nat.reduceEqDiff, Nat.reduceLeDiff, Nat.reduceLT, Nat.reduceSub, ↓reduceIte, forall_const, implies_true, ne_eq, reduceCtorEq, Int.reduceToNat, forall_eq, map_len, hlt, e, av_Con]
    have C := toCon_ok l[k] hbk
    rw [av_Con] at C
    refine aCallK_of _ C ?_
    simp +contextual -dsimp (maxSteps := 2000000) only [↓SD, SU, SB, Nat.reduceAdd, Nat.reduceBEq, Nat.reduceEqDiff, Nat.reduceLeDiff, Nat.reduceLT, Nat.reduceSub, ↓reduceIte, forall_const, implies_true, ne_eq, reduceCtorEq, Int.reduceToNat, forall_eq, map_len, hlt, e, av_Con, e1, e2, e3]
    refine ⟨by omega, Goes.le ⟨k + 1, ⟨hlt, (by first | omega | (simp only; omega))⟩, rfl⟩ (by simp +contextual -dsimp (maxSteps := 2000000) only [↓SD, SU, SB, Nat.reduceAdd, Nat.reduceBEq, Nat.reduceEqDiff, Nat.reduceLeDiff, Nat.reduceLT, Nat.reduceSub, ↓reduceIte, forall_const, implies_true, ne_eq, reduceCtorEq, Int.reduceToNat, forall_eq, Int.natCast_add]) (by simp +contextual -dsimp (maxSteps := 2000000) only [↓SD, SU, SB, Nat.reduceAdd, Nat.reduceBEq, Nat.reduceEqDiff, Nat.reduceLeDiff, Nat.reduceLT, Nat.reduceSub, ↓reduceIte, forall_const, implies_true, ne_eq, reduceCtorEq, Int.reduceToNat, forall_eq, e2, e3])⟩
  · obtain rfl : k = l.length := by omega
    have e1 := fillL_len (AV.agg [.str (bs []), .bool false, .nils]) hk
    simp +contextual -dsimp (maxSteps := 2000000) only [↓SD, SU, SB, Nat.reduceAdd, Nat.reduceBEq, Nat.reduceEqDiff, Nat.reduceLeDiff, Nat.reduceLT, Nat.reduceSub, ↓reduceIte, forall_const, implies_true, ne_eq, reduceCtorEq, Int.reduceToNat, forall_eq, map_len, Nat.lt_irrefl, fillL_full, map_nop, List.take_length]
    try simp [List.take_of_length_le]

theorem eqConS_ok (l : List Con) (hx : Bulk.bulk l ≤ 1048576) : CallsF Tryz.prog 161 [.sl (l.map av), .sl (l.map av)] (.bool true) := by
  have hl := bulk_length l
  refine fun_laws_eqConS rfl (by simp; exact lav_clean l) (AvPure.bool _) ?_
  simp +contextual -dsimp (maxSteps := 2000000) only [↓SD, SU, SB, Nat.reduceAdd, Nat.reduceBEq, Nat.reduceEqDiff, Nat.reduceLeDiff, Nat.reduceLT, Nat.reduceSub, ↓reduceIte, forall_const, implies_true, ne_eq, reduceCtorEq, Int.reduceToNat, forall_eq, ir_laws_eqConS, rs_laws_eqConS, map_len]
  refine aLoop_of (X := Nat) (fun k => ⟨[(0, .sl (l.map av)), (1, .sl (l.map av)), (5, .int .i64 k)], []⟩) (fun k => k ≤ l.length) (fun k => l.length - k) 0 (Nat.zero_le _) (by simp +contextual -dsimp (maxSteps := 2000000) only [↓SD, SU, SB, Nat.reduceAdd, Nat.reduceBEq, Nat.reduceEqDiff, Nat.reduceLeDiff, Nat.reduceLT, Nat.reduceSub, ↓reduceIte, forall_const, implies_true, ne_eq, reduceCtorEq, Int.reduceToNat, forall_eq]) trivial ?_
  intro k hk
  by_cases hlt : k < l.length
  · have e := getD_map av l k .top hlt
    have hbk : Bulk.bulk l[k] ≤ 1048576 := by have := bulk_mem (List.getElem_mem hlt); omega
    simp +contextual -dsimp (maxSteps := 2000000) only [↓SD, SU, SB, Nat.reduceAdd, Nat.reduceBEq, Nat.reduceEqDiff, Nat.reduceLeDiff, Nat.reduceLT, Nat.reduceSub, ↓reduceIte, forall_const, implies_true, ne_eq, reduceCtorEq, Int.reduceToNat, forall_eq, map_len, hlt, e, av_Con]
    have C := eqCon_ok l[k] hbk
    rw [av_Con] at C
    refine aCallK_of _ C ?_
    simp +contextual -dsimp (maxSteps := 2000000) only [↓SD, SU, SB, Nat.reduceAdd, Nat.reduceBEq, Nat.reduceEqDiff, Nat.reduceLeDiff, Nat.reduceLT, Nat.reduceSub, ↓reduceIte, forall_const, implies_true, ne_eq, reduceCtorEq, Int.reduceToNat, forall_eq, map_len, hlt, e, av_Con]
    exact ⟨by omega, Goes.le ⟨k + 1, ⟨hlt, (by first | omega | (simp only; omega))⟩, rfl⟩ (by simp +contextual -dsimp (maxSteps := 2000000) only [↓SD, SU, SB, Nat.reduceAdd, Nat.reduceBEq, Nat.reduceEqDiff, Nat.reduceLeDiff, Nat.reduceLT, Nat.reduceSub, ↓reduceIte, forall_const, implies_true, ne_eq, reduceCtorEq, Int.reduceToNat, forall_eq, Int.natCast_add]) trivial⟩
  · obtain rfl : k = l.length := by omega
    simp +contextual -dsimp (maxSteps := 2000000) only [↓SD, SU, SB, Nat.reduceAdd, Nat.reduceBEq, Nat.reduceEqDiff, Nat.reduceLeDiff, Nat.reduceLT, Nat.reduceSub, ↓reduceIte, forall_const, implies_true, ne_eq, reduceCtorEq, Int.reduceToNat, forall_eq, map_len, Nat.lt_irrefl]

theorem szType_ok (x : TypeD) (n : Int) (hx : Bulk.bulk x ≤ 1048576) (h1 : -1 ≤ n) (h2 : n ≤ 1048576) : SzOk 82 [av x, .int .i64 n] := by
  have hb : Bulk.bulk x.name + Bulk.bulk x.params + Bulk.bulk x.cons + 1 ≤ 1048576 := hx
  have e0 : Bulk.bulk x.name = x.name.size + 1 := rfl
  refine funH_laws_szType rfl ?_
  simp +contextual -dsimp (maxSteps := 2000000) only [↓SD, SU, SB, Nat.reduceAdd, Nat.reduceBEq, Nat.reduceEqDiff, Nat.reduceLeDiff, Nat.reduceLT, Nat.reduceSub, ↓reduceIte, forall_const, implies_true, ne_eq, reduceCtorEq, Int.reduceToNat, forall_eq, ir_laws_szType, rs_laws_szType, av_TypeD]
  (repeat' (first | intro _ | refine And.intro ?_ ?_))
  all_goals first | omega | (refine Goes.post [] ?_; simp +contextual -dsimp (maxSteps := 2000000) only [↓SD, SU, SB, Nat.reduceAdd, Nat.reduceBEq, Nat.reduceEqDiff, Nat.reduceLeDiff, Nat.reduceLT, Nat.reduceSub, ↓reduceIte, forall_const, implies_true, ne_eq, reduceCtorEq, Int.reduceToNat, forall_eq, rs_laws_szType]; exact ⟨_, rfl, rfl, by omega, by omega⟩) | (refine aCallH_of [] (szConS_ok x.cons _ (by omega)  (by omega) (by omega)) (by simp +contextual -dsimp (maxSteps := 2000000) only [↓SD, SU, SB, Nat.reduceAdd, Nat.reduceBEq, Nat.reduceEqDiff, Nat.reduceLeDiff, Nat.reduceLT, Nat.reduceSub, ↓reduceIte, forall_const, implies_true, ne_eq, reduceCtorEq, Int.reduceToNat, forall_eq]) ?_; rintro r hp' ⟨m, rfl, rfl, hm1, hm2⟩; simp +contextual -dsimp (maxSteps := 2000000) only [↓SD, SU, SB, Nat.reduceAdd, Nat.reduceBEq, Nat.reduceEqDiff, Nat.reduceLeDiff, Nat.reduceLT, Nat.reduceSub, ↓reduceIte, forall_const, implies_true, ne_eq, reduceCtorEq, Int.reduceToNat, forall_eq]; (repeat' (first | intro _ | refine And.intro ?_ ?_)))
  all_goals first | omega | (refine Goes.post [] ?_; simp +contextual -dsimp (maxSteps := 2000000) only [↓SD, SU, SB, Nat.reduceAdd, Nat.reduceBEq, Nat.reduceEqDiff, Nat.reduceLeDiff, Nat.reduceLT, Nat.reduceSub, ↓reduceIte, forall_const, implies_true, ne_eq, reduceCtorEq, Int.reduceToNat, forall_eq, rs_laws_szType]; exact ⟨_, rfl, rfl, by omega, by omega⟩)

theorem toType_ok (x : TypeD) (hx : Bulk.bulk x ≤ 1048576) : CallsF Tryz.prog 84 [av x] (av x) := by
  have hb : Bulk.bulk x.name + Bulk.bulk x.params + Bulk.bulk x.cons + 1 ≤ 1048576 := hx
  refine fun_laws_toType rfl (by simp; exact AVal.clean x) (AVal.clean x) ?_
  simp +contextual -dsimp (maxSteps := 2000000) only [↓SD, SU, SB, Nat.reduceAdd, Nat.reduceBEq, Nat.reduceEqDiff, Nat.reduceLeDiff, Nat.reduceLT, Nat.reduceSub, ↓reduceIte, forall_const, implies_true, ne_eq, reduceCtorEq, Int.reduceToNat, forall_eq, ir_laws_toType, rs_laws_toType, av_TypeD]
  (repeat' (first | intro _ | refine And.intro ?_ ?_))
  refine aCallK_of _ (toConS_ok x.cons (by omega)) ?_
  simp +contextual -dsimp (maxSteps := 2000000) only [↓SD, SU, SB, Nat.reduceAdd, Nat.reduceBEq, Nat.reduceEqDiff, Nat.reduceLeDiff, Nat.reduceLT, Nat.reduceSub, ↓reduceIte, forall_const, implies_true, ne_eq, reduceCtorEq, Int.reduceToNat, forall_eq]

theorem eqType_ok (x : TypeD) (hx : Bulk.bulk x ≤ 1048576) : CallsF Tryz.prog 93 [av x, av x] (.bool true) := by
  have hb : Bulk.bulk x.name + Bulk.bulk x.params + Bulk.bulk x.cons + 1 ≤ 1048576 := hx
  refine fun_laws_eqType rfl (by simp; exact AVal.clean x) (AvPure.bool _) ?_
  simp +contextual -dsimp (maxSteps := 2000000) only [↓SD, SU, SB, Nat.reduceAdd, Nat.reduceBEq, Nat.reduceEqDiff, Nat.reduceLeDiff, Nat.reduceLT, Nat.reduceSub, ↓reduceIte, forall_const, implies_true, ne_eq, reduceCtorEq, Int.reduceToNat, forall_eq, ir_laws_eqType, rs_laws_eqType, av_TypeD, beq_self_eq_true]
  refine aCallK_of _ (eqConS_ok x.cons (by omega)) ?_
  simp +contextual -dsimp (maxSteps := 2000000) only [↓SD, SU, SB, Nat.reduceAdd, Nat.reduceBEq, Nat.reduceEqDiff, Nat.reduceLeDiff, Nat.reduceLT, Nat.reduceSub, ↓reduceIte, forall_const, implies_true, ne_eq, reduceCtorEq, Int.reduceToNat, forall_eq, beq_self_eq_true]

theorem szNode_ok (x : Node) (n : Int) (hx : Bulk.bulk x ≤ 1048576) (h1 : -1 ≤ n) (h2 : n ≤ 1048576) : SzOk 83 [av x, .int .i64 n] := by
  have hb : Bulk.bulk x.kind + Bulk.bulk x.pos + Bulk.bulk x.n + Bulk.bulk x.s + Bulk.bulk x.kids + Bulk.bulk x.pats + 1 ≤ 1048576 := hx
  have e3 : Bulk.bulk x.s = x.s.size + 1 := rfl
  refine funH_laws_szNode rfl ?_
  simp +contextual -dsimp (maxSteps := 2000000) only [↓SD, SU, SB, Nat.reduceAdd, Nat.reduceBEq, Nat.reduceEqDiff, Nat.reduceLeDiff, Nat.reduceLT, Nat.reduceSub, ↓reduceIte, forall_const, implies_true, ne_eq, reduceCtorEq, Int.reduceToNat, forall_eq, ir_laws_szNode, rs_laws_szNode, av_Node]
  (repeat' (first | intro _ | refine And.intro ?_ ?_))
  all_goals first | omega | (refine Goes.post [] ?_; simp +contextual -dsimp (maxSteps := 2000000) only [↓SD, SU, SB, Nat.reduceAdd, Nat.reduceBEq, Nat.reduceEqDiff, Nat.reduceLeDiff, Nat.reduceLT, Nat.reduceSub, ↓reduceIte, forall_const, implies_true, ne_eq, reduceCtorEq, Int.reduceToNat, forall_eq, rs_laws_szNode]; exact ⟨_, rfl, rfl, by omega, by omega⟩) | (refine aCallH_of [] (szIntS_ok x.kids _ (by omega)  (by omega) (by omega)) (by simp +contextual -dsimp (maxSteps := 2000000) only [↓SD, SU, SB, Nat.reduceAdd, Nat.reduceBEq, Nat.reduceEqDiff, Nat.reduceLeDiff, Nat.reduceLT, Nat.reduceSub, ↓reduceIte, forall_const, implies_true, ne_eq, reduceCtorEq, Int.reduceToNat, forall_eq]) ?_; rintro r hp' ⟨m, rfl, rfl, hm1, hm2⟩; simp +contextual -dsimp (maxSteps := 2000000) only [↓SD, SU, SB, Nat.reduceAdd, Nat.reduceBEq, Nat.reduceEqDiff, Nat.reduceLeDiff, Nat.reduceLT, Nat.reduceSub, ↓reduceIte, forall_const, implies_true, ne_eq, reduceCtorEq, Int.reduceToNat, forall_eq]; (repeat' (first | intro _ | refine And.intro ?_ ?_))) | (refine aCallH_of [] (szPatS_ok x.pats _ (by omega)  (by omega) (by omega)) (by simp +contextual -dsimp (maxSteps := 2000000) only [↓SD, SU, SB, Nat.reduceAdd, Nat.reduceBEq, Nat.reduceEqDiff, Nat.reduceLeDiff, Nat.reduceLT, Nat.reduceSub, ↓reduceIte, forall_const, implies_true, ne_eq, reduceCtorEq, Int.reduceToNat, forall_eq]) ?_; rintro r hp' ⟨m, rfl, rfl, hm1, hm2⟩; simp +contextual -dsimp (maxSteps := 2000000) only [↓SD, SU, SB, Nat.reduceAdd, Nat.reduceBEq, Nat.reduceEqDiff, Nat.reduceLeDiff, Nat.reduceLT, Nat.reduceSub, ↓reduceIte, forall_const, implies_true, ne_eq, reduceCtorEq, Int.reduceToNat, forall_eq]; (repeat' (first | intro _ | refine And.intro ?_ ?_)))
  all_goals first | omega | (refine Goes.post [] ?_; simp +contextual -dsimp (maxSteps := 2000000) only [↓SD, SU, SB, Nat.reduceAdd, Nat.reduceBEq, Nat.reduceEqDiff, Nat.reduceLeDiff, Nat.reduceLT, Nat.reduceSub, ↓reduceIte, forall_const, implies_true, ne_eq, reduceCtorEq, Int.reduceToNat, forall_eq, rs_laws_szNode]; exact ⟨_, rfl, rfl, by omega, by omega⟩) | (refine aCallH_of [] (szIntS_ok x.kids _ (by omega)  (by omega) (by omega)) (by simp +contextual -dsimp (maxSteps := 2000000) only [↓SD, SU, SB, Nat.reduceAdd, Nat.reduceBEq, Nat.reduceEqDiff, Nat.reduceLeDiff, Nat.reduceLT, Nat.reduceSub, ↓reduceIte, forall_const, implies_true, ne_eq, reduceCtorEq, Int.reduceToNat, forall_eq]) ?_; rintro r hp' ⟨m, rfl, rfl, hm1, hm2⟩; simp +contextual -dsimp (maxSteps := 2000000) only [↓SD, SU, SB, Nat.reduceAdd, Nat.reduceBEq, Nat.reduceEqDiff, Nat.reduceLeDiff, Nat.reduceLT, Nat.reduceSub, ↓reduceIte, forall_const, implies_true, ne_eq, reduceCtorEq, Int.reduceToNat, forall_eq]; (repeat' (first | intro _ | refine And.intro ?_ ?_))) | (refine aCallH_of [] (szPatS_ok x.pats _ (by omega)  (by omega) (by omega)) (by simp +contextual -dsimp (maxSteps := 2000000) only [↓SD, SU, SB, Nat.reduceAdd, Nat.reduceBEq, Nat.reduceEqDiff, Nat.reduceLeDiff, Nat.reduceLT, Nat.reduceSub, ↓reduceIte, forall_const, implies_true, ne_eq, reduceCtorEq, Int.reduceToNat, forall_eq]) ?_; rintro r hp' ⟨m, rfl, rfl, hm1, hm2⟩; simp +contextual -dsimp (maxSteps := 2000000) only [↓SD, SU, SB, Nat.reduceAdd, Nat.reduceBEq, Nat.reduceEqDiff, Nat.reduceLeDiff, Nat.reduceLT, Nat.reduceSub, ↓reduceIte, forall_const, implies_true, ne_eq, reduceCtorEq, Int.reduceToNat, forall_eq]; (repeat' (first | intro _ | refine And.intro ?_ ?_)))
  all_goals first | omega | (refine Goes.post [] ?_; simp +contextual -dsimp (maxSteps := 2000000) only [↓SD, SU, SB, Nat.reduceAdd, Nat.reduceBEq, Nat.reduceEqDiff, Nat.reduceLeDiff, Nat.reduceLT, Nat.reduceSub, ↓reduceIte, forall_const, implies_true, ne_eq, reduceCtorEq, Int.reduceToNat, forall_eq, rs_laws_szNode]; exact ⟨_, rfl, rfl, by omega, by omega⟩)

theorem toNode_ok (x : Node) (hx : Bulk.bulk x ≤ 1048576) : CallsF Tryz.prog 85 [av x] (av x) := by
  have hb : Bulk.bulk x.kind + Bulk.bulk x.pos + Bulk.bulk x.n + Bulk.bulk x.s + Bulk.bulk x.kids + Bulk.bulk x.pats + 1 ≤ 1048576 := hx
  refine fun_laws_toNode rfl (by simp; exact AVal.clean x) (AVal.clean x) ?_
  simp +contextual -dsimp (maxSteps := 2000000) only [↓SD, SU, SB, Nat.reduceAdd, Nat.reduceBEq, Nat.reduceEqDiff, Nat.reduceLeDiff, Nat.reduceLT, Nat.reduceSub, ↓reduceIte, forall_const, implies_true, ne_eq, reduceCtorEq, Int.reduceToNat, forall_eq, ir_laws_toNode, rs_laws_toNode, av_Node]
  (repeat' (first | intro _ | refine And.intro ?_ ?_))
  refine aCallK_of _ (toIntS_ok x.kids (by omega)) ?_
  simp +contextual -dsimp (maxSteps := 2000000) only [↓SD, SU, SB, Nat.reduceAdd, Nat.reduceBEq, Nat.reduceEqDiff, Nat.reduceLeDiff, Nat.reduceLT, Nat.reduceSub, ↓reduceIte, forall_const, implies_true, ne_eq, reduceCtorEq, Int.reduceToNat, forall_eq]
  (repeat' (first | intro _ | refine And.intro ?_ ?_))
  refine aCallK_of _ (toPatS_ok x.pats (by omega)) ?_
  simp +contextual -dsimp (maxSteps := 2000000) only [↓SD, SU, SB, Nat.reduceAdd, Nat.reduceBEq, Nat.reduceEqDiff, Nat.reduceLeDiff, Nat.reduceLT, Nat.reduceSub, ↓reduceIte, forall_const, implies_true, ne_eq, reduceCtorEq, Int.reduceToNat, forall_eq]

theorem eqNode_ok (x : Node) (hx : Bulk.bulk x ≤ 1048576) : CallsF Tryz.prog 94 [av x, av x] (.bool true) := by
  have hb : Bulk.bulk x.kind + Bulk.bulk x.pos + Bulk.bulk x.n + Bulk.bulk x.s + Bulk.bulk x.kids + Bulk.bulk x.pats + 1 ≤ 1048576 := hx
  refine fun_laws_eqNode rfl (by simp; exact AVal.clean x) (AvPure.bool _) ?_
  simp +contextual -dsimp (maxSteps := 2000000) only [↓SD, SU, SB, Nat.reduceAdd, Nat.reduceBEq, Nat.reduceEqDiff, Nat.reduceLeDiff, Nat.reduceLT, Nat.reduceSub, ↓reduceIte, forall_const, implies_true, ne_eq, reduceCtorEq, Int.reduceToNat, forall_eq, ir_laws_eqNode, rs_laws_eqNode, av_Node, beq_self_eq_true]
  refine aCallK_of _ (eqIntS_ok x.kids (by omega)) ?_
  simp +contextual -dsimp (maxSteps := 2000000) only [↓SD, SU, SB, Nat.reduceAdd, Nat.reduceBEq, Nat.reduceEqDiff, Nat.reduceLeDiff, Nat.reduceLT, Nat.reduceSub, ↓reduceIte, forall_const, implies_true, ne_eq, reduceCtorEq, Int.reduceToNat, forall_eq, beq_self_eq_true]
  refine aCallK_of _ (eqPatS_ok x.pats (by omega)) ?_
  simp +contextual -dsimp (maxSteps := 2000000) only [↓SD, SU, SB, Nat.reduceAdd, Nat.reduceBEq, Nat.reduceEqDiff, Nat.reduceLeDiff, Nat.reduceLT, Nat.reduceSub, ↓reduceIte, forall_const, implies_true, ne_eq, reduceCtorEq, Int.reduceToNat, forall_eq, beq_self_eq_true]

theorem szTypeS_ok (l : List TypeD) (n : Int) (hx : Bulk.bulk l ≤ 1048576) (h1 : -1 ≤ n) (h2 : n ≤ 1048576) : SzOk 41 [.sl (l.map av), .int .i64 n] := by
  have hl := bulk_length l
  refine funH_laws_szTypeS rfl ?_
  simp +contextual -dsimp (maxSteps := 2000000) only [↓SD, SU, SB, Nat.reduceAdd, Nat.reduceBEq, Nat.reduceEqDiff, Nat.reduceLeDiff, Nat.reduceLT, Nat.reduceSub, ↓reduceIte, forall_const, implies_true, ne_eq, reduceCtorEq, Int.reduceToNat, forall_eq, ir_laws_szTypeS, rs_laws_szTypeS, map_len]
  refine ⟨by omega, fun h => ?_, fun h => ?_⟩
  · refine Goes.post [] ?_; simp +contextual -dsimp (maxSteps := 2000000) only [↓SD, SU, SB, Nat.reduceAdd, Nat.reduceBEq, Nat.reduceEqDiff, Nat.reduceLeDiff, Nat.reduceLT, Nat.reduceSub, ↓reduceIte, forall_const, implies_true, ne_eq, reduceCtorEq, Int.reduceToNat, forall_eq, rs_laws_szTypeS]; exact ⟨_, rfl, rfl, by omega, by omega⟩
  refine aLoop_of (X := Nat × Int) (fun x => ⟨[(0, .sl (l.map av)), (1, .int .i64 x.2), (5, .int .i64 x.1)], []⟩) (fun x => x.1 ≤ l.length ∧ 0 ≤ x.2 ∧ x.2 ≤ 1048576) (fun x => l.length - x.1) (0, n - l.length) ⟨Nat.zero_le _, by simp only; omega, by simp only; omega⟩ (by simp +contextual -dsimp (maxSteps := 2000000) only [↓SD, SU, SB, Nat.reduceAdd, Nat.reduceBEq, Nat.reduceEqDiff, Nat.reduceLeDiff, Nat.reduceLT, Nat.reduceSub, ↓reduceIte, forall_const, implies_true, ne_eq, reduceCtorEq, Int.reduceToNat, forall_eq]) trivial ?_
  rintro ⟨k, m⟩ ⟨hk, hm0, hm1⟩
  simp only at hk hm0 hm1
  by_cases hlt : k < l.length
  · have e := getD_map av l k .top hlt
    have hbk : Bulk.bulk l[k] ≤ 1048576 := by have := bulk_mem (List.getElem_mem hlt); omega
    simp +contextual -dsimp (maxSteps := 2000000) only [↓SD, SU, SB, Nat.reduceAdd, Nat.reduceBEq, Nat.reduceEqDiff, Nat.reduceLeDiff, Nat.reduceLT, Nat.reduceSub, ↓reduceIte, forall_const, implies_true, ne_eq, reduceCtorEq, Int.reduceToNat, forall_eq, map_len, hlt, e, av_TypeD]
    refine aCallH_of [] (szType_ok l[k] m hbk (by omega) hm1) (by simp +contextual -dsimp (maxSteps := 2000000) only [↓SD, SU, SB, Nat.reduceAdd, Nat.reduceBEq, Nat.reduceEqDiff, Nat.reduceLeDiff, Nat.reduceLT, Nat.reduceSub, ↓reduceIte, forall_const, implies_true, ne_eq, reduceCtorEq, Int.reduceToNat, forall_eq]) ?_
    rintro r hp' ⟨q, rfl, rfl, hq1, hq2⟩
    simp +contextual -dsimp (maxSteps := 2000000) only [↓SD, SU, SB, Nat.reduceAdd, Nat.reduceBEq, Nat.reduceEqDiff, Nat.reduceLeDiff, Nat.reduceLT, Nat.reduceSub, ↓reduceIte, forall_const, implies_true, ne_eq, reduceCtorEq, Int.reduceToNat, forall_eq]
    (repeat' (first | intro _ | refine And.intro ?_ ?_))
    all_goals first | omega | (refine Goes.post [] ?_; simp +contextual -dsimp (maxSteps := 2000000) only [↓SD, SU, SB, Nat.reduceAdd, Nat.reduceBEq, Nat.reduceEqDiff, Nat.reduceLeDiff, Nat.reduceLT, Nat.reduceSub, ↓reduceIte, forall_const, implies_true, ne_eq, reduceCtorEq, Int.reduceToNat, forall_eq, rs_laws_szTypeS]; exact ⟨_, rfl, rfl, by omega, by omega⟩) | exact Goes.le ⟨(k + 1, q), ⟨⟨hlt, by simp only; omega, hq2⟩, (by first | omega | (simp only; omega))⟩, rfl⟩ (by simp +contextual -dsimp (maxSteps := 2000000) only [↓SD, SU, SB, Nat.reduceAdd, Nat.reduceBEq, Nat.reduceEqDiff, Nat.reduceLeDiff, Nat.reduceLT, Nat.reduceSub, ↓reduceIte, forall_const, implies_true, ne_eq, reduceCtorEq, Int.reduceToNat, forall_eq, Int.natCast_add]) trivial
  · obtain rfl : k = l.length := by omega
    simp +contextual -dsimp (maxSteps := 2000000) only [↓SD, SU, SB, Nat.reduceAdd, Nat.reduceBEq, Nat.reduceEqDiff, Nat.reduceLeDiff, Nat.reduceLT, Nat.reduceSub, ↓reduceIte, forall_const, implies_true, ne_eq, reduceCtorEq, Int.reduceToNat, forall_eq, map_len, Nat.lt_irrefl]
    refine Goes.post [] ?_
    simp +contextual -dsimp (maxSteps := 2000000) only [↓SD, SU, SB, Nat.reduceAdd, Nat.reduceBEq, Nat.reduceEqDiff, Nat.reduceLeDiff, Nat.reduceLT, Nat.reduceSub, ↓reduceIte, forall_const, implies_true, ne_eq, reduceCtorEq, Int.reduceToNat, forall_eq, rs_laws_szTypeS]
    exact ⟨_, rfl, rfl, by omega, by omega⟩

theorem toTypeS_ok (l : List TypeD) (hx : Bulk.bulk l ≤ 1048576) : CallsF Tryz.prog 45 [.sl (l.map av)] (.sl (l.map av)) := by
  have hl := bulk_length l
  refine fun_laws_toTypeS rfl (by simp; exact lav_clean l) (lav_clean l) ?_
  simp +contextual -dsimp (maxSteps := 2000000) only [↓SD, SU, SB, Nat.reduceAdd, Nat.reduceBEq, Nat.reduceEqDiff, Nat.reduceLeDiff, Nat.reduceLT, Nat.reduceSub, ↓reduceIte, forall_const, implies_true, ne_eq, reduceCtorEq, Int.reduceToNat, forall_eq, ir_laws_toTypeS, rs_laws_toTypeS, map_len]
  refine ⟨by omega, fun v => ?_⟩
  refine aLoop_of (X := Nat) (fun k => ⟨[(0, .sl (l.map av)), (3, .row 7 v l.length), (4, .int .i64 k)], [(7, ⟨v, false, 102, 3, fillL l (AV.agg [.str (bs []), .int .i64 0, .nils]) k⟩)]⟩) (fun k => k ≤ l.length) (fun k => l.length - k) 0 (Nat.zero_le _) (by simp +contextual -dsimp (maxSteps := 2000000) only [↓SD, SU, SB, Nat.reduceAdd, Nat.reduceBEq, Nat.reduceEqDiff, Nat.reduceLeDiff, Nat.reduceLT, Nat.reduceSub, ↓reduceIte, forall_const, implies_true, ne_eq, reduceCtorEq, Int.reduceToNat, forall_eq]) (by simp +contextual -dsimp (maxSteps := 2000000) only [↓SD, SU, SB, Nat.reduceAdd, Nat.reduceBEq, Nat.reduceEqDiff, Nat.reduceLeDiff, Nat.reduceLT, Nat.reduceSub, ↓reduceIte, forall_const, implies_true, ne_eq, reduceCtorEq, Int.reduceToNat, forall_eq, fillL_zero]) ?_
  intro k hk
  by_cases hlt : k < l.length
  · have e := getD_map av l k .top hlt
    have e1 := fillL_len (AV.agg [.str (bs []), .int .i64 0, .nils]) hk
    have e2 := fillL_get (AV.agg [.str (bs []), .int .i64 0, .nils]) hlt .top
    have e3 := fillL_set (z := (AV.agg [.str (bs []), .int .i64 0, .nils])) hlt rfl
    have hbk : Bulk.bulk l[k] ≤ 1048576 := by have := bulk_mem (List.getElem_mem hlt); omega
    rw [av_TypeD] at e3
    simp +contextual -dsimp (maxSteps := 2000000) only [↓SD, SU, SB, Nat.reduceAdd, Nat.reduceBEq, Nat.reduceEqDiff, Nat.reduceLeDiff, Nat.reduceLT, Nat.reduceSub, ↓reduceIte, forall_const, implies_true, ne_eq, reduceCtorEq, Int.reduceToNat, forall_eq, map_len, hlt, e, av_TypeD]
    have C := toType_ok l[k] hbk
    rw [av_TypeD] at C
    refine aCallK_of _ C ?_
    simp +contextual -dsimp (maxSteps := 2000000) only [↓SD, SU, SB, Nat.reduceAdd, Nat.reduceBEq, Nat.reduceEqDiff, Nat.reduceLeDiff, Nat.reduceLT, Nat.reduceSub, ↓reduceIte, forall_const, implies_true, ne_eq, reduceCtorEq, Int.reduceToNat, forall_eq, map_len, hlt, e, av_TypeD, e1, e2, e3]
    refine ⟨by omega, Goes.le ⟨k + 1, ⟨hlt, (by first | omega | (simp only; omega))⟩, rfl⟩ (by simp +contextual -dsimp (maxSteps := 2000000) only [↓SD, SU, SB, Nat.reduceAdd, Nat.reduceBEq, Nat.reduceEqDiff, Nat.reduceLeDiff, Nat.reduceLT, Nat.reduceSub, ↓reduceIte, forall_const, implies_true, ne_eq, reduceCtorEq, Int.reduceToNat, forall_eq, Int.natCast_add]) (by simp +contextual -dsimp (maxSteps := 2000000) only [↓SD, SU, SB, Nat.reduceAdd, Nat.reduceBEq, Nat.reduceEqDiff, Nat.reduceLeDiff, Nat.reduceLT, Nat.reduceSub, ↓reduceIte, forall_const, implies_true, ne_eq, reduceCtorEq, Int.reduceToNat, forall_eq, e2, e3])⟩
  · obtain rfl : k = l.length := by omega
    have e1 := fillL_len (AV.agg [.str (bs []), .int .i64 0, .nils]) hk
    simp +contextual -dsimp (maxSteps := 2000000) only [↓SD, SU, SB, Nat.reduceAdd, Nat.reduceBEq, Nat.reduceEqDiff, Nat.reduceLeDiff, Nat.reduceLT, Nat.reduceSub, ↓reduceIte, forall_const, implies_true, ne_eq, reduceCtorEq, Int.reduceToNat, forall_eq, map_len, Nat.lt_irrefl, fillL_full, map_nop, List.take_length]
    try simp [List.take_of_length_le]

theorem eqTypeS_ok (l : List TypeD) (hx : Bulk.bulk l ≤ 1048576) : CallsF Tryz.prog 51 [.sl (l.map av), .sl (l.map av)] (.bool true) := by
  have hl := bulk_length l
  refine fun_laws_eqTypeS rfl (by simp; exact lav_clean l) (AvPure.bool _) ?_
  simp +contextual -dsimp (maxSteps := 2000000) only [↓SD, SU, SB, Nat.reduceAdd, Nat.reduceBEq, Nat.reduceEqDiff, Nat.reduceLeDiff, Nat.reduceLT, Nat.reduceSub, ↓reduceIte, forall_const, implies_true, ne_eq, reduceCtorEq, Int.reduceToNat, forall_eq, ir_laws_eqTypeS, rs_laws_eqTypeS, map_len]
  refine aLoop_of (X := Nat) (fun k => ⟨[(0, .sl (l.map av)), (1, .sl (l.map av)), (5, .int .i64 k)], []⟩) (fun k => k ≤ l.length) (fun k => l.length - k) 0 (Nat.zero_le _) (by simp +contextual -dsimp (maxSteps := 2000000) only [↓SD, SU, SB, Nat.reduceAdd, Nat.reduceBEq, Nat.reduceEqDiff, Nat.reduceLeDiff, Nat.reduceLT, Nat.reduceSub, ↓reduceIte, forall_const, implies_true, ne_eq, reduceCtorEq, Int.reduceToNat, forall_eq]) trivial ?_
  intro k hk
  by_cases hlt : k < l.length
  · have e := getD_map av l k .top hlt
    have hbk : Bulk.bulk l[k] ≤ 1048576 := by have := bulk_mem (List.getElem_mem hlt); omega
    simp +contextual -dsimp (maxSteps := 2000000) only [↓SD, SU, SB, Nat.reduceAdd, Nat.reduceBEq, Nat.reduceEqDiff, Nat.reduceLeDiff, Nat.reduceLT, Nat.reduceSub, ↓reduceIte, forall_const, implies_true, ne_eq, reduceCtorEq, Int.reduceToNat, forall_eq, map_len, hlt, e, av_TypeD]
    have C := eqType_ok l[k] hbk
    rw [av_TypeD] at C
    refine aCallK_of _ C ?_
    simp +contextual -dsimp (maxSteps := 2000000) only [↓SD, SU, SB, Nat.reduceAdd, Nat.reduceBEq, Nat.reduceEqDiff, Nat.reduceLeDiff, Nat.reduceLT, Nat.reduceSub, ↓reduceIte, forall_const, implies_true, ne_eq, reduceCtorEq, Int.reduceToNat, forall_eq, map_len, hlt, e, av_TypeD]
    exact ⟨by omega, Goes.le ⟨k + 1, ⟨hlt, (by first | omega | (simp only; omega))⟩, rfl⟩ (by simp +contextual -dsimp (maxSteps := 2000000) only [↓SD, SU, SB, Nat.reduceAdd, Nat.reduceBEq, Nat.reduceEqDiff, Nat.reduceLeDiff, Nat.reduceLT, Nat.reduceSub, ↓reduceIte, forall_const, implies_true, ne_eq, reduceCtorEq, Int.reduceToNat, forall_eq, Int.natCast_add]) trivial⟩
  · obtain rfl : k = l.length := by omega
    simp +contextual -dsimp (maxSteps := 2000000) only [↓SD, SU, SB, Nat.reduceAdd, Nat.reduceBEq, Nat.reduceEqDiff, Nat.reduceLeDiff, Nat.reduceLT, Nat.reduceSub, ↓reduceIte, forall_const, implies_true, ne_eq, reduceCtorEq, Int.reduceToNat, forall_eq, map_len, Nat.lt_irrefl]

theorem szNodeS_ok (l : List Node) (n : Int) (hx : Bulk.bulk l ≤ 1048576) (h1 : -1 ≤ n) (h2 : n ≤ 1048576) : SzOk 42 [.sl (l.map av), .int .i64 n] := by
  have hl := bulk_length l
  refine funH_laws_szNodeS rfl ?_
  simp +contextual -dsimp (maxSteps := 2000000) only [↓SD, SU, SB, Nat.reduceAdd, Nat.reduceBEq, Nat.reduceEqDiff, Nat.reduceLeDiff, Nat.reduceLT, Nat.reduceSub, ↓reduceIte, forall_const, implies_true, ne_eq, reduceCtorEq, Int.reduceToNat, forall_eq, ir_laws_szNodeS, rs_laws_szNodeS, map_len]
  refine ⟨by omega, fun h => ?_, fun h => ?_⟩
  · refine Goes.post [] ?_; simp +contextual -dsimp (maxSteps := 2000000) only [↓SD, SU, SB, Nat.reduceAdd, Nat.reduceBEq, Nat.reduceEqDiff, Nat.reduceLeDiff, Nat.reduceLT, Nat.reduceSub, ↓reduceIte, forall_const, implies_true, ne_eq, reduceCtorEq, Int.reduceToNat, forall_eq, rs_laws_szNodeS]; exact ⟨_, rfl, rfl, by omega, by omega⟩
  refine aLoop_of (X := Nat × Int) (fun x => ⟨[(0, .sl (l.map av)), (1, .int .i64 x.2), (5, .int .i64 x.1)], []⟩) (fun x => x.1 ≤ l.length ∧ 0 ≤ x.2 ∧ x.2 ≤ 1048576) (fun x => l.length - x.1) (0, n - l.length) ⟨Nat.zero_le _, by simp only; omega, by simp only; omega⟩ (by simp +contextual -dsimp (maxSteps := 2000000) only [↓SD, SU, SB, Nat.reduceAdd, Nat.reduceBEq, Nat.reduceEqDiff, Nat.reduceLeDiff, Nat.reduceLT, Nat.reduceSub, ↓reduceIte, forall_const, implies_true, ne_eq, reduceCtorEq, Int.reduceToNat, forall_eq]) trivial ?_
  rintro ⟨k, m⟩ ⟨hk, hm0, hm1⟩
  simp only at hk hm0 hm1
  by_cases hlt : k < l.length
  · have e := getD_map av l k .top hlt
    have hbk : Bulk.bulk l[k] ≤ 1048576 := by have := bulk_mem (List.getElem_mem hlt); omega
    simp +contextual -dsimp (maxSteps := 2000000) only [↓SD, SU, SB, Nat.reduceAdd, Nat.reduceBEq, Nat.reduceEqDiff, Nat.reduceLeDiff, Nat.reduceLT, Nat.reduceSub, ↓reduceIte, forall_const, implies_true, ne_eq, reduceCtorEq, Int.reduceToNat, forall_eq, map_len, hlt, e, av_Node]
    refine aCallH_of [] (szNode_ok l[k] m hbk (by omega) hm1) (by simp +contextual -dsimp (maxSteps := 2000000) only [↓SD, SU, SB, Nat.reduceAdd, Nat.reduceBEq, Nat.reduceEqDiff, Nat.reduceLeDiff, Nat.reduceLT, Nat.reduceSub, ↓reduceIte, forall_const, implies_true, ne_eq, reduceCtorEq, Int.reduceToNat, forall_eq]) ?_
    rintro r hp' ⟨q, rfl, rfl, hq1, hq2⟩
    simp +contextual -dsimp (maxSteps := 2000000) only [↓SD, SU, SB, Nat.reduceAdd, Nat.reduceBEq, Nat.reduceEqDiff, Nat.reduceLeDiff, Nat.reduceLT, Nat.reduceSub, ↓reduceIte, forall_const, implies_true, ne_eq, reduceCtorEq, Int.reduceToNat, forall_eq]
    (repeat' (first | intro _ | refine And.intro ?_ ?_))
    all_goals first | omega | (refine Goes.post [] ?_; simp +contextual -dsimp (maxSteps := 2000000) only [↓SD, SU, SB, Nat.reduceAdd, Nat.reduceBEq, Nat.reduceEqDiff, Nat.reduceLeDiff, Nat.reduceLT, Nat.reduceSub, ↓reduceIte, forall_const, implies_true, ne_eq, reduceCtorEq, Int.reduceToNat, forall_eq, rs_laws_szNodeS]; exact ⟨_, rfl, rfl, by omega, by omega⟩) | exact Goes.le ⟨(k + 1, q), ⟨⟨hlt, by simp only; omega, hq2⟩, (by first | omega | (simp only; omega))⟩, rfl⟩ (by simp +contextual -dsimp (maxSteps := 2000000) only [↓SD, SU, SB, Nat.reduceAdd, Nat.reduceBEq, Nat.reduceEqDiff, Nat.reduceLeDiff, Nat.reduceLT, Nat.reduceSub, ↓reduceIte, forall_const, implies_true, ne_eq, reduceCtorEq, Int.reduceToNat, forall_eq, Int.natCast_add]) trivial
  · obtain rfl : k = l.length := by omega
    simp +contextual -dsimp (maxSteps := 2000000) only [↓SD, SU, SB, Nat.reduceAdd, Nat.reduceBEq, Nat.reduceEqDiff, Nat.reduceLeDiff, Nat.reduceLT, Nat.reduceSub, ↓reduceIte, forall_const, implies_true, ne_eq, reduceCtorEq, Int.reduceToNat, forall_eq, map_len, Nat.lt_irrefl]
    refine Goes.post [] ?_
    simp +contextual -dsimp (maxSteps := 2000000) only [↓SD, SU, SB, Nat.reduceAdd, Nat.reduceBEq, Nat.reduceEqDiff, Nat.reduceLeDiff, Nat.reduceLT, Nat.reduceSub, ↓reduceIte, forall_const, implies_true, ne_eq, reduceCtorEq, Int.reduceToNat, forall_eq, rs_laws_szNodeS]
    exact ⟨_, rfl, rfl, by omega, by omega⟩

theorem toNodeS_ok (l : List Node) (hx : Bulk.bulk l ≤ 1048576) : CallsF Tryz.prog 46 [.sl (l.map av)] (.sl (l.map av)) := by
  have hl := bulk_length l
  refine fun_laws_toNodeS rfl (by simp; exact lav_clean l) (lav_clean l) ?_
  simp +contextual -dsimp (maxSteps := 2000000) only [↓SD, SU, SB, Nat.reduceAdd, Nat.reduceBEq, Nat.reduceEqDiff, Nat.reduceLeDiff, Nat.reduceLT, Nat.reduceSub, ↓reduceIte, forall_const, implies_true, ne_eq, reduceCtorEq, Int.reduceToNat, forall_eq, ir_laws_toNodeS, rs_laws_toNodeS, map_len]
  refine ⟨by omega, fun v => ?_⟩
  refine aLoop_of (X := Nat) (fun k => ⟨[(0, .sl (l.map av)), (3, .row 7 v l.length), (4, .int .i64 k)], [(7, ⟨v, false, 56, 6, fillL l (AV.agg [.int .i64 0, .int .i64 0, .int .i64 0, .str (bs []), .nils, .nils]) k⟩)]⟩) (fun k => k ≤ l.length) (fun k => l.length - k) 0 (Nat.zero_le _) (by simp +contextual -dsimp (maxSteps := 2000000) only [↓SD, SU, SB, Nat.reduceAdd, Nat.reduceBEq, Nat.reduceEqDiff, Nat.reduceLeDiff, Nat.reduceLT, Nat.reduceSub, ↓reduceIte, forall_const, implies_true, ne_eq, reduceCtorEq, Int.reduceToNat, forall_eq]) (by simp +contextual -dsimp (maxSteps := 2000000) only [↓SD, SU, SB, Nat.reduceAdd, Nat.reduceBEq, Nat.reduceEqDiff, Nat.reduceLeDiff, Nat.reduceLT, Nat.reduceSub, ↓reduceIte, forall_const, implies_true, ne_eq, reduceCtorEq, Int.reduceToNat, forall_eq, fillL_zero]) ?_
  intro k hk
  by_cases hlt : k < l.length
  · have e := getD_map av l k .top hlt
    have e1 := fillL_len (AV.agg [.int .i64 0, .int .i64 0, .int .i64 0, .str (bs []), .nils, .nils]) hk
    have e2 := fillL_get (AV.agg [.int .i64 0, .int .i64 0, .int .i64 0, .str (bs []), .nils, .nils]) hlt .top
    have e3 := fillL_set (z := (AV.agg [.int .i64 0, .int .i64 0, .int .i64 0, .str (bs []), .nils, .nils])) hlt rfl
    have hbk : Bulk.bulk l[k] ≤ 1048576 := by have := bulk_mem (List.getElem_mem hlt); omega
    rw [av_Node] at e3
    simp +contextual -dsimp (maxSteps := 2000000) only [↓SD, SU, SB, Nat.reduceAdd, Nat.reduceBEq, Nat.reduceEqDiff, Nat.reduceLeDiff, Nat.reduceLT, Nat.reduceSub, ↓reduceIte, forall_const, implies_true, ne_eq, reduceCtorEq, Int.reduceToNat, forall_eq, map_len, hlt, e, av_Node]
    have C := toNode_ok l[k] hbk
    rw [av_Node] at C
    refine aCallK_of _ C ?_
    simp +contextual -dsimp (maxSteps := 2000000) only [↓SD, SU, SB, Nat.reduceAdd, Nat.reduceBEq, Nat.reduceEqDiff, Nat.reduceLeDiff, Nat.reduceLT, Nat.reduceSub, ↓reduceIte, forall_const, implies_true, ne_eq, reduceCtorEq, Int.reduceToNat, forall_eq, map_len, hlt, e, av_Node, e1, e2, e3]
    refine ⟨by omega, Goes.le ⟨k + 1, ⟨hlt, (by first | omega | (simp only; omega))⟩, rfl⟩ (by simp +contextual -dsimp (maxSteps := 2000000) only [↓SD, SU, SB, Nat.reduceAdd, Nat.reduceBEq, Nat.reduceEqDiff, Nat.reduceLeDiff, Nat.reduceLT, Nat.reduceSub, ↓reduceIte, forall_const, implies_true, ne_eq, reduceCtorEq, Int.reduceToNat, forall_eq, Int.natCast_add]) (by simp +contextual -dsimp (maxSteps := 2000000) only [↓SD, SU, SB, Nat.reduceAdd, Nat.reduceBEq, Nat.reduceEqDiff, Nat.reduceLeDiff, Nat.reduceLT, Nat.reduceSub, ↓reduceIte, forall_const, implies_true, ne_eq, reduceCtorEq, Int.reduceToNat, forall_eq, e2, e3])⟩
  · obtain rfl : k = l.length := by omega
    have e1 := fillL_len (AV.agg [.int .i64 0, .int .i64 0, .int .i64 0, .str (bs []), .nils, .nils]) hk
    simp +contextual -dsimp (maxSteps := 2000000) only [↓SD, SU, SB, Nat.reduceAdd, Nat.reduceBEq, Nat.reduceEqDiff, Nat.reduceLeDiff, Nat.reduceLT, Nat.reduceSub, ↓reduceIte, forall_const, implies_true, ne_eq, reduceCtorEq, Int.reduceToNat, forall_eq, map_len, Nat.lt_irrefl, fillL_full, map_nop, List.take_length]
    try simp [List.take_of_length_le]

theorem eqNodeS_ok (l : List Node) (hx : Bulk.bulk l ≤ 1048576) : CallsF Tryz.prog 52 [.sl (l.map av), .sl (l.map av)] (.bool true) := by
  have hl := bulk_length l
  refine fun_laws_eqNodeS rfl (by simp; exact lav_clean l) (AvPure.bool _) ?_
  simp +contextual -dsimp (maxSteps := 2000000) only [↓SD, SU, SB, Nat.reduceAdd, Nat.reduceBEq, Nat.reduceEqDiff, Nat.reduceLeDiff, Nat.reduceLT, Nat.reduceSub, ↓reduceIte, forall_const, implies_true, ne_eq, reduceCtorEq, Int.reduceToNat, forall_eq, ir_laws_eqNodeS, rs_laws_eqNodeS, map_len]
  refine aLoop_of (X := Nat) (fun k => ⟨[(0, .sl (l.map av)), (1, .sl (l.map av)), (5, .int .i64 k)], []⟩) (fun k => k ≤ l.length) (fun k => l.length - k) 0 (Nat.zero_le _) (by simp +contextual -dsimp (maxSteps := 2000000) only [↓SD, SU, SB, Nat.reduceAdd, Nat.reduceBEq, Nat.reduceEqDiff, Nat.reduceLeDiff, Nat.reduceLT, Nat.reduceSub, ↓reduceIte, forall_const, implies_true, ne_eq, reduceCtorEq, Int.reduceToNat, forall_eq]) trivial ?_
  intro k hk
  by_cases hlt : k < l.length
  · have e := getD_map av l k .top hlt
    have hbk : Bulk.bulk l[k] ≤ 1048576 := by have := bulk_mem (List.getElem_mem hlt); omega
    simp +contextual -dsimp (maxSteps := 2000000) only [↓SD, SU, SB, Nat.reduceAdd, Nat.reduceBEq, Nat.reduceEqDiff, Nat.reduceLeDiff, Nat.reduceLT, Nat.reduceSub, ↓reduceIte, forall_const, implies_true, ne_eq, reduceCtorEq, Int.reduceToNat, forall_eq, map_len, hlt, e, av_Node]
    have C := eqNode_ok l[k] hbk
    rw [av_Node] at C
    refine aCallK_of _ C ?_
    simp +contextual -dsimp (maxSteps := 2000000) only [↓SD, SU, SB, Nat.reduceAdd, Nat.reduceBEq, Nat.reduceEqDiff, Nat.reduceLeDiff, Nat.reduceLT, Nat.reduceSub, ↓reduceIte, forall_const, implies_true, ne_eq, reduceCtorEq, Int.reduceToNat, forall_eq, map_len, hlt, e, av_Node]
    exact ⟨by omega, Goes.le ⟨k + 1, ⟨hlt, (by first | omega | (simp only; omega))⟩, rfl⟩ (by simp +contextual -dsimp (maxSteps := 2000000) only [↓SD, SU, SB, Nat.reduceAdd, Nat.reduceBEq, Nat.reduceEqDiff, Nat.reduceLeDiff, Nat.reduceLT, Nat.reduceSub, ↓reduceIte, forall_const, implies_true, ne_eq, reduceCtorEq, Int.reduceToNat, forall_eq, Int.natCast_add]) trivial⟩
  · obtain rfl : k = l.length := by omega
    simp +contextual -dsimp (maxSteps := 2000000) only [↓SD, SU, SB, Nat.reduceAdd, Nat.reduceBEq, Nat.reduceEqDiff, Nat.reduceLeDiff, Nat.reduceLT, Nat.reduceSub, ↓reduceIte, forall_const, implies_true, ne_eq, reduceCtorEq, Int.reduceToNat, forall_eq, map_len, Nat.lt_irrefl]

theorem szProgram_ok (x : Program) (n : Int) (hx : Bulk.bulk x ≤ 1048576) (h1 : -1 ≤ n) (h2 : n ≤ 1048576) : SzOk 13 [av x, .int .i64 n] := by
  have hb : Bulk.bulk x.types + Bulk.bulk x.nodes + 1 ≤ 1048576 := hx
  refine funH_laws_szProgram rfl ?_
  simp +contextual -dsimp (maxSteps := 2000000) only [↓SD, SU, SB, Nat.reduceAdd, Nat.reduceBEq, Nat.reduceEqDiff, Nat.reduceLeDiff, Nat.reduceLT, Nat.reduceSub, ↓reduceIte, forall_const, implies_true, ne_eq, reduceCtorEq, Int.reduceToNat, forall_eq, ir_laws_szProgram, rs_laws_szProgram, av_Program]
  (repeat' (first | intro _ | refine And.intro ?_ ?_))
  all_goals first | omega | (refine Goes.post [] ?_; simp +contextual -dsimp (maxSteps := 2000000) only [↓SD, SU, SB, Nat.reduceAdd, Nat.reduceBEq, Nat.reduceEqDiff, Nat.reduceLeDiff, Nat.reduceLT, Nat.reduceSub, ↓reduceIte, forall_const, implies_true, ne_eq, reduceCtorEq, Int.reduceToNat, forall_eq, rs_laws_szProgram]; exact ⟨_, rfl, rfl, by omega, by omega⟩) | (refine aCallH_of [] (szTypeS_ok x.types _ (by omega)  (by omega) (by omega)) (by simp +contextual -dsimp (maxSteps := 2000000) only [↓SD, SU, SB, Nat.reduceAdd, Nat.reduceBEq, Nat.reduceEqDiff, Nat.reduceLeDiff, Nat.reduceLT, Nat.reduceSub, ↓reduceIte, forall_const, implies_true, ne_eq, reduceCtorEq, Int.reduceToNat, forall_eq]) ?_; rintro r hp' ⟨m, rfl, rfl, hm1, hm2⟩; simp +contextual -dsimp (maxSteps := 2000000) only [↓SD, SU, SB, Nat.reduceAdd, Nat.reduceBEq, Nat.reduceEqDiff, Nat.reduceLeDiff, Nat.reduceLT, Nat.reduceSub, ↓reduceIte, forall_const, implies_true, ne_eq, reduceCtorEq, Int.reduceToNat, forall_eq]; (repeat' (first | intro _ | refine And.intro ?_ ?_))) | (refine aCallH_of [] (szNodeS_ok x.nodes _ (by omega)  (by omega) (by omega)) (by simp +contextual -dsimp (maxSteps := 2000000) only [↓SD, SU, SB, Nat.reduceAdd, Nat.reduceBEq, Nat.reduceEqDiff, Nat.reduceLeDiff, Nat.reduceLT, Nat.reduceSub, ↓reduceIte, forall_const, implies_true, ne_eq, reduceCtorEq, Int.reduceToNat, forall_eq]) ?_; rintro r hp' ⟨m, rfl, rfl, hm1, hm2⟩; simp +contextual -dsimp (maxSteps := 2000000) only [↓SD, SU, SB, Nat.reduceAdd, Nat.reduceBEq, Nat.reduceEqDiff, Nat.reduceLeDiff, Nat.reduceLT, Nat.reduceSub, ↓reduceIte, forall_const, implies_true, ne_eq, reduceCtorEq, Int.reduceToNat, forall_eq]; (repeat' (first | intro _ | refine And.intro ?_ ?_)))
  all_goals first | omega | (refine Goes.post [] ?_; simp +contextual -dsimp (maxSteps := 2000000) only [↓SD, SU, SB, Nat.reduceAdd, Nat.reduceBEq, Nat.reduceEqDiff, Nat.reduceLeDiff, Nat.reduceLT, Nat.reduceSub, ↓reduceIte, forall_const, implies_true, ne_eq, reduceCtorEq, Int.reduceToNat, forall_eq, rs_laws_szProgram]; exact ⟨_, rfl, rfl, by omega, by omega⟩) | (refine aCallH_of [] (szTypeS_ok x.types _ (by omega)  (by omega) (by omega)) (by simp +contextual -dsimp (maxSteps := 2000000) only [↓SD, SU, SB, Nat.reduceAdd, Nat.reduceBEq, Nat.reduceEqDiff, Nat.reduceLeDiff, Nat.reduceLT, Nat.reduceSub, ↓reduceIte, forall_const, implies_true, ne_eq, reduceCtorEq, Int.reduceToNat, forall_eq]) ?_; rintro r hp' ⟨m, rfl, rfl, hm1, hm2⟩; simp +contextual -dsimp (maxSteps := 2000000) only [↓SD, SU, SB, Nat.reduceAdd, Nat.reduceBEq, Nat.reduceEqDiff, Nat.reduceLeDiff, Nat.reduceLT, Nat.reduceSub, ↓reduceIte, forall_const, implies_true, ne_eq, reduceCtorEq, Int.reduceToNat, forall_eq]; (repeat' (first | intro _ | refine And.intro ?_ ?_))) | (refine aCallH_of [] (szNodeS_ok x.nodes _ (by omega)  (by omega) (by omega)) (by simp +contextual -dsimp (maxSteps := 2000000) only [↓SD, SU, SB, Nat.reduceAdd, Nat.reduceBEq, Nat.reduceEqDiff, Nat.reduceLeDiff, Nat.reduceLT, Nat.reduceSub, ↓reduceIte, forall_const, implies_true, ne_eq, reduceCtorEq, Int.reduceToNat, forall_eq]) ?_; rintro r hp' ⟨m, rfl, rfl, hm1, hm2⟩; simp +contextual -dsimp (maxSteps := 2000000) only [↓SD, SU, SB, Nat.reduceAdd, Nat.reduceBEq, Nat.reduceEqDiff, Nat.reduceLeDiff, Nat.reduceLT, Nat.reduceSub, ↓reduceIte, forall_const, implies_true, ne_eq, reduceCtorEq, Int.reduceToNat, forall_eq]; (repeat' (first | intro _ | refine And.intro ?_ ?_)))
  all_goals first | omega | (refine Goes.post [] ?_; simp +contextual -dsimp (maxSteps := 2000000) only [↓SD, SU, SB, Nat.reduceAdd, Nat.reduceBEq, Nat.reduceEqDiff, Nat.reduceLeDiff, Nat.reduceLT, Nat.reduceSub, ↓reduceIte, forall_const, implies_true, ne_eq, reduceCtorEq, Int.reduceToNat, forall_eq, rs_laws_szProgram]; exact ⟨_, rfl, rfl, by omega, by omega⟩)

theorem toProgram_ok (x : Program) (hx : Bulk.bulk x ≤ 1048576) : CallsF Tryz.prog 15 [av x] (av x) := by
  have hb : Bulk.bulk x.types + Bulk.bulk x.nodes + 1 ≤ 1048576 := hx
  refine fun_laws_toProgram rfl (by simp; exact AVal.clean x) (AVal.clean x) ?_
  simp +contextual -dsimp (maxSteps := 2000000) only [↓SD, SU, SB, Nat.reduceAdd, Nat.reduceBEq, Nat.reduceEqDiff, Nat.reduceLeDiff, Nat.reduceLT, Nat.reduceSub, ↓reduceIte, forall_const, implies_true, ne_eq, reduceCtorEq, Int.reduceToNat, forall_eq, ir_laws_toProgram, rs_laws_toProgram, av_Program]
  (repeat' (first | intro _ | refine And.intro ?_ ?_))
  refine aCallK_of _ (toTypeS_ok x.types (by omega)) ?_
  simp +contextual -dsimp (maxSteps := 2000000) only [↓SD, SU, SB, Nat.reduceAdd, Nat.reduceBEq, Nat.reduceEqDiff, Nat.reduceLeDiff, Nat.reduceLT, Nat.reduceSub, ↓reduceIte, forall_const, implies_true, ne_eq, reduceCtorEq, Int.reduceToNat, forall_eq]
  (repeat' (first | intro _ | refine And.intro ?_ ?_))
  refine aCallK_of _ (toNodeS_ok x.nodes (by omega)) ?_
  simp +contextual -dsimp (maxSteps := 2000000) only [↓SD, SU, SB, Nat.reduceAdd, Nat.reduceBEq, Nat.reduceEqDiff, Nat.reduceLeDiff, Nat.reduceLT, Nat.reduceSub, ↓reduceIte, forall_const, implies_true, ne_eq, reduceCtorEq, Int.reduceToNat, forall_eq]

theorem eqProgram_ok (x : Program) (hx : Bulk.bulk x ≤ 1048576) : CallsF Tryz.prog 17 [av x, av x] (.bool true) := by
  have hb : Bulk.bulk x.types + Bulk.bulk x.nodes + 1 ≤ 1048576 := hx
  refine fun_laws_eqProgram rfl (by simp; exact AVal.clean x) (AvPure.bool _) ?_
  simp +contextual -dsimp (maxSteps := 2000000) only [↓SD, SU, SB, Nat.reduceAdd, Nat.reduceBEq, Nat.reduceEqDiff, Nat.reduceLeDiff, Nat.reduceLT, Nat.reduceSub, ↓reduceIte, forall_const, implies_true, ne_eq, reduceCtorEq, Int.reduceToNat, forall_eq, ir_laws_eqProgram, rs_laws_eqProgram, av_Program, beq_self_eq_true]
  refine aCallK_of _ (eqTypeS_ok x.types (by omega)) ?_
  simp +contextual -dsimp (maxSteps := 2000000) only [↓SD, SU, SB, Nat.reduceAdd, Nat.reduceBEq, Nat.reduceEqDiff, Nat.reduceLeDiff, Nat.reduceLT, Nat.reduceSub, ↓reduceIte, forall_const, implies_true, ne_eq, reduceCtorEq, Int.reduceToNat, forall_eq, beq_self_eq_true]
  refine aCallK_of _ (eqNodeS_ok x.nodes (by omega)) ?_
  simp +contextual -dsimp (maxSteps := 2000000) only [↓SD, SU, SB, Nat.reduceAdd, Nat.reduceBEq, Nat.reduceEqDiff, Nat.reduceLeDiff, Nat.reduceLT, Nat.reduceSub, ↓reduceIte, forall_const, implies_true, ne_eq, reduceCtorEq, Int.reduceToNat, forall_eq, beq_self_eq_true]

end Go.Proofs.YtpomnlejlgojaaaGreat
