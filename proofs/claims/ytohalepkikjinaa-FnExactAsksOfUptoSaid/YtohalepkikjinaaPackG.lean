/-
  THE GROUND OF DATA, in one text. Conditions: none.
-/
import Derived.Test.YtohalepkikjinaaPackA
import Derived.Test.YtohalepkikjinaaIrGInt
import Derived.Test.YtohalepkikjinaaIrGPat
import Derived.Test.YtohalepkikjinaaIrGPatS
import Derived.Test.YtohalepkikjinaaIrGAsk

set_option linter.unusedVariables false
set_option linter.unusedSimpArgs false
set_option maxRecDepth 100000
namespace Go.Proofs.Ytohalepkikjinaa
open Go.RowKit Go.Proofs.Ytohalepkikjinaa.Av Go.Proofs.Ytohalepkikjinaa.Ml
open Go.Proofs.Ytohalepkikjinaa.Av.AVal (av)

theorem szIntS_ok (l : List Int) (n : Int) (hx : Bulk.bulk l ≤ 1048576) (h1 : -1 ≤ n) (h2 : n ≤ 1048576) : SzOk 65 [.sl (l.map av), .int .i64 n] := by
  have hl := bulk_length l
  refine funH_laws_szIntS rfl ?_
  simp +contextual -dsimp only [↓SD, SU, SB, Nat.reduceAdd, Nat.reduceBEq, Nat.reduceEqDiff, Nat.reduceLeDiff, Nat.reduceLT, Nat.reduceSub, ↓reduceIte, zA, zI, zN, reduceCtorEq, Int.reduceToNat, zE, ir_laws_szIntS, rs_laws_szIntS, map_len]
  (repeat' (first | intro _ | refine And.intro ?_ ?_))
  all_goals first | omega | (refine Goes.post [] ?_; simp +contextual -dsimp only [↓SD, SU, SB, Nat.reduceAdd, Nat.reduceBEq, Nat.reduceEqDiff, Nat.reduceLeDiff, Nat.reduceLT, Nat.reduceSub, ↓reduceIte, zA, zI, zN, reduceCtorEq, Int.reduceToNat, zE, rs_laws_szIntS]; exact ⟨_, rfl, rfl, by omega, by omega⟩)

theorem toIntS_ok (l : List Int) (hx : Bulk.bulk l ≤ 1048576) : CallsF Try.prog 69 [.sl (l.map av)] (.sl (l.map av)) := by
  have hl := bulk_length l
  refine fun_laws_toIntS rfl (by simp; exact lav_clean l) (lav_clean l) ?_
  simp +contextual -dsimp only [↓SD, SU, SB, Nat.reduceAdd, Nat.reduceBEq, Nat.reduceEqDiff, Nat.reduceLeDiff, Nat.reduceLT, Nat.reduceSub, ↓reduceIte, zA, zI, zN, reduceCtorEq, Int.reduceToNat, zE, ir_laws_toIntS, rs_laws_toIntS, map_len]
  refine ⟨by omega, fun v => ?_⟩
  refine aLoop_of (X := Nat) (fun k => ⟨[(0, .sl (l.map av)), (3, .row 7 v l.length), (4, .int .i64 k)], [(7, ⟨v, false, 3, 1, fillL l (AV.int .i64 0) k⟩)]⟩) (fun k => k ≤ l.length) (fun k => l.length - k) 0 (Nat.zero_le _) (by simp +contextual -dsimp only [↓SD, SU, SB, Nat.reduceAdd, Nat.reduceBEq, Nat.reduceEqDiff, Nat.reduceLeDiff, Nat.reduceLT, Nat.reduceSub, ↓reduceIte, zA, zI, zN, reduceCtorEq, Int.reduceToNat, zE]) (by simp +contextual -dsimp only [↓SD, SU, SB, Nat.reduceAdd, Nat.reduceBEq, Nat.reduceEqDiff, Nat.reduceLeDiff, Nat.reduceLT, Nat.reduceSub, ↓reduceIte, zA, zI, zN, reduceCtorEq, Int.reduceToNat, zE, fillL_zero]) ?_
  intro k hk
  by_cases hlt : k < l.length
  · have e := getD_map av l k .top hlt
    have e1 := fillL_len (AV.int .i64 0) hk
    have e2 := fillL_get (AV.int .i64 0) hlt .top
    have e3 := fillL_set (z := (AV.int .i64 0)) hlt rfl
    have hbk : Bulk.bulk l[k] ≤ 1048576 := by have := bulk_mem (List.getElem_mem hlt); omega
    rw [av_int] at e3
    simp +contextual -dsimp only [↓SD, SU, SB, Nat.reduceAdd, Nat.reduceBEq, Nat.reduceEqDiff, Nat.reduceLeDiff, Nat.reduceLT, Nat.reduceSub, ↓reduceIte, zA, zI, zN, reduceCtorEq, Int.reduceToNat, zE, map_len, hlt, e, av_int, e1, e2, e3]
    refine ⟨by omega, aRound (k + 1) hlt (by first | omega | (simp only; omega)) (by simp +contextual -dsimp only [↓SD, SU, SB, Nat.reduceAdd, Nat.reduceBEq, Nat.reduceEqDiff, Nat.reduceLeDiff, Nat.reduceLT, Nat.reduceSub, ↓reduceIte, zA, zI, zN, reduceCtorEq, Int.reduceToNat, zE, Int.natCast_add]) (by simp +contextual -dsimp only [↓SD, SU, SB, Nat.reduceAdd, Nat.reduceBEq, Nat.reduceEqDiff, Nat.reduceLeDiff, Nat.reduceLT, Nat.reduceSub, ↓reduceIte, zA, zI, zN, reduceCtorEq, Int.reduceToNat, zE])⟩
  · obtain rfl : k = l.length := by omega
    have e1 := fillL_len (AV.int .i64 0) hk
    simp +contextual -dsimp only [↓SD, SU, SB, Nat.reduceAdd, Nat.reduceBEq, Nat.reduceEqDiff, Nat.reduceLeDiff, Nat.reduceLT, Nat.reduceSub, ↓reduceIte, zA, zI, zN, reduceCtorEq, Int.reduceToNat, zE, map_len, Nat.lt_irrefl, fillL_full, map_nop, List.take_length]
    try simp [List.take_of_length_le]

theorem eqIntS_ok (l : List Int) (hx : Bulk.bulk l ≤ 1048576) : CallsF Try.prog 63 [.sl (l.map av), .sl (l.map av)] (.bool true) := by
  have hl := bulk_length l
  refine fun_laws_eqIntS rfl (by simp; exact lav_clean l) (AvPure.bool _) ?_
  simp +contextual -dsimp only [↓SD, SU, SB, Nat.reduceAdd, Nat.reduceBEq, Nat.reduceEqDiff, Nat.reduceLeDiff, Nat.reduceLT, Nat.reduceSub, ↓reduceIte, zA, zI, zN, reduceCtorEq, Int.reduceToNat, zE, ir_laws_eqIntS, rs_laws_eqIntS, map_len]
  refine aLoop_of (X := Nat) (fun k => ⟨[(0, .sl (l.map av)), (1, .sl (l.map av)), (5, .int .i64 k)], []⟩) (fun k => k ≤ l.length) (fun k => l.length - k) 0 (Nat.zero_le _) (by simp +contextual -dsimp only [↓SD, SU, SB, Nat.reduceAdd, Nat.reduceBEq, Nat.reduceEqDiff, Nat.reduceLeDiff, Nat.reduceLT, Nat.reduceSub, ↓reduceIte, zA, zI, zN, reduceCtorEq, Int.reduceToNat, zE]) trivial ?_
  intro k hk
  by_cases hlt : k < l.length
  · have e := getD_map av l k .top hlt
    have hbk : Bulk.bulk l[k] ≤ 1048576 := by have := bulk_mem (List.getElem_mem hlt); omega
    simp +contextual -dsimp only [↓SD, SU, SB, Nat.reduceAdd, Nat.reduceBEq, Nat.reduceEqDiff, Nat.reduceLeDiff, Nat.reduceLT, Nat.reduceSub, ↓reduceIte, zA, zI, zN, reduceCtorEq, Int.reduceToNat, zE, map_len, hlt, e, av_int]
    exact ⟨by omega, aRound (k + 1) hlt (by first | omega | (simp only; omega)) (by simp +contextual -dsimp only [↓SD, SU, SB, Nat.reduceAdd, Nat.reduceBEq, Nat.reduceEqDiff, Nat.reduceLeDiff, Nat.reduceLT, Nat.reduceSub, ↓reduceIte, zA, zI, zN, reduceCtorEq, Int.reduceToNat, zE, Int.natCast_add]) trivial⟩
  · obtain rfl : k = l.length := by omega
    simp +contextual -dsimp only [↓SD, SU, SB, Nat.reduceAdd, Nat.reduceBEq, Nat.reduceEqDiff, Nat.reduceLeDiff, Nat.reduceLT, Nat.reduceSub, ↓reduceIte, zA, zI, zN, reduceCtorEq, Int.reduceToNat, zE, map_len, Nat.lt_irrefl]

end Go.Proofs.Ytohalepkikjinaa


set_option linter.unusedVariables false
set_option linter.unusedSimpArgs false
set_option maxRecDepth 100000
namespace Go.Proofs.Ytohalepkikjinaa
open Go.RowKit Go.Proofs.Ytohalepkikjinaa.Av Go.Proofs.Ytohalepkikjinaa.Ml
open Go.Proofs.Ytohalepkikjinaa.Av.AVal (av)

instance : AVal PNode := ⟨fun x => .agg [.int .i64 x.kind, .int .i64 x.n, .str x.s, .sl (x.kids.map av)], 4, fun _ => rfl, fun _ => rfl, fun x y hy => by
  simp only [AV.cells, List.mem_cons, List.not_mem_nil, or_false] at hy
  rcases hy with rfl | rfl | rfl | rfl <;> first | exact AvPure.int _ _ | exact AvPure.str _ | exact AvPure.bool _ | exact lav_clean x.kids, fun _ _ => rfl, fun x y hy => by
  simp only [AV.cells, List.mem_cons, List.not_mem_nil, or_false] at hy
  rcases hy with rfl | rfl | rfl | rfl <;> rfl⟩
theorem av_PNode (x : PNode) : av x = .agg [.int .i64 x.kind, .int .i64 x.n, .str x.s, .sl (x.kids.map av)] := eqq rfl
instance : AvRep PNode := ⟨fun {S w cs y} h => by
  obtain ⟨v3, rfl, h0, h1, h2, r3⟩ := h
  exact VRs.cons (.int _ _ h0.1 h0.2) (VRs.cons (.int _ _ h1.1 h1.2) (VRs.cons (.str _ h2) (VRs.cons (repSl_vr r3) (VRs.nil))))⟩

instance : AVal Pat := ⟨fun x => .agg [.sl (x.nodes.map av)], 1, fun _ => rfl, fun _ => rfl, fun x y hy => by
  simp only [AV.cells, List.mem_cons, List.not_mem_nil, or_false] at hy
  subst hy; first | exact AvPure.int _ _ | exact AvPure.str _ | exact AvPure.bool _ | exact lav_clean x.nodes, fun _ _ => rfl, fun x y hy => by
  simp only [AV.cells, List.mem_cons, List.not_mem_nil, or_false] at hy
  subst hy; rfl⟩
theorem av_Pat (x : Pat) : av x = .agg [.sl (x.nodes.map av)] := eqq rfl
instance : AvRep Pat := ⟨fun {S w cs y} h => by
  obtain ⟨v0, rfl, r0⟩ := h
  exact VRs.cons (repSl_vr r0) (VRs.nil)⟩

theorem szPNode_ok (x : PNode) (n : Int) (hx : Bulk.bulk x ≤ 1048576) (h1 : -1 ≤ n) (h2 : n ≤ 1048576) : SzOk 51 [av x, .int .i64 n] := by
  have hb : Bulk.bulk x.kind + Bulk.bulk x.n + Bulk.bulk x.s + Bulk.bulk x.kids + 1 ≤ 1048576 := hx
  have e2 : Bulk.bulk x.s = x.s.size + 1 := rfl
  refine funH_laws_szPNode rfl ?_
  simp +contextual -dsimp only [↓SD, SU, SB, Nat.reduceAdd, Nat.reduceBEq, Nat.reduceEqDiff, Nat.reduceLeDiff, Nat.reduceLT, Nat.reduceSub, ↓reduceIte, zA, zI, zN, reduceCtorEq, Int.reduceToNat, zE, ir_laws_szPNode, rs_laws_szPNode, av_PNode]
  (repeat' (first | intro _ | refine And.intro ?_ ?_))
  all_goals first | omega | (refine Goes.post [] ?_; simp +contextual -dsimp only [↓SD, SU, SB, Nat.reduceAdd, Nat.reduceBEq, Nat.reduceEqDiff, Nat.reduceLeDiff, Nat.reduceLT, Nat.reduceSub, ↓reduceIte, zA, zI, zN, reduceCtorEq, Int.reduceToNat, zE, rs_laws_szPNode]; exact ⟨_, rfl, rfl, by omega, by omega⟩) | (refine aCallH_of [] (szIntS_ok x.kids _ (by omega)  (by omega) (by omega)) (by simp +contextual -dsimp only [↓SD, SU, SB, Nat.reduceAdd, Nat.reduceBEq, Nat.reduceEqDiff, Nat.reduceLeDiff, Nat.reduceLT, Nat.reduceSub, ↓reduceIte, zA, zI, zN, reduceCtorEq, Int.reduceToNat, zE]) ?_; rintro r hp' ⟨m, rfl, rfl, hm1, hm2⟩; simp +contextual -dsimp only [↓SD, SU, SB, Nat.reduceAdd, Nat.reduceBEq, Nat.reduceEqDiff, Nat.reduceLeDiff, Nat.reduceLT, Nat.reduceSub, ↓reduceIte, zA, zI, zN, reduceCtorEq, Int.reduceToNat, zE]; (repeat' (first | intro _ | refine And.intro ?_ ?_)))
  all_goals first | omega | (refine Goes.post [] ?_; simp +contextual -dsimp only [↓SD, SU, SB, Nat.reduceAdd, Nat.reduceBEq, Nat.reduceEqDiff, Nat.reduceLeDiff, Nat.reduceLT, Nat.reduceSub, ↓reduceIte, zA, zI, zN, reduceCtorEq, Int.reduceToNat, zE, rs_laws_szPNode]; exact ⟨_, rfl, rfl, by omega, by omega⟩)

theorem toPNode_ok (x : PNode) (hx : Bulk.bulk x ≤ 1048576) : CallsF Try.prog 56 [av x] (av x) := by
  have hb : Bulk.bulk x.kind + Bulk.bulk x.n + Bulk.bulk x.s + Bulk.bulk x.kids + 1 ≤ 1048576 := hx
  refine fun_laws_toPNode rfl (by simp; exact AVal.clean x) (AVal.clean x) ?_
  simp +contextual -dsimp only [↓SD, SU, SB, Nat.reduceAdd, Nat.reduceBEq, Nat.reduceEqDiff, Nat.reduceLeDiff, Nat.reduceLT, Nat.reduceSub, ↓reduceIte, zA, zI, zN, reduceCtorEq, Int.reduceToNat, zE, ir_laws_toPNode, rs_laws_toPNode, av_PNode]
  (repeat' (first | intro _ | refine And.intro ?_ ?_))
  refine aCallK_of _ (toIntS_ok x.kids (by omega)) ?_
  simp +contextual -dsimp only [↓SD, SU, SB, Nat.reduceAdd, Nat.reduceBEq, Nat.reduceEqDiff, Nat.reduceLeDiff, Nat.reduceLT, Nat.reduceSub, ↓reduceIte, zA, zI, zN, reduceCtorEq, Int.reduceToNat, zE]

theorem eqPNode_ok (x : PNode) (hx : Bulk.bulk x ≤ 1048576) : CallsF Try.prog 64 [av x, av x] (.bool true) := by
  have hb : Bulk.bulk x.kind + Bulk.bulk x.n + Bulk.bulk x.s + Bulk.bulk x.kids + 1 ≤ 1048576 := hx
  refine fun_laws_eqPNode rfl (by simp; exact AVal.clean x) (AvPure.bool _) ?_
  simp +contextual -dsimp only [↓SD, SU, SB, Nat.reduceAdd, Nat.reduceBEq, Nat.reduceEqDiff, Nat.reduceLeDiff, Nat.reduceLT, Nat.reduceSub, ↓reduceIte, zA, zI, zN, reduceCtorEq, Int.reduceToNat, zE, ir_laws_eqPNode, rs_laws_eqPNode, av_PNode, beq_self_eq_true]
  refine aCallK_of _ (eqIntS_ok x.kids (by omega)) ?_
  simp +contextual -dsimp only [↓SD, SU, SB, Nat.reduceAdd, Nat.reduceBEq, Nat.reduceEqDiff, Nat.reduceLeDiff, Nat.reduceLT, Nat.reduceSub, ↓reduceIte, zA, zI, zN, reduceCtorEq, Int.reduceToNat, zE, beq_self_eq_true]

theorem szPNodeS_ok (l : List PNode) (n : Int) (hx : Bulk.bulk l ≤ 1048576) (h1 : -1 ≤ n) (h2 : n ≤ 1048576) : SzOk 29 [.sl (l.map av), .int .i64 n] := by
  have hl := bulk_length l
  refine funH_laws_szPNodeS rfl ?_
  simp +contextual -dsimp only [↓SD, SU, SB, Nat.reduceAdd, Nat.reduceBEq, Nat.reduceEqDiff, Nat.reduceLeDiff, Nat.reduceLT, Nat.reduceSub, ↓reduceIte, zA, zI, zN, reduceCtorEq, Int.reduceToNat, zE, ir_laws_szPNodeS, rs_laws_szPNodeS, map_len]
  refine ⟨by omega, fun h => ?_, fun h => ?_⟩
  · refine Goes.post [] ?_; simp +contextual -dsimp only [↓SD, SU, SB, Nat.reduceAdd, Nat.reduceBEq, Nat.reduceEqDiff, Nat.reduceLeDiff, Nat.reduceLT, Nat.reduceSub, ↓reduceIte, zA, zI, zN, reduceCtorEq, Int.reduceToNat, zE, rs_laws_szPNodeS]; exact ⟨_, rfl, rfl, by omega, by omega⟩
  refine aLoop_of (X := Nat × Int) (fun x => ⟨[(0, .sl (l.map av)), (1, .int .i64 x.2), (5, .int .i64 x.1)], []⟩) (fun x => x.1 ≤ l.length ∧ 0 ≤ x.2 ∧ x.2 ≤ 1048576) (fun x => l.length - x.1) (0, n - l.length) ⟨Nat.zero_le _, by simp only; omega, by simp only; omega⟩ (by simp +contextual -dsimp only [↓SD, SU, SB, Nat.reduceAdd, Nat.reduceBEq, Nat.reduceEqDiff, Nat.reduceLeDiff, Nat.reduceLT, Nat.reduceSub, ↓reduceIte, zA, zI, zN, reduceCtorEq, Int.reduceToNat, zE]) trivial ?_
  rintro ⟨k, m⟩ ⟨hk, hm0, hm1⟩
  simp only at hk hm0 hm1
  by_cases hlt : k < l.length
  · have e := getD_map av l k .top hlt
    have hbk : Bulk.bulk l[k] ≤ 1048576 := by have := bulk_mem (List.getElem_mem hlt); omega
    simp +contextual -dsimp only [↓SD, SU, SB, Nat.reduceAdd, Nat.reduceBEq, Nat.reduceEqDiff, Nat.reduceLeDiff, Nat.reduceLT, Nat.reduceSub, ↓reduceIte, zA, zI, zN, reduceCtorEq, Int.reduceToNat, zE, map_len, hlt, e, av_PNode]
    refine aCallH_of [] (szPNode_ok l[k] m hbk (by omega) hm1) (by simp +contextual -dsimp only [↓SD, SU, SB, Nat.reduceAdd, Nat.reduceBEq, Nat.reduceEqDiff, Nat.reduceLeDiff, Nat.reduceLT, Nat.reduceSub, ↓reduceIte, zA, zI, zN, reduceCtorEq, Int.reduceToNat, zE]) ?_
    rintro r hp' ⟨q, rfl, rfl, hq1, hq2⟩
    simp +contextual -dsimp only [↓SD, SU, SB, Nat.reduceAdd, Nat.reduceBEq, Nat.reduceEqDiff, Nat.reduceLeDiff, Nat.reduceLT, Nat.reduceSub, ↓reduceIte, zA, zI, zN, reduceCtorEq, Int.reduceToNat, zE]
    (repeat' (first | intro _ | refine And.intro ?_ ?_))
    all_goals first | omega | (refine Goes.post [] ?_; simp +contextual -dsimp only [↓SD, SU, SB, Nat.reduceAdd, Nat.reduceBEq, Nat.reduceEqDiff, Nat.reduceLeDiff, Nat.reduceLT, Nat.reduceSub, ↓reduceIte, zA, zI, zN, reduceCtorEq, Int.reduceToNat, zE, rs_laws_szPNodeS]; exact ⟨_, rfl, rfl, by omega, by omega⟩) | exact Goes.le ⟨(k + 1, q), ⟨⟨hlt, by simp only; omega, hq2⟩, (by first | omega | (simp only; omega))⟩, rfl⟩ (by simp +contextual -dsimp only [↓SD, SU, SB, Nat.reduceAdd, Nat.reduceBEq, Nat.reduceEqDiff, Nat.reduceLeDiff, Nat.reduceLT, Nat.reduceSub, ↓reduceIte, zA, zI, zN, reduceCtorEq, Int.reduceToNat, zE, Int.natCast_add]) trivial
  · obtain rfl : k = l.length := by omega
    simp +contextual -dsimp only [↓SD, SU, SB, Nat.reduceAdd, Nat.reduceBEq, Nat.reduceEqDiff, Nat.reduceLeDiff, Nat.reduceLT, Nat.reduceSub, ↓reduceIte, zA, zI, zN, reduceCtorEq, Int.reduceToNat, zE, map_len, Nat.lt_irrefl]
    refine Goes.post [] ?_
    simp +contextual -dsimp only [↓SD, SU, SB, Nat.reduceAdd, Nat.reduceBEq, Nat.reduceEqDiff, Nat.reduceLeDiff, Nat.reduceLT, Nat.reduceSub, ↓reduceIte, zA, zI, zN, reduceCtorEq, Int.reduceToNat, zE, rs_laws_szPNodeS]
    exact ⟨_, rfl, rfl, by omega, by omega⟩

theorem toPNodeS_ok (l : List PNode) (hx : Bulk.bulk l ≤ 1048576) : CallsF Try.prog 34 [.sl (l.map av)] (.sl (l.map av)) := by
  have hl := bulk_length l
  refine fun_laws_toPNodeS rfl (by simp; exact lav_clean l) (lav_clean l) ?_
  simp +contextual -dsimp only [↓SD, SU, SB, Nat.reduceAdd, Nat.reduceBEq, Nat.reduceEqDiff, Nat.reduceLeDiff, Nat.reduceLT, Nat.reduceSub, ↓reduceIte, zA, zI, zN, reduceCtorEq, Int.reduceToNat, zE, ir_laws_toPNodeS, rs_laws_toPNodeS, map_len]
  refine ⟨by omega, fun v => ?_⟩
  refine aLoop_of (X := Nat) (fun k => ⟨[(0, .sl (l.map av)), (3, .row 7 v l.length), (4, .int .i64 k)], [(7, ⟨v, false, 69, 4, fillL l (AV.agg [.int .i64 0, .int .i64 0, .str (bs []), .nils]) k⟩)]⟩) (fun k => k ≤ l.length) (fun k => l.length - k) 0 (Nat.zero_le _) (by simp +contextual -dsimp only [↓SD, SU, SB, Nat.reduceAdd, Nat.reduceBEq, Nat.reduceEqDiff, Nat.reduceLeDiff, Nat.reduceLT, Nat.reduceSub, ↓reduceIte, zA, zI, zN, reduceCtorEq, Int.reduceToNat, zE]) (by simp +contextual -dsimp only [↓SD, SU, SB, Nat.reduceAdd, Nat.reduceBEq, Nat.reduceEqDiff, Nat.reduceLeDiff, Nat.reduceLT, Nat.reduceSub, ↓reduceIte, zA, zI, zN, reduceCtorEq, Int.reduceToNat, zE, fillL_zero]) ?_
  intro k hk
  by_cases hlt : k < l.length
  · have e := getD_map av l k .top hlt
    have e1 := fillL_len (AV.agg [.int .i64 0, .int .i64 0, .str (bs []), .nils]) hk
    have e2 := fillL_get (AV.agg [.int .i64 0, .int .i64 0, .str (bs []), .nils]) hlt .top
    have e3 := fillL_set (z := (AV.agg [.int .i64 0, .int .i64 0, .str (bs []), .nils])) hlt rfl
    have hbk : Bulk.bulk l[k] ≤ 1048576 := by have := bulk_mem (List.getElem_mem hlt); omega
    rw [av_PNode] at e3
    simp +contextual -dsimp only [↓SD, SU, SB, Nat.reduceAdd, Nat.reduceBEq, Nat.reduceEqDiff, Nat.reduceLeDiff, Nat.reduceLT, Nat.reduceSub, ↓reduceIte, zA, zI, zN, reduceCtorEq, Int.reduceToNat, zE, map_len, hlt, e, av_PNode]
    have C := toPNode_ok l[k] hbk
    rw [av_PNode] at C
    refine aCallK_of _ C ?_
    simp +contextual -dsimp only [↓SD, SU, SB, Nat.reduceAdd, Nat.reduceBEq, Nat.reduceEqDiff, Nat.reduceLeDiff, Nat.reduceLT, Nat.reduceSub, ↓reduceIte, zA, zI, zN, reduceCtorEq, Int.reduceToNat, zE, map_len, hlt, e, av_PNode, e1, e2, e3]
    refine ⟨by omega, Goes.le ⟨k + 1, ⟨hlt, (by first | omega | (simp only; omega))⟩, rfl⟩ (by simp +contextual -dsimp only [↓SD, SU, SB, Nat.reduceAdd, Nat.reduceBEq, Nat.reduceEqDiff, Nat.reduceLeDiff, Nat.reduceLT, Nat.reduceSub, ↓reduceIte, zA, zI, zN, reduceCtorEq, Int.reduceToNat, zE, Int.natCast_add]) (by simp +contextual -dsimp only [↓SD, SU, SB, Nat.reduceAdd, Nat.reduceBEq, Nat.reduceEqDiff, Nat.reduceLeDiff, Nat.reduceLT, Nat.reduceSub, ↓reduceIte, zA, zI, zN, reduceCtorEq, Int.reduceToNat, zE, e2, e3])⟩
  · obtain rfl : k = l.length := by omega
    have e1 := fillL_len (AV.agg [.int .i64 0, .int .i64 0, .str (bs []), .nils]) hk
    simp +contextual -dsimp only [↓SD, SU, SB, Nat.reduceAdd, Nat.reduceBEq, Nat.reduceEqDiff, Nat.reduceLeDiff, Nat.reduceLT, Nat.reduceSub, ↓reduceIte, zA, zI, zN, reduceCtorEq, Int.reduceToNat, zE, map_len, Nat.lt_irrefl, fillL_full, map_nop, List.take_length]
    try simp [List.take_of_length_le]

theorem eqPNodeS_ok (l : List PNode) (hx : Bulk.bulk l ≤ 1048576) : CallsF Try.prog 47 [.sl (l.map av), .sl (l.map av)] (.bool true) := by
  have hl := bulk_length l
  refine fun_laws_eqPNodeS rfl (by simp; exact lav_clean l) (AvPure.bool _) ?_
  simp +contextual -dsimp only [↓SD, SU, SB, Nat.reduceAdd, Nat.reduceBEq, Nat.reduceEqDiff, Nat.reduceLeDiff, Nat.reduceLT, Nat.reduceSub, ↓reduceIte, zA, zI, zN, reduceCtorEq, Int.reduceToNat, zE, ir_laws_eqPNodeS, rs_laws_eqPNodeS, map_len]
  refine aLoop_of (X := Nat) (fun k => ⟨[(0, .sl (l.map av)), (1, .sl (l.map av)), (5, .int .i64 k)], []⟩) (fun k => k ≤ l.length) (fun k => l.length - k) 0 (Nat.zero_le _) (by simp +contextual -dsimp only [↓SD, SU, SB, Nat.reduceAdd, Nat.reduceBEq, Nat.reduceEqDiff, Nat.reduceLeDiff, Nat.reduceLT, Nat.reduceSub, ↓reduceIte, zA, zI, zN, reduceCtorEq, Int.reduceToNat, zE]) trivial ?_
  intro k hk
  by_cases hlt : k < l.length
  · have e := getD_map av l k .top hlt
    have hbk : Bulk.bulk l[k] ≤ 1048576 := by have := bulk_mem (List.getElem_mem hlt); omega
    simp +contextual -dsimp only [↓SD, SU, SB, Nat.reduceAdd, Nat.reduceBEq, Nat.reduceEqDiff, Nat.reduceLeDiff, Nat.reduceLT, Nat.reduceSub, ↓reduceIte, zA, zI, zN, reduceCtorEq, Int.reduceToNat, zE, map_len, hlt, e, av_PNode]
    have C := eqPNode_ok l[k] hbk
    rw [av_PNode] at C
    refine aCallK_of _ C ?_
    simp +contextual -dsimp only [↓SD, SU, SB, Nat.reduceAdd, Nat.reduceBEq, Nat.reduceEqDiff, Nat.reduceLeDiff, Nat.reduceLT, Nat.reduceSub, ↓reduceIte, zA, zI, zN, reduceCtorEq, Int.reduceToNat, zE, map_len, hlt, e, av_PNode]
    exact ⟨by omega, Goes.le ⟨k + 1, ⟨hlt, (by first | omega | (simp only; omega))⟩, rfl⟩ (by simp +contextual -dsimp only [↓SD, SU, SB, Nat.reduceAdd, Nat.reduceBEq, Nat.reduceEqDiff, Nat.reduceLeDiff, Nat.reduceLT, Nat.reduceSub, ↓reduceIte, zA, zI, zN, reduceCtorEq, Int.reduceToNat, zE, Int.natCast_add]) trivial⟩
  · obtain rfl : k = l.length := by omega
    simp +contextual -dsimp only [↓SD, SU, SB, Nat.reduceAdd, Nat.reduceBEq, Nat.reduceEqDiff, Nat.reduceLeDiff, Nat.reduceLT, Nat.reduceSub, ↓reduceIte, zA, zI, zN, reduceCtorEq, Int.reduceToNat, zE, map_len, Nat.lt_irrefl]

theorem szPat_ok (x : Pat) (n : Int) (hx : Bulk.bulk x ≤ 1048576) (h1 : -1 ≤ n) (h2 : n ≤ 1048576) : SzOk 13 [av x, .int .i64 n] := by
  have hb : Bulk.bulk x.nodes + 1 ≤ 1048576 := hx
  refine funH_laws_szPat rfl ?_
  simp +contextual -dsimp only [↓SD, SU, SB, Nat.reduceAdd, Nat.reduceBEq, Nat.reduceEqDiff, Nat.reduceLeDiff, Nat.reduceLT, Nat.reduceSub, ↓reduceIte, zA, zI, zN, reduceCtorEq, Int.reduceToNat, zE, ir_laws_szPat, rs_laws_szPat, av_Pat]
  (repeat' (first | intro _ | refine And.intro ?_ ?_))
  all_goals first | omega | (refine Goes.post [] ?_; simp +contextual -dsimp only [↓SD, SU, SB, Nat.reduceAdd, Nat.reduceBEq, Nat.reduceEqDiff, Nat.reduceLeDiff, Nat.reduceLT, Nat.reduceSub, ↓reduceIte, zA, zI, zN, reduceCtorEq, Int.reduceToNat, zE, rs_laws_szPat]; exact ⟨_, rfl, rfl, by omega, by omega⟩) | (refine aCallH_of [] (szPNodeS_ok x.nodes _ (by omega)  (by omega) (by omega)) (by simp +contextual -dsimp only [↓SD, SU, SB, Nat.reduceAdd, Nat.reduceBEq, Nat.reduceEqDiff, Nat.reduceLeDiff, Nat.reduceLT, Nat.reduceSub, ↓reduceIte, zA, zI, zN, reduceCtorEq, Int.reduceToNat, zE]) ?_; rintro r hp' ⟨m, rfl, rfl, hm1, hm2⟩; simp +contextual -dsimp only [↓SD, SU, SB, Nat.reduceAdd, Nat.reduceBEq, Nat.reduceEqDiff, Nat.reduceLeDiff, Nat.reduceLT, Nat.reduceSub, ↓reduceIte, zA, zI, zN, reduceCtorEq, Int.reduceToNat, zE]; (repeat' (first | intro _ | refine And.intro ?_ ?_)))
  all_goals first | omega | (refine Goes.post [] ?_; simp +contextual -dsimp only [↓SD, SU, SB, Nat.reduceAdd, Nat.reduceBEq, Nat.reduceEqDiff, Nat.reduceLeDiff, Nat.reduceLT, Nat.reduceSub, ↓reduceIte, zA, zI, zN, reduceCtorEq, Int.reduceToNat, zE, rs_laws_szPat]; exact ⟨_, rfl, rfl, by omega, by omega⟩)

theorem toPat_ok (x : Pat) (hx : Bulk.bulk x ≤ 1048576) : CallsF Try.prog 17 [av x] (av x) := by
  have hb : Bulk.bulk x.nodes + 1 ≤ 1048576 := hx
  refine fun_laws_toPat rfl (by simp; exact AVal.clean x) (AVal.clean x) ?_
  simp +contextual -dsimp only [↓SD, SU, SB, Nat.reduceAdd, Nat.reduceBEq, Nat.reduceEqDiff, Nat.reduceLeDiff, Nat.reduceLT, Nat.reduceSub, ↓reduceIte, zA, zI, zN, reduceCtorEq, Int.reduceToNat, zE, ir_laws_toPat, rs_laws_toPat, av_Pat]
  (repeat' (first | intro _ | refine And.intro ?_ ?_))
  refine aCallK_of _ (toPNodeS_ok x.nodes (by omega)) ?_
  simp +contextual -dsimp only [↓SD, SU, SB, Nat.reduceAdd, Nat.reduceBEq, Nat.reduceEqDiff, Nat.reduceLeDiff, Nat.reduceLT, Nat.reduceSub, ↓reduceIte, zA, zI, zN, reduceCtorEq, Int.reduceToNat, zE]

theorem eqPat_ok (x : Pat) (hx : Bulk.bulk x ≤ 1048576) : CallsF Try.prog 25 [av x, av x] (.bool true) := by
  have hb : Bulk.bulk x.nodes + 1 ≤ 1048576 := hx
  refine fun_laws_eqPat rfl (by simp; exact AVal.clean x) (AvPure.bool _) ?_
  simp +contextual -dsimp only [↓SD, SU, SB, Nat.reduceAdd, Nat.reduceBEq, Nat.reduceEqDiff, Nat.reduceLeDiff, Nat.reduceLT, Nat.reduceSub, ↓reduceIte, zA, zI, zN, reduceCtorEq, Int.reduceToNat, zE, ir_laws_eqPat, rs_laws_eqPat, av_Pat, beq_self_eq_true]
  refine aCallK_of _ (eqPNodeS_ok x.nodes (by omega)) ?_
  simp +contextual -dsimp only [↓SD, SU, SB, Nat.reduceAdd, Nat.reduceBEq, Nat.reduceEqDiff, Nat.reduceLeDiff, Nat.reduceLT, Nat.reduceSub, ↓reduceIte, zA, zI, zN, reduceCtorEq, Int.reduceToNat, zE, beq_self_eq_true]

end Go.Proofs.Ytohalepkikjinaa


set_option linter.unusedVariables false
set_option linter.unusedSimpArgs false
set_option maxRecDepth 100000
namespace Go.Proofs.Ytohalepkikjinaa
open Go.RowKit Go.Proofs.Ytohalepkikjinaa.Av Go.Proofs.Ytohalepkikjinaa.Ml
open Go.Proofs.Ytohalepkikjinaa.Av.AVal (av)

theorem szPatS_ok (l : List Pat) (n : Int) (hx : Bulk.bulk l ≤ 1048576) (h1 : -1 ≤ n) (h2 : n ≤ 1048576) : SzOk 4 [.sl (l.map av), .int .i64 n] := by
  have hl := bulk_length l
  refine funH_laws_szPatS rfl ?_
  simp +contextual -dsimp only [↓SD, SU, SB, Nat.reduceAdd, Nat.reduceBEq, Nat.reduceEqDiff, Nat.reduceLeDiff, Nat.reduceLT, Nat.reduceSub, ↓reduceIte, zA, zI, zN, reduceCtorEq, Int.reduceToNat, zE, ir_laws_szPatS, rs_laws_szPatS, map_len]
  refine ⟨by omega, fun h => ?_, fun h => ?_⟩
  · refine Goes.post [] ?_; simp +contextual -dsimp only [↓SD, SU, SB, Nat.reduceAdd, Nat.reduceBEq, Nat.reduceEqDiff, Nat.reduceLeDiff, Nat.reduceLT, Nat.reduceSub, ↓reduceIte, zA, zI, zN, reduceCtorEq, Int.reduceToNat, zE, rs_laws_szPatS]; exact ⟨_, rfl, rfl, by omega, by omega⟩
  refine aLoop_of (X := Nat × Int) (fun x => ⟨[(0, .sl (l.map av)), (1, .int .i64 x.2), (5, .int .i64 x.1)], []⟩) (fun x => x.1 ≤ l.length ∧ 0 ≤ x.2 ∧ x.2 ≤ 1048576) (fun x => l.length - x.1) (0, n - l.length) ⟨Nat.zero_le _, by simp only; omega, by simp only; omega⟩ (by simp +contextual -dsimp only [↓SD, SU, SB, Nat.reduceAdd, Nat.reduceBEq, Nat.reduceEqDiff, Nat.reduceLeDiff, Nat.reduceLT, Nat.reduceSub, ↓reduceIte, zA, zI, zN, reduceCtorEq, Int.reduceToNat, zE]) trivial ?_
  rintro ⟨k, m⟩ ⟨hk, hm0, hm1⟩
  simp only at hk hm0 hm1
  by_cases hlt : k < l.length
  · have e := getD_map av l k .top hlt
    have hbk : Bulk.bulk l[k] ≤ 1048576 := by have := bulk_mem (List.getElem_mem hlt); omega
    simp +contextual -dsimp only [↓SD, SU, SB, Nat.reduceAdd, Nat.reduceBEq, Nat.reduceEqDiff, Nat.reduceLeDiff, Nat.reduceLT, Nat.reduceSub, ↓reduceIte, zA, zI, zN, reduceCtorEq, Int.reduceToNat, zE, map_len, hlt, e, av_Pat]
    refine aCallH_of [] (szPat_ok l[k] m hbk (by omega) hm1) (by simp +contextual -dsimp only [↓SD, SU, SB, Nat.reduceAdd, Nat.reduceBEq, Nat.reduceEqDiff, Nat.reduceLeDiff, Nat.reduceLT, Nat.reduceSub, ↓reduceIte, zA, zI, zN, reduceCtorEq, Int.reduceToNat, zE]) ?_
    rintro r hp' ⟨q, rfl, rfl, hq1, hq2⟩
    simp +contextual -dsimp only [↓SD, SU, SB, Nat.reduceAdd, Nat.reduceBEq, Nat.reduceEqDiff, Nat.reduceLeDiff, Nat.reduceLT, Nat.reduceSub, ↓reduceIte, zA, zI, zN, reduceCtorEq, Int.reduceToNat, zE]
    (repeat' (first | intro _ | refine And.intro ?_ ?_))
    all_goals first | omega | (refine Goes.post [] ?_; simp +contextual -dsimp only [↓SD, SU, SB, Nat.reduceAdd, Nat.reduceBEq, Nat.reduceEqDiff, Nat.reduceLeDiff, Nat.reduceLT, Nat.reduceSub, ↓reduceIte, zA, zI, zN, reduceCtorEq, Int.reduceToNat, zE, rs_laws_szPatS]; exact ⟨_, rfl, rfl, by omega, by omega⟩) | exact Goes.le ⟨(k + 1, q), ⟨⟨hlt, by simp only; omega, hq2⟩, (by first | omega | (simp only; omega))⟩, rfl⟩ (by simp +contextual -dsimp only [↓SD, SU, SB, Nat.reduceAdd, Nat.reduceBEq, Nat.reduceEqDiff, Nat.reduceLeDiff, Nat.reduceLT, Nat.reduceSub, ↓reduceIte, zA, zI, zN, reduceCtorEq, Int.reduceToNat, zE, Int.natCast_add]) trivial
  · obtain rfl : k = l.length := by omega
    simp +contextual -dsimp only [↓SD, SU, SB, Nat.reduceAdd, Nat.reduceBEq, Nat.reduceEqDiff, Nat.reduceLeDiff, Nat.reduceLT, Nat.reduceSub, ↓reduceIte, zA, zI, zN, reduceCtorEq, Int.reduceToNat, zE, map_len, Nat.lt_irrefl]
    refine Goes.post [] ?_
    simp +contextual -dsimp only [↓SD, SU, SB, Nat.reduceAdd, Nat.reduceBEq, Nat.reduceEqDiff, Nat.reduceLeDiff, Nat.reduceLT, Nat.reduceSub, ↓reduceIte, zA, zI, zN, reduceCtorEq, Int.reduceToNat, zE, rs_laws_szPatS]
    exact ⟨_, rfl, rfl, by omega, by omega⟩

theorem toPatS_ok (l : List Pat) (hx : Bulk.bulk l ≤ 1048576) : CallsF Try.prog 6 [.sl (l.map av)] (.sl (l.map av)) := by
  have hl := bulk_length l
  refine fun_laws_toPatS rfl (by simp; exact lav_clean l) (lav_clean l) ?_
  simp +contextual -dsimp only [↓SD, SU, SB, Nat.reduceAdd, Nat.reduceBEq, Nat.reduceEqDiff, Nat.reduceLeDiff, Nat.reduceLT, Nat.reduceSub, ↓reduceIte, zA, zI, zN, reduceCtorEq, Int.reduceToNat, zE, ir_laws_toPatS, rs_laws_toPatS, map_len]
  refine ⟨by omega, fun v => ?_⟩
  refine aLoop_of (X := Nat) (fun k => ⟨[(0, .sl (l.map av)), (3, .row 7 v l.length), (4, .int .i64 k)], [(7, ⟨v, false, 43, 1, fillL l (AV.agg [.nils]) k⟩)]⟩) (fun k => k ≤ l.length) (fun k => l.length - k) 0 (Nat.zero_le _) (by simp +contextual -dsimp only [↓SD, SU, SB, Nat.reduceAdd, Nat.reduceBEq, Nat.reduceEqDiff, Nat.reduceLeDiff, Nat.reduceLT, Nat.reduceSub, ↓reduceIte, zA, zI, zN, reduceCtorEq, Int.reduceToNat, zE]) (by simp +contextual -dsimp only [↓SD, SU, SB, Nat.reduceAdd, Nat.reduceBEq, Nat.reduceEqDiff, Nat.reduceLeDiff, Nat.reduceLT, Nat.reduceSub, ↓reduceIte, zA, zI, zN, reduceCtorEq, Int.reduceToNat, zE, fillL_zero]) ?_
  intro k hk
  by_cases hlt : k < l.length
  · have e := getD_map av l k .top hlt
    have e1 := fillL_len (AV.agg [.nils]) hk
    have e2 := fillL_get (AV.agg [.nils]) hlt .top
    have e3 := fillL_set (z := (AV.agg [.nils])) hlt rfl
    have hbk : Bulk.bulk l[k] ≤ 1048576 := by have := bulk_mem (List.getElem_mem hlt); omega
    rw [av_Pat] at e3
    simp +contextual -dsimp only [↓SD, SU, SB, Nat.reduceAdd, Nat.reduceBEq, Nat.reduceEqDiff, Nat.reduceLeDiff, Nat.reduceLT, Nat.reduceSub, ↓reduceIte, zA, zI, zN, reduceCtorEq, Int.reduceToNat, zE, map_len, hlt, e, av_Pat]
    have C := toPat_ok l[k] hbk
    rw [av_Pat] at C
    refine aCallK_of _ C ?_
    simp +contextual -dsimp only [↓SD, SU, SB, Nat.reduceAdd, Nat.reduceBEq, Nat.reduceEqDiff, Nat.reduceLeDiff, Nat.reduceLT, Nat.reduceSub, ↓reduceIte, zA, zI, zN, reduceCtorEq, Int.reduceToNat, zE, map_len, hlt, e, av_Pat, e1, e2, e3]
    refine ⟨by omega, Goes.le ⟨k + 1, ⟨hlt, (by first | omega | (simp only; omega))⟩, rfl⟩ (by simp +contextual -dsimp only [↓SD, SU, SB, Nat.reduceAdd, Nat.reduceBEq, Nat.reduceEqDiff, Nat.reduceLeDiff, Nat.reduceLT, Nat.reduceSub, ↓reduceIte, zA, zI, zN, reduceCtorEq, Int.reduceToNat, zE, Int.natCast_add]) (by simp +contextual -dsimp only [↓SD, SU, SB, Nat.reduceAdd, Nat.reduceBEq, Nat.reduceEqDiff, Nat.reduceLeDiff, Nat.reduceLT, Nat.reduceSub, ↓reduceIte, zA, zI, zN, reduceCtorEq, Int.reduceToNat, zE, e2, e3])⟩
  · obtain rfl : k = l.length := by omega
    have e1 := fillL_len (AV.agg [.nils]) hk
    simp +contextual -dsimp only [↓SD, SU, SB, Nat.reduceAdd, Nat.reduceBEq, Nat.reduceEqDiff, Nat.reduceLeDiff, Nat.reduceLT, Nat.reduceSub, ↓reduceIte, zA, zI, zN, reduceCtorEq, Int.reduceToNat, zE, map_len, Nat.lt_irrefl, fillL_full, map_nop, List.take_length]
    try simp [List.take_of_length_le]

theorem eqPatS_ok (l : List Pat) (hx : Bulk.bulk l ≤ 1048576) : CallsF Try.prog 9 [.sl (l.map av), .sl (l.map av)] (.bool true) := by
  have hl := bulk_length l
  refine fun_laws_eqPatS rfl (by simp; exact lav_clean l) (AvPure.bool _) ?_
  simp +contextual -dsimp only [↓SD, SU, SB, Nat.reduceAdd, Nat.reduceBEq, Nat.reduceEqDiff, Nat.reduceLeDiff, Nat.reduceLT, Nat.reduceSub, ↓reduceIte, zA, zI, zN, reduceCtorEq, Int.reduceToNat, zE, ir_laws_eqPatS, rs_laws_eqPatS, map_len]
  refine aLoop_of (X := Nat) (fun k => ⟨[(0, .sl (l.map av)), (1, .sl (l.map av)), (5, .int .i64 k)], []⟩) (fun k => k ≤ l.length) (fun k => l.length - k) 0 (Nat.zero_le _) (by simp +contextual -dsimp only [↓SD, SU, SB, Nat.reduceAdd, Nat.reduceBEq, Nat.reduceEqDiff, Nat.reduceLeDiff, Nat.reduceLT, Nat.reduceSub, ↓reduceIte, zA, zI, zN, reduceCtorEq, Int.reduceToNat, zE]) trivial ?_
  intro k hk
  by_cases hlt : k < l.length
  · have e := getD_map av l k .top hlt
    have hbk : Bulk.bulk l[k] ≤ 1048576 := by have := bulk_mem (List.getElem_mem hlt); omega
    simp +contextual -dsimp only [↓SD, SU, SB, Nat.reduceAdd, Nat.reduceBEq, Nat.reduceEqDiff, Nat.reduceLeDiff, Nat.reduceLT, Nat.reduceSub, ↓reduceIte, zA, zI, zN, reduceCtorEq, Int.reduceToNat, zE, map_len, hlt, e, av_Pat]
    have C := eqPat_ok l[k] hbk
    rw [av_Pat] at C
    refine aCallK_of _ C ?_
    simp +contextual -dsimp only [↓SD, SU, SB, Nat.reduceAdd, Nat.reduceBEq, Nat.reduceEqDiff, Nat.reduceLeDiff, Nat.reduceLT, Nat.reduceSub, ↓reduceIte, zA, zI, zN, reduceCtorEq, Int.reduceToNat, zE, map_len, hlt, e, av_Pat]
    exact ⟨by omega, Goes.le ⟨k + 1, ⟨hlt, (by first | omega | (simp only; omega))⟩, rfl⟩ (by simp +contextual -dsimp only [↓SD, SU, SB, Nat.reduceAdd, Nat.reduceBEq, Nat.reduceEqDiff, Nat.reduceLeDiff, Nat.reduceLT, Nat.reduceSub, ↓reduceIte, zA, zI, zN, reduceCtorEq, Int.reduceToNat, zE, Int.natCast_add]) trivial⟩
  · obtain rfl : k = l.length := by omega
    simp +contextual -dsimp only [↓SD, SU, SB, Nat.reduceAdd, Nat.reduceBEq, Nat.reduceEqDiff, Nat.reduceLeDiff, Nat.reduceLT, Nat.reduceSub, ↓reduceIte, zA, zI, zN, reduceCtorEq, Int.reduceToNat, zE, map_len, Nat.lt_irrefl]

end Go.Proofs.Ytohalepkikjinaa


set_option linter.unusedVariables false
set_option linter.unusedSimpArgs false
set_option maxRecDepth 100000
namespace Go.Proofs.Ytohalepkikjinaa
open Go.RowKit Go.Proofs.Ytohalepkikjinaa.Av Go.Proofs.Ytohalepkikjinaa.Ml
open Go.Proofs.Ytohalepkikjinaa.Av.AVal (av)

instance : AVal Ask := ⟨fun x => .agg [.int .i64 x.arm, .sl (x.path.map av), .int .i64 x.kind, .int .i64 x.n, .str x.s, .bool x.has, .int .i64 x.yes, .int .i64 x.no], 8, fun _ => rfl, fun _ => rfl, fun x y hy => by
  simp only [AV.cells, List.mem_cons, List.not_mem_nil, or_false] at hy
  rcases hy with rfl | rfl | rfl | rfl | rfl | rfl | rfl | rfl <;> first | exact AvPure.int _ _ | exact AvPure.str _ | exact AvPure.bool _ | exact lav_clean x.path, fun _ _ => rfl, fun x y hy => by
  simp only [AV.cells, List.mem_cons, List.not_mem_nil, or_false] at hy
  rcases hy with rfl | rfl | rfl | rfl | rfl | rfl | rfl | rfl <;> rfl⟩
theorem av_Ask (x : Ask) : av x = .agg [.int .i64 x.arm, .sl (x.path.map av), .int .i64 x.kind, .int .i64 x.n, .str x.s, .bool x.has, .int .i64 x.yes, .int .i64 x.no] := eqq rfl
instance : AvRep Ask := ⟨fun {S w cs y} h => by
  obtain ⟨v1, rfl, h0, h2, h3, h4, h6, h7, r1⟩ := h
  exact VRs.cons (.int _ _ h0.1 h0.2) (VRs.cons (repSl_vr r1) (VRs.cons (.int _ _ h2.1 h2.2) (VRs.cons (.int _ _ h3.1 h3.2) (VRs.cons (.str _ h4) (VRs.cons (.bool _) (VRs.cons (.int _ _ h6.1 h6.2) (VRs.cons (.int _ _ h7.1 h7.2) (VRs.nil))))))))⟩

instance : AVal Asks := ⟨fun x => .agg [.sl (x.nodes.map av)], 1, fun _ => rfl, fun _ => rfl, fun x y hy => by
  simp only [AV.cells, List.mem_cons, List.not_mem_nil, or_false] at hy
  subst hy; first | exact AvPure.int _ _ | exact AvPure.str _ | exact AvPure.bool _ | exact lav_clean x.nodes, fun _ _ => rfl, fun x y hy => by
  simp only [AV.cells, List.mem_cons, List.not_mem_nil, or_false] at hy
  subst hy; rfl⟩
theorem av_Asks (x : Asks) : av x = .agg [.sl (x.nodes.map av)] := eqq rfl
instance : AvRep Asks := ⟨fun {S w cs y} h => by
  obtain ⟨v0, rfl, r0⟩ := h
  exact VRs.cons (repSl_vr r0) (VRs.nil)⟩

theorem eqAsk_ok (x : Ask) (hx : Bulk.bulk x ≤ 1048576) : CallsF Try.prog 46 [av x, av x] (.bool true) := by
  have hb : Bulk.bulk x.arm + Bulk.bulk x.path + Bulk.bulk x.kind + Bulk.bulk x.n + Bulk.bulk x.s + Bulk.bulk x.has + Bulk.bulk x.yes + Bulk.bulk x.no + 1 ≤ 1048576 := hx
  refine fun_laws_eqAsk rfl (by simp; exact AVal.clean x) (AvPure.bool _) ?_
  simp +contextual -dsimp only [↓SD, SU, SB, Nat.reduceAdd, Nat.reduceBEq, Nat.reduceEqDiff, Nat.reduceLeDiff, Nat.reduceLT, Nat.reduceSub, ↓reduceIte, zA, zI, zN, reduceCtorEq, Int.reduceToNat, zE, ir_laws_eqAsk, rs_laws_eqAsk, av_Ask, beq_self_eq_true]
  refine aCallK_of _ (eqIntS_ok x.path (by omega)) ?_
  simp +contextual -dsimp only [↓SD, SU, SB, Nat.reduceAdd, Nat.reduceBEq, Nat.reduceEqDiff, Nat.reduceLeDiff, Nat.reduceLT, Nat.reduceSub, ↓reduceIte, zA, zI, zN, reduceCtorEq, Int.reduceToNat, zE, beq_self_eq_true]

theorem eqAskS_ok (l : List Ask) (hx : Bulk.bulk l ≤ 1048576) : CallsF Try.prog 24 [.sl (l.map av), .sl (l.map av)] (.bool true) := by
  have hl := bulk_length l
  refine fun_laws_eqAskS rfl (by simp; exact lav_clean l) (AvPure.bool _) ?_
  simp +contextual -dsimp only [↓SD, SU, SB, Nat.reduceAdd, Nat.reduceBEq, Nat.reduceEqDiff, Nat.reduceLeDiff, Nat.reduceLT, Nat.reduceSub, ↓reduceIte, zA, zI, zN, reduceCtorEq, Int.reduceToNat, zE, ir_laws_eqAskS, rs_laws_eqAskS, map_len]
  refine aLoop_of (X := Nat) (fun k => ⟨[(0, .sl (l.map av)), (1, .sl (l.map av)), (5, .int .i64 k)], []⟩) (fun k => k ≤ l.length) (fun k => l.length - k) 0 (Nat.zero_le _) (by simp +contextual -dsimp only [↓SD, SU, SB, Nat.reduceAdd, Nat.reduceBEq, Nat.reduceEqDiff, Nat.reduceLeDiff, Nat.reduceLT, Nat.reduceSub, ↓reduceIte, zA, zI, zN, reduceCtorEq, Int.reduceToNat, zE]) trivial ?_
  intro k hk
  by_cases hlt : k < l.length
  · have e := getD_map av l k .top hlt
    have hbk : Bulk.bulk l[k] ≤ 1048576 := by have := bulk_mem (List.getElem_mem hlt); omega
    simp +contextual -dsimp only [↓SD, SU, SB, Nat.reduceAdd, Nat.reduceBEq, Nat.reduceEqDiff, Nat.reduceLeDiff, Nat.reduceLT, Nat.reduceSub, ↓reduceIte, zA, zI, zN, reduceCtorEq, Int.reduceToNat, zE, map_len, hlt, e, av_Ask]
    have C := eqAsk_ok l[k] hbk
    rw [av_Ask] at C
    refine aCallK_of _ C ?_
    simp +contextual -dsimp only [↓SD, SU, SB, Nat.reduceAdd, Nat.reduceBEq, Nat.reduceEqDiff, Nat.reduceLeDiff, Nat.reduceLT, Nat.reduceSub, ↓reduceIte, zA, zI, zN, reduceCtorEq, Int.reduceToNat, zE, map_len, hlt, e, av_Ask]
    exact ⟨by omega, Goes.le ⟨k + 1, ⟨hlt, (by first | omega | (simp only; omega))⟩, rfl⟩ (by simp +contextual -dsimp only [↓SD, SU, SB, Nat.reduceAdd, Nat.reduceBEq, Nat.reduceEqDiff, Nat.reduceLeDiff, Nat.reduceLT, Nat.reduceSub, ↓reduceIte, zA, zI, zN, reduceCtorEq, Int.reduceToNat, zE, Int.natCast_add]) trivial⟩
  · obtain rfl : k = l.length := by omega
    simp +contextual -dsimp only [↓SD, SU, SB, Nat.reduceAdd, Nat.reduceBEq, Nat.reduceEqDiff, Nat.reduceLeDiff, Nat.reduceLT, Nat.reduceSub, ↓reduceIte, zA, zI, zN, reduceCtorEq, Int.reduceToNat, zE, map_len, Nat.lt_irrefl]

theorem eqAsks_ok (x : Asks) (hx : Bulk.bulk x ≤ 1048576) : CallsF Try.prog 8 [av x, av x] (.bool true) := by
  have hb : Bulk.bulk x.nodes + 1 ≤ 1048576 := hx
  refine fun_laws_eqAsks rfl (by simp; exact AVal.clean x) (AvPure.bool _) ?_
  simp +contextual -dsimp only [↓SD, SU, SB, Nat.reduceAdd, Nat.reduceBEq, Nat.reduceEqDiff, Nat.reduceLeDiff, Nat.reduceLT, Nat.reduceSub, ↓reduceIte, zA, zI, zN, reduceCtorEq, Int.reduceToNat, zE, ir_laws_eqAsks, rs_laws_eqAsks, av_Asks, beq_self_eq_true]
  refine aCallK_of _ (eqAskS_ok x.nodes (by omega)) ?_
  simp +contextual -dsimp only [↓SD, SU, SB, Nat.reduceAdd, Nat.reduceBEq, Nat.reduceEqDiff, Nat.reduceLeDiff, Nat.reduceLT, Nat.reduceSub, ↓reduceIte, zA, zI, zN, reduceCtorEq, Int.reduceToNat, zE, beq_self_eq_true]

end Go.Proofs.Ytohalepkikjinaa
