/-
 THE GROUND OF DATA, in one text. Conditions: none.
-/
import Derived.Test.YtjifpdcflankpaaGreatRPackA
import Derived.Test.YtjifpdcflankpaaGreatRIrA

set_option linter.unusedVariables false
set_option linter.unusedSimpArgs false
set_option maxRecDepth 100000
namespace Go.Proofs.YtjifpdcflankpaaGreat
open Go.RowKit Go.Proofs.YtjifpdcflankpaaGreat.Av Go.Proofs.YtjifpdcflankpaaGreat.Ml
open Go.Proofs.YtjifpdcflankpaaGreat.Av.AVal (av)

theorem szIntS_ok (l : List Int) (n : Int) (hx : Bulk.bulk l ≤ 4294967296) (h1 : -1 ≤ n) (h2 : n ≤ 4294967296) : SzOk 102 [.sl (l.map av), .int .i64 n] := by
 have hl := bulk_length l
 refine ir_laws_szIntS.H rfl ?_
 simp +contextual -dsimp only [↓SD, SU, SB, simprocAttr, ir_laws_szIntS, map_len]
 (repeat' (first | intro _ | refine And.intro ?_ ?_))
 all_goals first | omega | (refine Goes.post [] ?_; simp +contextual -dsimp only [↓SD, SU, SB, simprocAttr, ir_laws_szIntS]; exact ⟨_, rfl, rfl, by omega, by omega⟩)

theorem toIntS_ok (l : List Int) (hx : Bulk.bulk l ≤ 4294967296) : CallsF Tryz.prog 113 [.sl (l.map av)] (.sl (l.map av)) := by
 have hl := bulk_length l
 refine ir_laws_toIntS.F rfl (by simp; exact lav_clean l) (lav_clean l) ?_
 simp +contextual -dsimp only [↓SD, SU, SB, simprocAttr, ir_laws_toIntS, map_len]
 refine ⟨by omega, fun v => ?_⟩
 refine aLoop_of (X := Nat) (fun k => ⟨[(0, .sl (l.map av)), (3, .row 7 v l.length), (4, .int .i64 k)], [(7, ⟨v, false, 3, 1, fillL l (AV.int .i64 0) k⟩)]⟩) (fun k => k ≤ l.length) (fun k => l.length - k) 0 (Nat.zero_le _) (by simp +contextual -dsimp only [↓SD, SU, SB, simprocAttr]) (by simp +contextual -dsimp only [↓SD, SU, SB, simprocAttr, fillL_zero]) ?_
 intro k hk
 by_cases hlt : k < l.length
 ·have e := getD_map av l k .top hlt
  have e1 := fillL_len (AV.int .i64 0) hk
  have e2 := fillL_get (AV.int .i64 0) hlt .top
  have e3 := fillL_set (z := (AV.int .i64 0)) hlt rfl
  have hbk : Bulk.bulk l[k] ≤ 4294967296 := by have := bulk_mem (List.getElem_mem hlt); omega
  rw [av_int] at e3
  simp +contextual -dsimp only [↓SD, SU, SB, simprocAttr, map_len, hlt, e, av_int, e1, e2, e3]
  refine ⟨by omega, aRound (k + 1) hlt (by first | omega | (simp only; omega)) (by simp +contextual -dsimp only [↓SD, SU, SB, simprocAttr, Int.natCast_add]) (by simp +contextual -dsimp only [↓SD, SU, SB, simprocAttr])⟩
 ·obtain rfl : k = l.length := by omega
  have e1 := fillL_len (AV.int .i64 0) hk
  simp +contextual -dsimp only [↓SD, SU, SB, simprocAttr, map_len, Nat.lt_irrefl, fillL_full, map_nop, List.take_length]
  try simp [List.take_of_length_le]

theorem eqIntS_ok (l : List Int) (hx : Bulk.bulk l ≤ 4294967296) : CallsF Tryz.prog 134 [.sl (l.map av), .sl (l.map av)] (.bool true) := by
 have hl := bulk_length l
 refine ir_laws_eqIntS.F rfl (by simp; exact lav_clean l) (AvPure.bool _) ?_
 simp +contextual -dsimp only [↓SD, SU, SB, simprocAttr, ir_laws_eqIntS, map_len]
 refine aLoop_of (X := Nat) (fun k => ⟨[(0, .sl (l.map av)), (1, .sl (l.map av)), (5, .int .i64 k)], []⟩) (fun k => k ≤ l.length) (fun k => l.length - k) 0 (Nat.zero_le _) (by simp +contextual -dsimp only [↓SD, SU, SB, simprocAttr]) trivial ?_
 intro k hk
 by_cases hlt : k < l.length
 ·have e := getD_map av l k .top hlt
  have hbk : Bulk.bulk l[k] ≤ 4294967296 := by have := bulk_mem (List.getElem_mem hlt); omega
  simp +contextual -dsimp only [↓SD, SU, SB, simprocAttr, map_len, hlt, e, av_int]
  exact ⟨by omega, aRound (k + 1) hlt (by first | omega | (simp only; omega)) (by simp +contextual -dsimp only [↓SD, SU, SB, simprocAttr, Int.natCast_add]) trivial⟩
 ·obtain rfl : k = l.length := by omega
  simp +contextual -dsimp only [↓SD, SU, SB, simprocAttr, map_len, Nat.lt_irrefl]

end Go.Proofs.YtjifpdcflankpaaGreat

namespace Go.Proofs.YtjifpdcflankpaaGreat
open Go.RowKit Go.Proofs.YtjifpdcflankpaaGreat.Av Go.Proofs.YtjifpdcflankpaaGreat.Ml
open Go.Proofs.YtjifpdcflankpaaGreat.Av.AVal (av)

instance : AVal TyItem := ⟨fun x => .agg [.int .i64 x.var, .str x.name, .int .i64 x.arity], 3, fun _ => rfl, fun _ => rfl, fun x y hy => by
 simp only [AV.cells, List.mem_cons, List.not_mem_nil, or_false] at hy
 rcases hy with rfl | rfl | rfl <;> first | exact AvPure.int _ _ | exact AvPure.str _ | exact AvPure.bool _, fun _ _ => rfl, fun x y hy => by
 simp only [AV.cells, List.mem_cons, List.not_mem_nil, or_false] at hy
 rcases hy with rfl | rfl | rfl <;> rfl⟩
theorem av_TyItem (x : TyItem) : av x = .agg [.int .i64 x.var, .str x.name, .int .i64 x.arity] := eqq rfl
instance : AvRep TyItem := ⟨fun {S w cs y} h => by
 obtain ⟨rfl, h0, h1, h2⟩ := h
 exact VRs.cons (.int _ _ h0.1 h0.2) (VRs.cons (.str _ h1) (VRs.cons (.int _ _ h2.1 h2.2) (VRs.nil)))⟩

instance : AVal Ty := ⟨fun x => .agg [.sl (x.items.map av)], 1, fun _ => rfl, fun _ => rfl, fun x y hy => by
 simp only [AV.cells, List.mem_cons, List.not_mem_nil, or_false] at hy
 subst hy; first | exact AvPure.int _ _ | exact AvPure.str _ | exact AvPure.bool _ | exact lav_clean x.items, fun _ _ => rfl, fun x y hy => by
 simp only [AV.cells, List.mem_cons, List.not_mem_nil, or_false] at hy
 subst hy; rfl⟩
theorem av_Ty (x : Ty) : av x = .agg [.sl (x.items.map av)] := eqq rfl
instance : AvRep Ty := ⟨fun {S w cs y} h => by
 obtain ⟨v0, rfl, r0⟩ := h
 exact VRs.cons (repSl_vr r0) (VRs.nil)⟩

theorem szTyItem_ok (x : TyItem) (n : Int) (hx : Bulk.bulk x ≤ 4294967296) (h1 : -1 ≤ n) (h2 : n ≤ 4294967296) : SzOk 195 [av x, .int .i64 n] := by
 have hb : Bulk.bulk x.var + Bulk.bulk x.name + Bulk.bulk x.arity + 1 ≤ 4294967296 := hx
 have e1 : Bulk.bulk x.name = x.name.size + 1 := rfl
 refine ir_laws_szTyItem.H rfl ?_
 simp +contextual -dsimp only [↓SD, SU, SB, simprocAttr, ir_laws_szTyItem, av_TyItem]
 (repeat' (first | intro _ | refine And.intro ?_ ?_))
 all_goals first | omega | (refine Goes.post [] ?_; simp +contextual -dsimp only [↓SD, SU, SB, simprocAttr, ir_laws_szTyItem]; exact ⟨_, rfl, rfl, by omega, by omega⟩)

theorem toTyItem_ok (x : TyItem) (hx : Bulk.bulk x ≤ 4294967296) : CallsF Tryz.prog 196 [av x] (av x) := by
 have hb : Bulk.bulk x.var + Bulk.bulk x.name + Bulk.bulk x.arity + 1 ≤ 4294967296 := hx
 refine ir_laws_toTyItem.F rfl (by simp; exact AVal.clean x) (AVal.clean x) ?_
 simp +contextual -dsimp only [↓SD, SU, SB, simprocAttr, ir_laws_toTyItem, av_TyItem]

theorem eqTyItem_ok (x : TyItem) (hx : Bulk.bulk x ≤ 4294967296) : CallsF Tryz.prog 197 [av x, av x] (.bool true) := by
 have hb : Bulk.bulk x.var + Bulk.bulk x.name + Bulk.bulk x.arity + 1 ≤ 4294967296 := hx
 refine ir_laws_eqTyItem.F rfl (by simp; exact AVal.clean x) (AvPure.bool _) ?_
 simp +contextual -dsimp only [↓SD, SU, SB, simprocAttr, ir_laws_eqTyItem, av_TyItem, beq_self_eq_true]

theorem szTyItemS_ok (l : List TyItem) (n : Int) (hx : Bulk.bulk l ≤ 4294967296) (h1 : -1 ≤ n) (h2 : n ≤ 4294967296) : SzOk 188 [.sl (l.map av), .int .i64 n] := by
 have hl := bulk_length l
 refine ir_laws_szTyItemS.H rfl ?_
 simp +contextual -dsimp only [↓SD, SU, SB, simprocAttr, ir_laws_szTyItemS, map_len]
 refine ⟨by omega, fun h => ?_, fun h => ?_⟩
 ·refine Goes.post [] ?_; simp +contextual -dsimp only [↓SD, SU, SB, simprocAttr, ir_laws_szTyItemS]; exact ⟨_, rfl, rfl, by omega, by omega⟩
 refine aLoop_of (X := Nat × Int) (fun x => ⟨[(0, .sl (l.map av)), (1, .int .i64 x.2), (5, .int .i64 x.1)], []⟩) (fun x => x.1 ≤ l.length ∧ 0 ≤ x.2 ∧ x.2 ≤ 4294967296) (fun x => l.length - x.1) (0, n - l.length) ⟨Nat.zero_le _, by simp only; omega, by simp only; omega⟩ (by simp +contextual -dsimp only [↓SD, SU, SB, simprocAttr]) trivial ?_
 rintro ⟨k, m⟩ ⟨hk, hm0, hm1⟩
 simp only at hk hm0 hm1
 by_cases hlt : k < l.length
 ·have e := getD_map av l k .top hlt
  have hbk : Bulk.bulk l[k] ≤ 4294967296 := by have := bulk_mem (List.getElem_mem hlt); omega
  simp +contextual -dsimp only [↓SD, SU, SB, simprocAttr, map_len, hlt, e, av_TyItem]
  refine aCallH_of [] (szTyItem_ok l[k] m hbk (by omega) hm1) (by simp +contextual -dsimp only [↓SD, SU, SB, simprocAttr]) ?_
  rintro r hp' ⟨q, rfl, rfl, hq1, hq2⟩
  simp +contextual -dsimp only [↓SD, SU, SB, simprocAttr]
  (repeat' (first | intro _ | refine And.intro ?_ ?_))
  all_goals first | omega | (refine Goes.post [] ?_; simp +contextual -dsimp only [↓SD, SU, SB, simprocAttr, ir_laws_szTyItemS]; exact ⟨_, rfl, rfl, by omega, by omega⟩) | exact Goes.le ⟨(k + 1, q), ⟨⟨hlt, by simp only; omega, hq2⟩, (by first | omega | (simp only; omega))⟩, rfl⟩ (by simp +contextual -dsimp only [↓SD, SU, SB, simprocAttr, Int.natCast_add]) trivial
 ·obtain rfl : k = l.length := by omega
  simp +contextual -dsimp only [↓SD, SU, SB, simprocAttr, map_len, Nat.lt_irrefl]
  refine Goes.post [] ?_
  simp +contextual -dsimp only [↓SD, SU, SB, simprocAttr, ir_laws_szTyItemS]
  exact ⟨_, rfl, rfl, by omega, by omega⟩

theorem toTyItemS_ok (l : List TyItem) (hx : Bulk.bulk l ≤ 4294967296) : CallsF Tryz.prog 190 [.sl (l.map av)] (.sl (l.map av)) := by
 have hl := bulk_length l
 refine ir_laws_toTyItemS.F rfl (by simp; exact lav_clean l) (lav_clean l) ?_
 simp +contextual -dsimp only [↓SD, SU, SB, simprocAttr, ir_laws_toTyItemS, map_len]
 refine ⟨by omega, fun v => ?_⟩
 refine aLoop_of (X := Nat) (fun k => ⟨[(0, .sl (l.map av)), (3, .row 7 v l.length), (4, .int .i64 k)], [(7, ⟨v, false, 128, 3, fillL l (AV.agg [.int .i64 0, .str (bs []), .int .i64 0]) k⟩)]⟩) (fun k => k ≤ l.length) (fun k => l.length - k) 0 (Nat.zero_le _) (by simp +contextual -dsimp only [↓SD, SU, SB, simprocAttr]) (by simp +contextual -dsimp only [↓SD, SU, SB, simprocAttr, fillL_zero]) ?_
 intro k hk
 by_cases hlt : k < l.length
 ·have e := getD_map av l k .top hlt
  have e1 := fillL_len (AV.agg [.int .i64 0, .str (bs []), .int .i64 0]) hk
  have e2 := fillL_get (AV.agg [.int .i64 0, .str (bs []), .int .i64 0]) hlt .top
  have e3 := fillL_set (z := (AV.agg [.int .i64 0, .str (bs []), .int .i64 0])) hlt rfl
  have hbk : Bulk.bulk l[k] ≤ 4294967296 := by have := bulk_mem (List.getElem_mem hlt); omega
  rw [av_TyItem] at e3
  simp +contextual -dsimp only [↓SD, SU, SB, simprocAttr, map_len, hlt, e, av_TyItem]
  have C := toTyItem_ok l[k] hbk
  rw [av_TyItem] at C
  refine aCallK_of _ C ?_
  simp +contextual -dsimp only [↓SD, SU, SB, simprocAttr, map_len, hlt, e, av_TyItem, e1, e2, e3]
  refine ⟨by omega, Goes.le ⟨k + 1, ⟨hlt, (by first | omega | (simp only; omega))⟩, rfl⟩ (by simp +contextual -dsimp only [↓SD, SU, SB, simprocAttr, Int.natCast_add]) (by simp +contextual -dsimp only [↓SD, SU, SB, simprocAttr, e2, e3])⟩
 ·obtain rfl : k = l.length := by omega
  have e1 := fillL_len (AV.agg [.int .i64 0, .str (bs []), .int .i64 0]) hk
  simp +contextual -dsimp only [↓SD, SU, SB, simprocAttr, map_len, Nat.lt_irrefl, fillL_full, map_nop, List.take_length]
  try simp [List.take_of_length_le]

theorem eqTyItemS_ok (l : List TyItem) (hx : Bulk.bulk l ≤ 4294967296) : CallsF Tryz.prog 193 [.sl (l.map av), .sl (l.map av)] (.bool true) := by
 have hl := bulk_length l
 refine ir_laws_eqTyItemS.F rfl (by simp; exact lav_clean l) (AvPure.bool _) ?_
 simp +contextual -dsimp only [↓SD, SU, SB, simprocAttr, ir_laws_eqTyItemS, map_len]
 refine aLoop_of (X := Nat) (fun k => ⟨[(0, .sl (l.map av)), (1, .sl (l.map av)), (5, .int .i64 k)], []⟩) (fun k => k ≤ l.length) (fun k => l.length - k) 0 (Nat.zero_le _) (by simp +contextual -dsimp only [↓SD, SU, SB, simprocAttr]) trivial ?_
 intro k hk
 by_cases hlt : k < l.length
 ·have e := getD_map av l k .top hlt
  have hbk : Bulk.bulk l[k] ≤ 4294967296 := by have := bulk_mem (List.getElem_mem hlt); omega
  simp +contextual -dsimp only [↓SD, SU, SB, simprocAttr, map_len, hlt, e, av_TyItem]
  have C := eqTyItem_ok l[k] hbk
  rw [av_TyItem] at C
  refine aCallK_of _ C ?_
  simp +contextual -dsimp only [↓SD, SU, SB, simprocAttr, map_len, hlt, e, av_TyItem]
  exact ⟨by omega, Goes.le ⟨k + 1, ⟨hlt, (by first | omega | (simp only; omega))⟩, rfl⟩ (by simp +contextual -dsimp only [↓SD, SU, SB, simprocAttr, Int.natCast_add]) trivial⟩
 ·obtain rfl : k = l.length := by omega
  simp +contextual -dsimp only [↓SD, SU, SB, simprocAttr, map_len, Nat.lt_irrefl]

theorem szTy_ok (x : Ty) (n : Int) (hx : Bulk.bulk x ≤ 4294967296) (h1 : -1 ≤ n) (h2 : n ≤ 4294967296) : SzOk 176 [av x, .int .i64 n] := by
 have hb : Bulk.bulk x.items + 1 ≤ 4294967296 := hx
 refine ir_laws_szTy.H rfl ?_
 simp +contextual -dsimp only [↓SD, SU, SB, simprocAttr, ir_laws_szTy, av_Ty]
 (repeat' (first | intro _ | refine And.intro ?_ ?_))
 all_goals first | omega | (refine Goes.post [] ?_; simp +contextual -dsimp only [↓SD, SU, SB, simprocAttr, ir_laws_szTy]; exact ⟨_, rfl, rfl, by omega, by omega⟩) | (refine aCallH_of [] (szTyItemS_ok x.items _ (by omega)  (by omega) (by omega)) (by simp +contextual -dsimp only [↓SD, SU, SB, simprocAttr]) ?_; rintro r hp' ⟨m, rfl, rfl, hm1, hm2⟩; simp +contextual -dsimp only [↓SD, SU, SB, simprocAttr]; (repeat' (first | intro _ | refine And.intro ?_ ?_)))
 all_goals first | omega | (refine Goes.post [] ?_; simp +contextual -dsimp only [↓SD, SU, SB, simprocAttr, ir_laws_szTy]; exact ⟨_, rfl, rfl, by omega, by omega⟩)

theorem toTy_ok (x : Ty) (hx : Bulk.bulk x ≤ 4294967296) : CallsF Tryz.prog 178 [av x] (av x) := by
 have hb : Bulk.bulk x.items + 1 ≤ 4294967296 := hx
 refine ir_laws_toTy.F rfl (by simp; exact AVal.clean x) (AVal.clean x) ?_
 simp +contextual -dsimp only [↓SD, SU, SB, simprocAttr, ir_laws_toTy, av_Ty]
 (repeat' (first | intro _ | refine And.intro ?_ ?_))
 refine aCallK_of _ (toTyItemS_ok x.items (by omega)) ?_
 simp +contextual -dsimp only [↓SD, SU, SB, simprocAttr]

theorem eqTy_ok (x : Ty) (hx : Bulk.bulk x ≤ 4294967296) : CallsF Tryz.prog 183 [av x, av x] (.bool true) := by
 have hb : Bulk.bulk x.items + 1 ≤ 4294967296 := hx
 refine ir_laws_eqTy.F rfl (by simp; exact AVal.clean x) (AvPure.bool _) ?_
 simp +contextual -dsimp only [↓SD, SU, SB, simprocAttr, ir_laws_eqTy, av_Ty, beq_self_eq_true]
 refine aCallK_of _ (eqTyItemS_ok x.items (by omega)) ?_
 simp +contextual -dsimp only [↓SD, SU, SB, simprocAttr, beq_self_eq_true]

end Go.Proofs.YtjifpdcflankpaaGreat

namespace Go.Proofs.YtjifpdcflankpaaGreat
open Go.RowKit Go.Proofs.YtjifpdcflankpaaGreat.Av Go.Proofs.YtjifpdcflankpaaGreat.Ml
open Go.Proofs.YtjifpdcflankpaaGreat.Av.AVal (av)

instance : AVal PNode := ⟨fun x => .agg [.int .i64 x.kind, .int .i64 x.n, .str x.s, .sl (x.kids.map av)], 4, fun _ => rfl, fun _ => rfl, fun x y hy => by
 simp only [AV.cells, List.mem_cons, List.not_mem_nil, or_false] at hy
 rcases hy with rfl | rfl | rfl | rfl <;> first | exact AvPure.int _ _ | exact AvPure.str _ | exact AvPure.bool _ | exact lav_clean x.kids, fun _ _ => rfl, fun x y hy => by
 simp only [AV.cells, List.mem_cons, List.not_mem_nil, or_false] at hy
 rcases hy with rfl | rfl | rfl | rfl <;> rfl⟩
theorem av_PNode (x : PNode) : av x = .agg [.int .i64 x.kind, .int .i64 x.n, .str x.s, .sl (x.kids.map av)] := eqq rfl
instance : AvRep PNode := ⟨fun {S w cs y} h => by
 obtain ⟨v3, rfl, h0, h1, h2, r3⟩ := h
 exact VRs.cons (.int _ _ h0.1 h0.2) (VRs.cons (.int _ _ h1.1 h1.2) (VRs.cons (.str _ h2) (VRs.cons (repSl_vr r3) (VRs.nil))))⟩

instance : AVal Pat := ⟨fun x => .agg [.sl (x.nodes.map av)], 1, fun _ => rfl, fun _ => rfl, fun x y hy => by
 simp only [AV.cells, List.mem_cons, List.not_mem_nil, or_false] at hy
 subst hy; first | exact AvPure.int _ _ | exact AvPure.str _ | exact AvPure.bool _ | exact lav_clean x.nodes, fun _ _ => rfl, fun x y hy => by
 simp only [AV.cells, List.mem_cons, List.not_mem_nil, or_false] at hy
 subst hy; rfl⟩
theorem av_Pat (x : Pat) : av x = .agg [.sl (x.nodes.map av)] := eqq rfl
instance : AvRep Pat := ⟨fun {S w cs y} h => by
 obtain ⟨v0, rfl, r0⟩ := h
 exact VRs.cons (repSl_vr r0) (VRs.nil)⟩

theorem szPNode_ok (x : PNode) (n : Int) (hx : Bulk.bulk x ≤ 4294967296) (h1 : -1 ≤ n) (h2 : n ≤ 4294967296) : SzOk 189 [av x, .int .i64 n] := by
 have hb : Bulk.bulk x.kind + Bulk.bulk x.n + Bulk.bulk x.s + Bulk.bulk x.kids + 1 ≤ 4294967296 := hx
 have e2 : Bulk.bulk x.s = x.s.size + 1 := rfl
 refine ir_laws_szPNode.H rfl ?_
 simp +contextual -dsimp only [↓SD, SU, SB, simprocAttr, ir_laws_szPNode, av_PNode]
 (repeat' (first | intro _ | refine And.intro ?_ ?_))
 all_goals first | omega | (refine Goes.post [] ?_; simp +contextual -dsimp only [↓SD, SU, SB, simprocAttr, ir_laws_szPNode]; exact ⟨_, rfl, rfl, by omega, by omega⟩) | (refine aCallH_of [] (szIntS_ok x.kids _ (by omega)  (by omega) (by omega)) (by simp +contextual -dsimp only [↓SD, SU, SB, simprocAttr]) ?_; rintro r hp' ⟨m, rfl, rfl, hm1, hm2⟩; simp +contextual -dsimp only [↓SD, SU, SB, simprocAttr]; (repeat' (first | intro _ | refine And.intro ?_ ?_)))
 all_goals first | omega | (refine Goes.post [] ?_; simp +contextual -dsimp only [↓SD, SU, SB, simprocAttr, ir_laws_szPNode]; exact ⟨_, rfl, rfl, by omega, by omega⟩)

theorem toPNode_ok (x : PNode) (hx : Bulk.bulk x ≤ 4294967296) : CallsF Tryz.prog 191 [av x] (av x) := by
 have hb : Bulk.bulk x.kind + Bulk.bulk x.n + Bulk.bulk x.s + Bulk.bulk x.kids + 1 ≤ 4294967296 := hx
 refine ir_laws_toPNode.F rfl (by simp; exact AVal.clean x) (AVal.clean x) ?_
 simp +contextual -dsimp only [↓SD, SU, SB, simprocAttr, ir_laws_toPNode, av_PNode]
 (repeat' (first | intro _ | refine And.intro ?_ ?_))
 refine aCallK_of _ (toIntS_ok x.kids (by omega)) ?_
 simp +contextual -dsimp only [↓SD, SU, SB, simprocAttr]

theorem eqPNode_ok (x : PNode) (hx : Bulk.bulk x ≤ 4294967296) : CallsF Tryz.prog 194 [av x, av x] (.bool true) := by
 have hb : Bulk.bulk x.kind + Bulk.bulk x.n + Bulk.bulk x.s + Bulk.bulk x.kids + 1 ≤ 4294967296 := hx
 refine ir_laws_eqPNode.F rfl (by simp; exact AVal.clean x) (AvPure.bool _) ?_
 simp +contextual -dsimp only [↓SD, SU, SB, simprocAttr, ir_laws_eqPNode, av_PNode, beq_self_eq_true]
 refine aCallK_of _ (eqIntS_ok x.kids (by omega)) ?_
 simp +contextual -dsimp only [↓SD, SU, SB, simprocAttr, beq_self_eq_true]

theorem szPNodeS_ok (l : List PNode) (n : Int) (hx : Bulk.bulk l ≤ 4294967296) (h1 : -1 ≤ n) (h2 : n ≤ 4294967296) : SzOk 177 [.sl (l.map av), .int .i64 n] := by
 have hl := bulk_length l
 refine ir_laws_szPNodeS.H rfl ?_
 simp +contextual -dsimp only [↓SD, SU, SB, simprocAttr, ir_laws_szPNodeS, map_len]
 refine ⟨by omega, fun h => ?_, fun h => ?_⟩
 ·refine Goes.post [] ?_; simp +contextual -dsimp only [↓SD, SU, SB, simprocAttr, ir_laws_szPNodeS]; exact ⟨_, rfl, rfl, by omega, by omega⟩
 refine aLoop_of (X := Nat × Int) (fun x => ⟨[(0, .sl (l.map av)), (1, .int .i64 x.2), (5, .int .i64 x.1)], []⟩) (fun x => x.1 ≤ l.length ∧ 0 ≤ x.2 ∧ x.2 ≤ 4294967296) (fun x => l.length - x.1) (0, n - l.length) ⟨Nat.zero_le _, by simp only; omega, by simp only; omega⟩ (by simp +contextual -dsimp only [↓SD, SU, SB, simprocAttr]) trivial ?_
 rintro ⟨k, m⟩ ⟨hk, hm0, hm1⟩
 simp only at hk hm0 hm1
 by_cases hlt : k < l.length
 ·have e := getD_map av l k .top hlt
  have hbk : Bulk.bulk l[k] ≤ 4294967296 := by have := bulk_mem (List.getElem_mem hlt); omega
  simp +contextual -dsimp only [↓SD, SU, SB, simprocAttr, map_len, hlt, e, av_PNode]
  refine aCallH_of [] (szPNode_ok l[k] m hbk (by omega) hm1) (by simp +contextual -dsimp only [↓SD, SU, SB, simprocAttr]) ?_
  rintro r hp' ⟨q, rfl, rfl, hq1, hq2⟩
  simp +contextual -dsimp only [↓SD, SU, SB, simprocAttr]
  (repeat' (first | intro _ | refine And.intro ?_ ?_))
  all_goals first | omega | (refine Goes.post [] ?_; simp +contextual -dsimp only [↓SD, SU, SB, simprocAttr, ir_laws_szPNodeS]; exact ⟨_, rfl, rfl, by omega, by omega⟩) | exact Goes.le ⟨(k + 1, q), ⟨⟨hlt, by simp only; omega, hq2⟩, (by first | omega | (simp only; omega))⟩, rfl⟩ (by simp +contextual -dsimp only [↓SD, SU, SB, simprocAttr, Int.natCast_add]) trivial
 ·obtain rfl : k = l.length := by omega
  simp +contextual -dsimp only [↓SD, SU, SB, simprocAttr, map_len, Nat.lt_irrefl]
  refine Goes.post [] ?_
  simp +contextual -dsimp only [↓SD, SU, SB, simprocAttr, ir_laws_szPNodeS]
  exact ⟨_, rfl, rfl, by omega, by omega⟩

theorem toPNodeS_ok (l : List PNode) (hx : Bulk.bulk l ≤ 4294967296) : CallsF Tryz.prog 179 [.sl (l.map av)] (.sl (l.map av)) := by
 have hl := bulk_length l
 refine ir_laws_toPNodeS.F rfl (by simp; exact lav_clean l) (lav_clean l) ?_
 simp +contextual -dsimp only [↓SD, SU, SB, simprocAttr, ir_laws_toPNodeS, map_len]
 refine ⟨by omega, fun v => ?_⟩
 refine aLoop_of (X := Nat) (fun k => ⟨[(0, .sl (l.map av)), (3, .row 7 v l.length), (4, .int .i64 k)], [(7, ⟨v, false, 94, 4, fillL l (AV.agg [.int .i64 0, .int .i64 0, .str (bs []), .nils]) k⟩)]⟩) (fun k => k ≤ l.length) (fun k => l.length - k) 0 (Nat.zero_le _) (by simp +contextual -dsimp only [↓SD, SU, SB, simprocAttr]) (by simp +contextual -dsimp only [↓SD, SU, SB, simprocAttr, fillL_zero]) ?_
 intro k hk
 by_cases hlt : k < l.length
 ·have e := getD_map av l k .top hlt
  have e1 := fillL_len (AV.agg [.int .i64 0, .int .i64 0, .str (bs []), .nils]) hk
  have e2 := fillL_get (AV.agg [.int .i64 0, .int .i64 0, .str (bs []), .nils]) hlt .top
  have e3 := fillL_set (z := (AV.agg [.int .i64 0, .int .i64 0, .str (bs []), .nils])) hlt rfl
  have hbk : Bulk.bulk l[k] ≤ 4294967296 := by have := bulk_mem (List.getElem_mem hlt); omega
  rw [av_PNode] at e3
  simp +contextual -dsimp only [↓SD, SU, SB, simprocAttr, map_len, hlt, e, av_PNode]
  have C := toPNode_ok l[k] hbk
  rw [av_PNode] at C
  refine aCallK_of _ C ?_
  simp +contextual -dsimp only [↓SD, SU, SB, simprocAttr, map_len, hlt, e, av_PNode, e1, e2, e3]
  refine ⟨by omega, Goes.le ⟨k + 1, ⟨hlt, (by first | omega | (simp only; omega))⟩, rfl⟩ (by simp +contextual -dsimp only [↓SD, SU, SB, simprocAttr, Int.natCast_add]) (by simp +contextual -dsimp only [↓SD, SU, SB, simprocAttr, e2, e3])⟩
 ·obtain rfl : k = l.length := by omega
  have e1 := fillL_len (AV.agg [.int .i64 0, .int .i64 0, .str (bs []), .nils]) hk
  simp +contextual -dsimp only [↓SD, SU, SB, simprocAttr, map_len, Nat.lt_irrefl, fillL_full, map_nop, List.take_length]
  try simp [List.take_of_length_le]

theorem eqPNodeS_ok (l : List PNode) (hx : Bulk.bulk l ≤ 4294967296) : CallsF Tryz.prog 184 [.sl (l.map av), .sl (l.map av)] (.bool true) := by
 have hl := bulk_length l
 refine ir_laws_eqPNodeS.F rfl (by simp; exact lav_clean l) (AvPure.bool _) ?_
 simp +contextual -dsimp only [↓SD, SU, SB, simprocAttr, ir_laws_eqPNodeS, map_len]
 refine aLoop_of (X := Nat) (fun k => ⟨[(0, .sl (l.map av)), (1, .sl (l.map av)), (5, .int .i64 k)], []⟩) (fun k => k ≤ l.length) (fun k => l.length - k) 0 (Nat.zero_le _) (by simp +contextual -dsimp only [↓SD, SU, SB, simprocAttr]) trivial ?_
 intro k hk
 by_cases hlt : k < l.length
 ·have e := getD_map av l k .top hlt
  have hbk : Bulk.bulk l[k] ≤ 4294967296 := by have := bulk_mem (List.getElem_mem hlt); omega
  simp +contextual -dsimp only [↓SD, SU, SB, simprocAttr, map_len, hlt, e, av_PNode]
  have C := eqPNode_ok l[k] hbk
  rw [av_PNode] at C
  refine aCallK_of _ C ?_
  simp +contextual -dsimp only [↓SD, SU, SB, simprocAttr, map_len, hlt, e, av_PNode]
  exact ⟨by omega, Goes.le ⟨k + 1, ⟨hlt, (by first | omega | (simp only; omega))⟩, rfl⟩ (by simp +contextual -dsimp only [↓SD, SU, SB, simprocAttr, Int.natCast_add]) trivial⟩
 ·obtain rfl : k = l.length := by omega
  simp +contextual -dsimp only [↓SD, SU, SB, simprocAttr, map_len, Nat.lt_irrefl]

theorem szPat_ok (x : Pat) (n : Int) (hx : Bulk.bulk x ≤ 4294967296) (h1 : -1 ≤ n) (h2 : n ≤ 4294967296) : SzOk 150 [av x, .int .i64 n] := by
 have hb : Bulk.bulk x.nodes + 1 ≤ 4294967296 := hx
 refine ir_laws_szPat.H rfl ?_
 simp +contextual -dsimp only [↓SD, SU, SB, simprocAttr, ir_laws_szPat, av_Pat]
 (repeat' (first | intro _ | refine And.intro ?_ ?_))
 all_goals first | omega | (refine Goes.post [] ?_; simp +contextual -dsimp only [↓SD, SU, SB, simprocAttr, ir_laws_szPat]; exact ⟨_, rfl, rfl, by omega, by omega⟩) | (refine aCallH_of [] (szPNodeS_ok x.nodes _ (by omega)  (by omega) (by omega)) (by simp +contextual -dsimp only [↓SD, SU, SB, simprocAttr]) ?_; rintro r hp' ⟨m, rfl, rfl, hm1, hm2⟩; simp +contextual -dsimp only [↓SD, SU, SB, simprocAttr]; (repeat' (first | intro _ | refine And.intro ?_ ?_)))
 all_goals first | omega | (refine Goes.post [] ?_; simp +contextual -dsimp only [↓SD, SU, SB, simprocAttr, ir_laws_szPat]; exact ⟨_, rfl, rfl, by omega, by omega⟩)

theorem toPat_ok (x : Pat) (hx : Bulk.bulk x ≤ 4294967296) : CallsF Tryz.prog 157 [av x] (av x) := by
 have hb : Bulk.bulk x.nodes + 1 ≤ 4294967296 := hx
 refine ir_laws_toPat.F rfl (by simp; exact AVal.clean x) (AVal.clean x) ?_
 simp +contextual -dsimp only [↓SD, SU, SB, simprocAttr, ir_laws_toPat, av_Pat]
 (repeat' (first | intro _ | refine And.intro ?_ ?_))
 refine aCallK_of _ (toPNodeS_ok x.nodes (by omega)) ?_
 simp +contextual -dsimp only [↓SD, SU, SB, simprocAttr]

theorem eqPat_ok (x : Pat) (hx : Bulk.bulk x ≤ 4294967296) : CallsF Tryz.prog 170 [av x, av x] (.bool true) := by
 have hb : Bulk.bulk x.nodes + 1 ≤ 4294967296 := hx
 refine ir_laws_eqPat.F rfl (by simp; exact AVal.clean x) (AvPure.bool _) ?_
 simp +contextual -dsimp only [↓SD, SU, SB, simprocAttr, ir_laws_eqPat, av_Pat, beq_self_eq_true]
 refine aCallK_of _ (eqPNodeS_ok x.nodes (by omega)) ?_
 simp +contextual -dsimp only [↓SD, SU, SB, simprocAttr, beq_self_eq_true]

end Go.Proofs.YtjifpdcflankpaaGreat

namespace Go.Proofs.YtjifpdcflankpaaGreat
open Go.RowKit Go.Proofs.YtjifpdcflankpaaGreat.Av Go.Proofs.YtjifpdcflankpaaGreat.Ml
open Go.Proofs.YtjifpdcflankpaaGreat.Av.AVal (av)

theorem szPatS_ok (l : List Pat) (n : Int) (hx : Bulk.bulk l ≤ 4294967296) (h1 : -1 ≤ n) (h2 : n ≤ 4294967296) : SzOk 103 [.sl (l.map av), .int .i64 n] := by
 have hl := bulk_length l
 refine ir_laws_szPatS.H rfl ?_
 simp +contextual -dsimp only [↓SD, SU, SB, simprocAttr, ir_laws_szPatS, map_len]
 refine ⟨by omega, fun h => ?_, fun h => ?_⟩
 ·refine Goes.post [] ?_; simp +contextual -dsimp only [↓SD, SU, SB, simprocAttr, ir_laws_szPatS]; exact ⟨_, rfl, rfl, by omega, by omega⟩
 refine aLoop_of (X := Nat × Int) (fun x => ⟨[(0, .sl (l.map av)), (1, .int .i64 x.2), (5, .int .i64 x.1)], []⟩) (fun x => x.1 ≤ l.length ∧ 0 ≤ x.2 ∧ x.2 ≤ 4294967296) (fun x => l.length - x.1) (0, n - l.length) ⟨Nat.zero_le _, by simp only; omega, by simp only; omega⟩ (by simp +contextual -dsimp only [↓SD, SU, SB, simprocAttr]) trivial ?_
 rintro ⟨k, m⟩ ⟨hk, hm0, hm1⟩
 simp only at hk hm0 hm1
 by_cases hlt : k < l.length
 ·have e := getD_map av l k .top hlt
  have hbk : Bulk.bulk l[k] ≤ 4294967296 := by have := bulk_mem (List.getElem_mem hlt); omega
  simp +contextual -dsimp only [↓SD, SU, SB, simprocAttr, map_len, hlt, e, av_Pat]
  refine aCallH_of [] (szPat_ok l[k] m hbk (by omega) hm1) (by simp +contextual -dsimp only [↓SD, SU, SB, simprocAttr]) ?_
  rintro r hp' ⟨q, rfl, rfl, hq1, hq2⟩
  simp +contextual -dsimp only [↓SD, SU, SB, simprocAttr]
  (repeat' (first | intro _ | refine And.intro ?_ ?_))
  all_goals first | omega | (refine Goes.post [] ?_; simp +contextual -dsimp only [↓SD, SU, SB, simprocAttr, ir_laws_szPatS]; exact ⟨_, rfl, rfl, by omega, by omega⟩) | exact Goes.le ⟨(k + 1, q), ⟨⟨hlt, by simp only; omega, hq2⟩, (by first | omega | (simp only; omega))⟩, rfl⟩ (by simp +contextual -dsimp only [↓SD, SU, SB, simprocAttr, Int.natCast_add]) trivial
 ·obtain rfl : k = l.length := by omega
  simp +contextual -dsimp only [↓SD, SU, SB, simprocAttr, map_len, Nat.lt_irrefl]
  refine Goes.post [] ?_
  simp +contextual -dsimp only [↓SD, SU, SB, simprocAttr, ir_laws_szPatS]
  exact ⟨_, rfl, rfl, by omega, by omega⟩

theorem toPatS_ok (l : List Pat) (hx : Bulk.bulk l ≤ 4294967296) : CallsF Tryz.prog 114 [.sl (l.map av)] (.sl (l.map av)) := by
 have hl := bulk_length l
 refine ir_laws_toPatS.F rfl (by simp; exact lav_clean l) (lav_clean l) ?_
 simp +contextual -dsimp only [↓SD, SU, SB, simprocAttr, ir_laws_toPatS, map_len]
 refine ⟨by omega, fun v => ?_⟩
 refine aLoop_of (X := Nat) (fun k => ⟨[(0, .sl (l.map av)), (3, .row 7 v l.length), (4, .int .i64 k)], [(7, ⟨v, false, 89, 1, fillL l (AV.agg [.nils]) k⟩)]⟩) (fun k => k ≤ l.length) (fun k => l.length - k) 0 (Nat.zero_le _) (by simp +contextual -dsimp only [↓SD, SU, SB, simprocAttr]) (by simp +contextual -dsimp only [↓SD, SU, SB, simprocAttr, fillL_zero]) ?_
 intro k hk
 by_cases hlt : k < l.length
 ·have e := getD_map av l k .top hlt
  have e1 := fillL_len (AV.agg [.nils]) hk
  have e2 := fillL_get (AV.agg [.nils]) hlt .top
  have e3 := fillL_set (z := (AV.agg [.nils])) hlt rfl
  have hbk : Bulk.bulk l[k] ≤ 4294967296 := by have := bulk_mem (List.getElem_mem hlt); omega
  rw [av_Pat] at e3
  simp +contextual -dsimp only [↓SD, SU, SB, simprocAttr, map_len, hlt, e, av_Pat]
  have C := toPat_ok l[k] hbk
  rw [av_Pat] at C
  refine aCallK_of _ C ?_
  simp +contextual -dsimp only [↓SD, SU, SB, simprocAttr, map_len, hlt, e, av_Pat, e1, e2, e3]
  refine ⟨by omega, Goes.le ⟨k + 1, ⟨hlt, (by first | omega | (simp only; omega))⟩, rfl⟩ (by simp +contextual -dsimp only [↓SD, SU, SB, simprocAttr, Int.natCast_add]) (by simp +contextual -dsimp only [↓SD, SU, SB, simprocAttr, e2, e3])⟩
 ·obtain rfl : k = l.length := by omega
  have e1 := fillL_len (AV.agg [.nils]) hk
  simp +contextual -dsimp only [↓SD, SU, SB, simprocAttr, map_len, Nat.lt_irrefl, fillL_full, map_nop, List.take_length]
  try simp [List.take_of_length_le]

theorem eqPatS_ok (l : List Pat) (hx : Bulk.bulk l ≤ 4294967296) : CallsF Tryz.prog 135 [.sl (l.map av), .sl (l.map av)] (.bool true) := by
 have hl := bulk_length l
 refine ir_laws_eqPatS.F rfl (by simp; exact lav_clean l) (AvPure.bool _) ?_
 simp +contextual -dsimp only [↓SD, SU, SB, simprocAttr, ir_laws_eqPatS, map_len]
 refine aLoop_of (X := Nat) (fun k => ⟨[(0, .sl (l.map av)), (1, .sl (l.map av)), (5, .int .i64 k)], []⟩) (fun k => k ≤ l.length) (fun k => l.length - k) 0 (Nat.zero_le _) (by simp +contextual -dsimp only [↓SD, SU, SB, simprocAttr]) trivial ?_
 intro k hk
 by_cases hlt : k < l.length
 ·have e := getD_map av l k .top hlt
  have hbk : Bulk.bulk l[k] ≤ 4294967296 := by have := bulk_mem (List.getElem_mem hlt); omega
  simp +contextual -dsimp only [↓SD, SU, SB, simprocAttr, map_len, hlt, e, av_Pat]
  have C := eqPat_ok l[k] hbk
  rw [av_Pat] at C
  refine aCallK_of _ C ?_
  simp +contextual -dsimp only [↓SD, SU, SB, simprocAttr, map_len, hlt, e, av_Pat]
  exact ⟨by omega, Goes.le ⟨k + 1, ⟨hlt, (by first | omega | (simp only; omega))⟩, rfl⟩ (by simp +contextual -dsimp only [↓SD, SU, SB, simprocAttr, Int.natCast_add]) trivial⟩
 ·obtain rfl : k = l.length := by omega
  simp +contextual -dsimp only [↓SD, SU, SB, simprocAttr, map_len, Nat.lt_irrefl]

end Go.Proofs.YtjifpdcflankpaaGreat

namespace Go.Proofs.YtjifpdcflankpaaGreat
open Go.RowKit Go.Proofs.YtjifpdcflankpaaGreat.Av Go.Proofs.YtjifpdcflankpaaGreat.Ml
open Go.Proofs.YtjifpdcflankpaaGreat.Av.AVal (av)

instance : AVal Con := ⟨fun x => .agg [.str x.name, .bool x.has, .sl (x.arg.items.map av)], 3, fun _ => rfl, fun _ => rfl, fun x y hy => by
 simp only [AV.cells, List.mem_cons, List.not_mem_nil, or_false] at hy
 rcases hy with rfl | rfl | rfl <;> first | exact AvPure.int _ _ | exact AvPure.str _ | exact AvPure.bool _ | exact lav_clean x.arg.items, fun _ _ => rfl, fun x y hy => by
 simp only [AV.cells, List.mem_cons, List.not_mem_nil, or_false] at hy
 rcases hy with rfl | rfl | rfl <;> rfl⟩
theorem av_Con (x : Con) : av x = .agg [.str x.name, .bool x.has, .sl (x.arg.items.map av)] := eqq rfl
instance : AvRep Con := ⟨fun {S w cs y} h => by
 obtain ⟨v2, rfl, h0, r2⟩ := h
 exact VRs.cons (.str _ h0) (VRs.cons (.bool _) (VRs.cons (repSl_vr r2) (VRs.nil)))⟩

instance : AVal TypeD := ⟨fun x => .agg [.str x.name, .int .i64 x.params, .sl (x.cons.map av)], 3, fun _ => rfl, fun _ => rfl, fun x y hy => by
 simp only [AV.cells, List.mem_cons, List.not_mem_nil, or_false] at hy
 rcases hy with rfl | rfl | rfl <;> first | exact AvPure.int _ _ | exact AvPure.str _ | exact AvPure.bool _ | exact lav_clean x.cons, fun _ _ => rfl, fun x y hy => by
 simp only [AV.cells, List.mem_cons, List.not_mem_nil, or_false] at hy
 rcases hy with rfl | rfl | rfl <;> rfl⟩
theorem av_TypeD (x : TypeD) : av x = .agg [.str x.name, .int .i64 x.params, .sl (x.cons.map av)] := eqq rfl
instance : AvRep TypeD := ⟨fun {S w cs y} h => by
 obtain ⟨v2, rfl, h0, h1, r2⟩ := h
 exact VRs.cons (.str _ h0) (VRs.cons (.int _ _ h1.1 h1.2) (VRs.cons (repSl_vr r2) (VRs.nil)))⟩

instance : AVal Node := ⟨fun x => .agg [.int .i64 x.kind, .int .i64 x.pos, .int .i64 x.n, .str x.s, .sl (x.kids.map av), .sl (x.pats.map av)], 6, fun _ => rfl, fun _ => rfl, fun x y hy => by
 simp only [AV.cells, List.mem_cons, List.not_mem_nil, or_false] at hy
 rcases hy with rfl | rfl | rfl | rfl | rfl | rfl <;> first | exact AvPure.int _ _ | exact AvPure.str _ | exact AvPure.bool _ | exact lav_clean x.kids | exact lav_clean x.pats, fun _ _ => rfl, fun x y hy => by
 simp only [AV.cells, List.mem_cons, List.not_mem_nil, or_false] at hy
 rcases hy with rfl | rfl | rfl | rfl | rfl | rfl <;> rfl⟩
theorem av_Node (x : Node) : av x = .agg [.int .i64 x.kind, .int .i64 x.pos, .int .i64 x.n, .str x.s, .sl (x.kids.map av), .sl (x.pats.map av)] := eqq rfl
instance : AvRep Node := ⟨fun {S w cs y} h => by
 obtain ⟨v4, v5, rfl, h0, h1, h2, h3, r4, r5⟩ := h
 exact VRs.cons (.int _ _ h0.1 h0.2) (VRs.cons (.int _ _ h1.1 h1.2) (VRs.cons (.int _ _ h2.1 h2.2) (VRs.cons (.str _ h3) (VRs.cons (repSl_vr r4) (VRs.cons (repSl_vr r5) (VRs.nil))))))⟩

instance : AVal Program := ⟨fun x => .agg [.sl (x.types.map av), .sl (x.nodes.map av)], 2, fun _ => rfl, fun _ => rfl, fun x y hy => by
 simp only [AV.cells, List.mem_cons, List.not_mem_nil, or_false] at hy
 rcases hy with rfl | rfl <;> first | exact AvPure.int _ _ | exact AvPure.str _ | exact AvPure.bool _ | exact lav_clean x.types | exact lav_clean x.nodes, fun _ _ => rfl, fun x y hy => by
 simp only [AV.cells, List.mem_cons, List.not_mem_nil, or_false] at hy
 rcases hy with rfl | rfl <;> rfl⟩
theorem av_Program (x : Program) : av x = .agg [.sl (x.types.map av), .sl (x.nodes.map av)] := eqq rfl
instance : AvRep Program := ⟨fun {S w cs y} h => by
 obtain ⟨v0, v1, rfl, r0, r1⟩ := h
 exact VRs.cons (repSl_vr r0) (VRs.cons (repSl_vr r1) (VRs.nil))⟩

theorem szCon_ok (x : Con) (n : Int) (hx : Bulk.bulk x ≤ 4294967296) (h1 : -1 ≤ n) (h2 : n ≤ 4294967296) : SzOk 149 [av x, .int .i64 n] := by
 have hb : Bulk.bulk x.name + Bulk.bulk x.has + Bulk.bulk x.arg + 1 ≤ 4294967296 := hx
 have e0 : Bulk.bulk x.name = x.name.size + 1 := rfl
 refine ir_laws_szCon.H rfl ?_
 simp +contextual -dsimp only [↓SD, SU, SB, simprocAttr, ir_laws_szCon, av_Con]
 (repeat' (first | intro _ | refine And.intro ?_ ?_))
 all_goals first | omega | (refine Goes.post [] ?_; simp +contextual -dsimp only [↓SD, SU, SB, simprocAttr, ir_laws_szCon]; exact ⟨_, rfl, rfl, by omega, by omega⟩) | (refine aCallH_of [] (szTy_ok x.arg _ (by omega)  (by omega) (by omega)) (by simp +contextual -dsimp only [↓SD, SU, SB, simprocAttr]) ?_; rintro r hp' ⟨m, rfl, rfl, hm1, hm2⟩; simp +contextual -dsimp only [↓SD, SU, SB, simprocAttr]; (repeat' (first | intro _ | refine And.intro ?_ ?_)))
 all_goals first | omega | (refine Goes.post [] ?_; simp +contextual -dsimp only [↓SD, SU, SB, simprocAttr, ir_laws_szCon]; exact ⟨_, rfl, rfl, by omega, by omega⟩)

theorem toCon_ok (x : Con) (hx : Bulk.bulk x ≤ 4294967296) : CallsF Tryz.prog 156 [av x] (av x) := by
 have hb : Bulk.bulk x.name + Bulk.bulk x.has + Bulk.bulk x.arg + 1 ≤ 4294967296 := hx
 refine ir_laws_toCon.F rfl (by simp; exact AVal.clean x) (AVal.clean x) ?_
 simp +contextual -dsimp only [↓SD, SU, SB, simprocAttr, ir_laws_toCon, av_Con]
 (repeat' (first | intro _ | refine And.intro ?_ ?_))
 have C := toTy_ok x.arg (by omega)
 rw [av_Ty] at C
 refine aCallK_of _ C ?_
 clear C
 simp +contextual -dsimp only [↓SD, SU, SB, simprocAttr]

theorem eqCon_ok (x : Con) (hx : Bulk.bulk x ≤ 4294967296) : CallsF Tryz.prog 169 [av x, av x] (.bool true) := by
 have hb : Bulk.bulk x.name + Bulk.bulk x.has + Bulk.bulk x.arg + 1 ≤ 4294967296 := hx
 refine ir_laws_eqCon.F rfl (by simp; exact AVal.clean x) (AvPure.bool _) ?_
 simp +contextual -dsimp only [↓SD, SU, SB, simprocAttr, ir_laws_eqCon, av_Con, beq_self_eq_true]
 have C := eqTy_ok x.arg (by omega)
 rw [av_Ty] at C
 refine aCallK_of _ C ?_
 clear C
 simp +contextual -dsimp only [↓SD, SU, SB, simprocAttr, beq_self_eq_true]

theorem szConS_ok (l : List Con) (n : Int) (hx : Bulk.bulk l ≤ 4294967296) (h1 : -1 ≤ n) (h2 : n ≤ 4294967296) : SzOk 101 [.sl (l.map av), .int .i64 n] := by
 have hl := bulk_length l
 refine ir_laws_szConS.H rfl ?_
 simp +contextual -dsimp only [↓SD, SU, SB, simprocAttr, ir_laws_szConS, map_len]
 refine ⟨by omega, fun h => ?_, fun h => ?_⟩
 ·refine Goes.post [] ?_; simp +contextual -dsimp only [↓SD, SU, SB, simprocAttr, ir_laws_szConS]; exact ⟨_, rfl, rfl, by omega, by omega⟩
 refine aLoop_of (X := Nat × Int) (fun x => ⟨[(0, .sl (l.map av)), (1, .int .i64 x.2), (5, .int .i64 x.1)], []⟩) (fun x => x.1 ≤ l.length ∧ 0 ≤ x.2 ∧ x.2 ≤ 4294967296) (fun x => l.length - x.1) (0, n - l.length) ⟨Nat.zero_le _, by simp only; omega, by simp only; omega⟩ (by simp +contextual -dsimp only [↓SD, SU, SB, simprocAttr]) trivial ?_
 rintro ⟨k, m⟩ ⟨hk, hm0, hm1⟩
 simp only at hk hm0 hm1
 by_cases hlt : k < l.length
 ·have e := getD_map av l k .top hlt
  have hbk : Bulk.bulk l[k] ≤ 4294967296 := by have := bulk_mem (List.getElem_mem hlt); omega
  simp +contextual -dsimp only [↓SD, SU, SB, simprocAttr, map_len, hlt, e, av_Con]
  refine aCallH_of [] (szCon_ok l[k] m hbk (by omega) hm1) (by simp +contextual -dsimp only [↓SD, SU, SB, simprocAttr]) ?_
  rintro r hp' ⟨q, rfl, rfl, hq1, hq2⟩
  simp +contextual -dsimp only [↓SD, SU, SB, simprocAttr]
  (repeat' (first | intro _ | refine And.intro ?_ ?_))
  all_goals first | omega | (refine Goes.post [] ?_; simp +contextual -dsimp only [↓SD, SU, SB, simprocAttr, ir_laws_szConS]; exact ⟨_, rfl, rfl, by omega, by omega⟩) | exact Goes.le ⟨(k + 1, q), ⟨⟨hlt, by simp only; omega, hq2⟩, (by first | omega | (simp only; omega))⟩, rfl⟩ (by simp +contextual -dsimp only [↓SD, SU, SB, simprocAttr, Int.natCast_add]) trivial
 ·obtain rfl : k = l.length := by omega
  simp +contextual -dsimp only [↓SD, SU, SB, simprocAttr, map_len, Nat.lt_irrefl]
  refine Goes.post [] ?_
  simp +contextual -dsimp only [↓SD, SU, SB, simprocAttr, ir_laws_szConS]
  exact ⟨_, rfl, rfl, by omega, by omega⟩

theorem toConS_ok (l : List Con) (hx : Bulk.bulk l ≤ 4294967296) : CallsF Tryz.prog 112 [.sl (l.map av)] (.sl (l.map av)) := by
 have hl := bulk_length l
 refine ir_laws_toConS.F rfl (by simp; exact lav_clean l) (lav_clean l) ?_
 simp +contextual -dsimp only [↓SD, SU, SB, simprocAttr, ir_laws_toConS, map_len]
 refine ⟨by omega, fun v => ?_⟩
 refine aLoop_of (X := Nat) (fun k => ⟨[(0, .sl (l.map av)), (3, .row 7 v l.length), (4, .int .i64 k)], [(7, ⟨v, false, 80, 3, fillL l (AV.agg [.str (bs []), .bool false, .nils]) k⟩)]⟩) (fun k => k ≤ l.length) (fun k => l.length - k) 0 (Nat.zero_le _) (by simp +contextual -dsimp only [↓SD, SU, SB, simprocAttr]) (by simp +contextual -dsimp only [↓SD, SU, SB, simprocAttr, fillL_zero]) ?_
 intro k hk
 by_cases hlt : k < l.length
 ·have e := getD_map av l k .top hlt
  have e1 := fillL_len (AV.agg [.str (bs []), .bool false, .nils]) hk
  have e2 := fillL_get (AV.agg [.str (bs []), .bool false, .nils]) hlt .top
  have e3 := fillL_set (z := (AV.agg [.str (bs []), .bool false, .nils])) hlt rfl
  have hbk : Bulk.bulk l[k] ≤ 4294967296 := by have := bulk_mem (List.getElem_mem hlt); omega
  rw [av_Con] at e3
  simp +contextual -dsimp only [↓SD, SU, SB, simprocAttr, map_len, hlt, e, av_Con]
  have C := toCon_ok l[k] hbk
  rw [av_Con] at C
  refine aCallK_of _ C ?_
  simp +contextual -dsimp only [↓SD, SU, SB, simprocAttr, map_len, hlt, e, av_Con, e1, e2, e3]
  refine ⟨by omega, Goes.le ⟨k + 1, ⟨hlt, (by first | omega | (simp only; omega))⟩, rfl⟩ (by simp +contextual -dsimp only [↓SD, SU, SB, simprocAttr, Int.natCast_add]) (by simp +contextual -dsimp only [↓SD, SU, SB, simprocAttr, e2, e3])⟩
 ·obtain rfl : k = l.length := by omega
  have e1 := fillL_len (AV.agg [.str (bs []), .bool false, .nils]) hk
  simp +contextual -dsimp only [↓SD, SU, SB, simprocAttr, map_len, Nat.lt_irrefl, fillL_full, map_nop, List.take_length]
  try simp [List.take_of_length_le]

theorem eqConS_ok (l : List Con) (hx : Bulk.bulk l ≤ 4294967296) : CallsF Tryz.prog 133 [.sl (l.map av), .sl (l.map av)] (.bool true) := by
 have hl := bulk_length l
 refine ir_laws_eqConS.F rfl (by simp; exact lav_clean l) (AvPure.bool _) ?_
 simp +contextual -dsimp only [↓SD, SU, SB, simprocAttr, ir_laws_eqConS, map_len]
 refine aLoop_of (X := Nat) (fun k => ⟨[(0, .sl (l.map av)), (1, .sl (l.map av)), (5, .int .i64 k)], []⟩) (fun k => k ≤ l.length) (fun k => l.length - k) 0 (Nat.zero_le _) (by simp +contextual -dsimp only [↓SD, SU, SB, simprocAttr]) trivial ?_
 intro k hk
 by_cases hlt : k < l.length
 ·have e := getD_map av l k .top hlt
  have hbk : Bulk.bulk l[k] ≤ 4294967296 := by have := bulk_mem (List.getElem_mem hlt); omega
  simp +contextual -dsimp only [↓SD, SU, SB, simprocAttr, map_len, hlt, e, av_Con]
  have C := eqCon_ok l[k] hbk
  rw [av_Con] at C
  refine aCallK_of _ C ?_
  simp +contextual -dsimp only [↓SD, SU, SB, simprocAttr, map_len, hlt, e, av_Con]
  exact ⟨by omega, Goes.le ⟨k + 1, ⟨hlt, (by first | omega | (simp only; omega))⟩, rfl⟩ (by simp +contextual -dsimp only [↓SD, SU, SB, simprocAttr, Int.natCast_add]) trivial⟩
 ·obtain rfl : k = l.length := by omega
  simp +contextual -dsimp only [↓SD, SU, SB, simprocAttr, map_len, Nat.lt_irrefl]

theorem szType_ok (x : TypeD) (n : Int) (hx : Bulk.bulk x ≤ 4294967296) (h1 : -1 ≤ n) (h2 : n ≤ 4294967296) : SzOk 44 [av x, .int .i64 n] := by
 have hb : Bulk.bulk x.name + Bulk.bulk x.params + Bulk.bulk x.cons + 1 ≤ 4294967296 := hx
 have e0 : Bulk.bulk x.name = x.name.size + 1 := rfl
 refine ir_laws_szType.H rfl ?_
 simp +contextual -dsimp only [↓SD, SU, SB, simprocAttr, ir_laws_szType, av_TypeD]
 (repeat' (first | intro _ | refine And.intro ?_ ?_))
 all_goals first | omega | (refine Goes.post [] ?_; simp +contextual -dsimp only [↓SD, SU, SB, simprocAttr, ir_laws_szType]; exact ⟨_, rfl, rfl, by omega, by omega⟩) | (refine aCallH_of [] (szConS_ok x.cons _ (by omega)  (by omega) (by omega)) (by simp +contextual -dsimp only [↓SD, SU, SB, simprocAttr]) ?_; rintro r hp' ⟨m, rfl, rfl, hm1, hm2⟩; simp +contextual -dsimp only [↓SD, SU, SB, simprocAttr]; (repeat' (first | intro _ | refine And.intro ?_ ?_)))
 all_goals first | omega | (refine Goes.post [] ?_; simp +contextual -dsimp only [↓SD, SU, SB, simprocAttr, ir_laws_szType]; exact ⟨_, rfl, rfl, by omega, by omega⟩)

theorem toType_ok (x : TypeD) (hx : Bulk.bulk x ≤ 4294967296) : CallsF Tryz.prog 55 [av x] (av x) := by
 have hb : Bulk.bulk x.name + Bulk.bulk x.params + Bulk.bulk x.cons + 1 ≤ 4294967296 := hx
 refine ir_laws_toType.F rfl (by simp; exact AVal.clean x) (AVal.clean x) ?_
 simp +contextual -dsimp only [↓SD, SU, SB, simprocAttr, ir_laws_toType, av_TypeD]
 (repeat' (first | intro _ | refine And.intro ?_ ?_))
 refine aCallK_of _ (toConS_ok x.cons (by omega)) ?_
 simp +contextual -dsimp only [↓SD, SU, SB, simprocAttr]

theorem eqType_ok (x : TypeD) (hx : Bulk.bulk x ≤ 4294967296) : CallsF Tryz.prog 72 [av x, av x] (.bool true) := by
 have hb : Bulk.bulk x.name + Bulk.bulk x.params + Bulk.bulk x.cons + 1 ≤ 4294967296 := hx
 refine ir_laws_eqType.F rfl (by simp; exact AVal.clean x) (AvPure.bool _) ?_
 simp +contextual -dsimp only [↓SD, SU, SB, simprocAttr, ir_laws_eqType, av_TypeD, beq_self_eq_true]
 refine aCallK_of _ (eqConS_ok x.cons (by omega)) ?_
 simp +contextual -dsimp only [↓SD, SU, SB, simprocAttr, beq_self_eq_true]

theorem szNode_ok (x : Node) (n : Int) (hx : Bulk.bulk x ≤ 4294967296) (h1 : -1 ≤ n) (h2 : n ≤ 4294967296) : SzOk 45 [av x, .int .i64 n] := by
 have hb : Bulk.bulk x.kind + Bulk.bulk x.pos + Bulk.bulk x.n + Bulk.bulk x.s + Bulk.bulk x.kids + Bulk.bulk x.pats + 1 ≤ 4294967296 := hx
 have e3 : Bulk.bulk x.s = x.s.size + 1 := rfl
 refine ir_laws_szNode.H rfl ?_
 simp +contextual -dsimp only [↓SD, SU, SB, simprocAttr, ir_laws_szNode, av_Node]
 (repeat' (first | intro _ | refine And.intro ?_ ?_))
 all_goals first | omega | (refine Goes.post [] ?_; simp +contextual -dsimp only [↓SD, SU, SB, simprocAttr, ir_laws_szNode]; exact ⟨_, rfl, rfl, by omega, by omega⟩) | (refine aCallH_of [] (szIntS_ok x.kids _ (by omega)  (by omega) (by omega)) (by simp +contextual -dsimp only [↓SD, SU, SB, simprocAttr]) ?_; rintro r hp' ⟨m, rfl, rfl, hm1, hm2⟩; simp +contextual -dsimp only [↓SD, SU, SB, simprocAttr]; (repeat' (first | intro _ | refine And.intro ?_ ?_))) | (refine aCallH_of [] (szPatS_ok x.pats _ (by omega)  (by omega) (by omega)) (by simp +contextual -dsimp only [↓SD, SU, SB, simprocAttr]) ?_; rintro r hp' ⟨m, rfl, rfl, hm1, hm2⟩; simp +contextual -dsimp only [↓SD, SU, SB, simprocAttr]; (repeat' (first | intro _ | refine And.intro ?_ ?_)))
 all_goals first | omega | (refine Goes.post [] ?_; simp +contextual -dsimp only [↓SD, SU, SB, simprocAttr, ir_laws_szNode]; exact ⟨_, rfl, rfl, by omega, by omega⟩) | (refine aCallH_of [] (szIntS_ok x.kids _ (by omega)  (by omega) (by omega)) (by simp +contextual -dsimp only [↓SD, SU, SB, simprocAttr]) ?_; rintro r hp' ⟨m, rfl, rfl, hm1, hm2⟩; simp +contextual -dsimp only [↓SD, SU, SB, simprocAttr]; (repeat' (first | intro _ | refine And.intro ?_ ?_))) | (refine aCallH_of [] (szPatS_ok x.pats _ (by omega)  (by omega) (by omega)) (by simp +contextual -dsimp only [↓SD, SU, SB, simprocAttr]) ?_; rintro r hp' ⟨m, rfl, rfl, hm1, hm2⟩; simp +contextual -dsimp only [↓SD, SU, SB, simprocAttr]; (repeat' (first | intro _ | refine And.intro ?_ ?_)))
 all_goals first | omega | (refine Goes.post [] ?_; simp +contextual -dsimp only [↓SD, SU, SB, simprocAttr, ir_laws_szNode]; exact ⟨_, rfl, rfl, by omega, by omega⟩)

theorem toNode_ok (x : Node) (hx : Bulk.bulk x ≤ 4294967296) : CallsF Tryz.prog 56 [av x] (av x) := by
 have hb : Bulk.bulk x.kind + Bulk.bulk x.pos + Bulk.bulk x.n + Bulk.bulk x.s + Bulk.bulk x.kids + Bulk.bulk x.pats + 1 ≤ 4294967296 := hx
 refine ir_laws_toNode.F rfl (by simp; exact AVal.clean x) (AVal.clean x) ?_
 simp +contextual -dsimp only [↓SD, SU, SB, simprocAttr, ir_laws_toNode, av_Node]
 (repeat' (first | intro _ | refine And.intro ?_ ?_))
 refine aCallK_of _ (toIntS_ok x.kids (by omega)) ?_
 simp +contextual -dsimp only [↓SD, SU, SB, simprocAttr]
 (repeat' (first | intro _ | refine And.intro ?_ ?_))
 refine aCallK_of _ (toPatS_ok x.pats (by omega)) ?_
 simp +contextual -dsimp only [↓SD, SU, SB, simprocAttr]

theorem eqNode_ok (x : Node) (hx : Bulk.bulk x ≤ 4294967296) : CallsF Tryz.prog 73 [av x, av x] (.bool true) := by
 have hb : Bulk.bulk x.kind + Bulk.bulk x.pos + Bulk.bulk x.n + Bulk.bulk x.s + Bulk.bulk x.kids + Bulk.bulk x.pats + 1 ≤ 4294967296 := hx
 refine ir_laws_eqNode.F rfl (by simp; exact AVal.clean x) (AvPure.bool _) ?_
 simp +contextual -dsimp only [↓SD, SU, SB, simprocAttr, ir_laws_eqNode, av_Node, beq_self_eq_true]
 refine aCallK_of _ (eqIntS_ok x.kids (by omega)) ?_
 simp +contextual -dsimp only [↓SD, SU, SB, simprocAttr, beq_self_eq_true]
 refine aCallK_of _ (eqPatS_ok x.pats (by omega)) ?_
 simp +contextual -dsimp only [↓SD, SU, SB, simprocAttr, beq_self_eq_true]

theorem szTypeS_ok (l : List TypeD) (n : Int) (hx : Bulk.bulk l ≤ 4294967296) (h1 : -1 ≤ n) (h2 : n ≤ 4294967296) : SzOk 20 [.sl (l.map av), .int .i64 n] := by
 have hl := bulk_length l
 refine ir_laws_szTypeS.H rfl ?_
 simp +contextual -dsimp only [↓SD, SU, SB, simprocAttr, ir_laws_szTypeS, map_len]
 refine ⟨by omega, fun h => ?_, fun h => ?_⟩
 ·refine Goes.post [] ?_; simp +contextual -dsimp only [↓SD, SU, SB, simprocAttr, ir_laws_szTypeS]; exact ⟨_, rfl, rfl, by omega, by omega⟩
 refine aLoop_of (X := Nat × Int) (fun x => ⟨[(0, .sl (l.map av)), (1, .int .i64 x.2), (5, .int .i64 x.1)], []⟩) (fun x => x.1 ≤ l.length ∧ 0 ≤ x.2 ∧ x.2 ≤ 4294967296) (fun x => l.length - x.1) (0, n - l.length) ⟨Nat.zero_le _, by simp only; omega, by simp only; omega⟩ (by simp +contextual -dsimp only [↓SD, SU, SB, simprocAttr]) trivial ?_
 rintro ⟨k, m⟩ ⟨hk, hm0, hm1⟩
 simp only at hk hm0 hm1
 by_cases hlt : k < l.length
 ·have e := getD_map av l k .top hlt
  have hbk : Bulk.bulk l[k] ≤ 4294967296 := by have := bulk_mem (List.getElem_mem hlt); omega
  simp +contextual -dsimp only [↓SD, SU, SB, simprocAttr, map_len, hlt, e, av_TypeD]
  refine aCallH_of [] (szType_ok l[k] m hbk (by omega) hm1) (by simp +contextual -dsimp only [↓SD, SU, SB, simprocAttr]) ?_
  rintro r hp' ⟨q, rfl, rfl, hq1, hq2⟩
  simp +contextual -dsimp only [↓SD, SU, SB, simprocAttr]
  (repeat' (first | intro _ | refine And.intro ?_ ?_))
  all_goals first | omega | (refine Goes.post [] ?_; simp +contextual -dsimp only [↓SD, SU, SB, simprocAttr, ir_laws_szTypeS]; exact ⟨_, rfl, rfl, by omega, by omega⟩) | exact Goes.le ⟨(k + 1, q), ⟨⟨hlt, by simp only; omega, hq2⟩, (by first | omega | (simp only; omega))⟩, rfl⟩ (by simp +contextual -dsimp only [↓SD, SU, SB, simprocAttr, Int.natCast_add]) trivial
 ·obtain rfl : k = l.length := by omega
  simp +contextual -dsimp only [↓SD, SU, SB, simprocAttr, map_len, Nat.lt_irrefl]
  refine Goes.post [] ?_
  simp +contextual -dsimp only [↓SD, SU, SB, simprocAttr, ir_laws_szTypeS]
  exact ⟨_, rfl, rfl, by omega, by omega⟩

theorem toTypeS_ok (l : List TypeD) (hx : Bulk.bulk l ≤ 4294967296) : CallsF Tryz.prog 27 [.sl (l.map av)] (.sl (l.map av)) := by
 have hl := bulk_length l
 refine ir_laws_toTypeS.F rfl (by simp; exact lav_clean l) (lav_clean l) ?_
 simp +contextual -dsimp only [↓SD, SU, SB, simprocAttr, ir_laws_toTypeS, map_len]
 refine ⟨by omega, fun v => ?_⟩
 refine aLoop_of (X := Nat) (fun k => ⟨[(0, .sl (l.map av)), (3, .row 7 v l.length), (4, .int .i64 k)], [(7, ⟨v, false, 74, 3, fillL l (AV.agg [.str (bs []), .int .i64 0, .nils]) k⟩)]⟩) (fun k => k ≤ l.length) (fun k => l.length - k) 0 (Nat.zero_le _) (by simp +contextual -dsimp only [↓SD, SU, SB, simprocAttr]) (by simp +contextual -dsimp only [↓SD, SU, SB, simprocAttr, fillL_zero]) ?_
 intro k hk
 by_cases hlt : k < l.length
 ·have e := getD_map av l k .top hlt
  have e1 := fillL_len (AV.agg [.str (bs []), .int .i64 0, .nils]) hk
  have e2 := fillL_get (AV.agg [.str (bs []), .int .i64 0, .nils]) hlt .top
  have e3 := fillL_set (z := (AV.agg [.str (bs []), .int .i64 0, .nils])) hlt rfl
  have hbk : Bulk.bulk l[k] ≤ 4294967296 := by have := bulk_mem (List.getElem_mem hlt); omega
  rw [av_TypeD] at e3
  simp +contextual -dsimp only [↓SD, SU, SB, simprocAttr, map_len, hlt, e, av_TypeD]
  have C := toType_ok l[k] hbk
  rw [av_TypeD] at C
  refine aCallK_of _ C ?_
  simp +contextual -dsimp only [↓SD, SU, SB, simprocAttr, map_len, hlt, e, av_TypeD, e1, e2, e3]
  refine ⟨by omega, Goes.le ⟨k + 1, ⟨hlt, (by first | omega | (simp only; omega))⟩, rfl⟩ (by simp +contextual -dsimp only [↓SD, SU, SB, simprocAttr, Int.natCast_add]) (by simp +contextual -dsimp only [↓SD, SU, SB, simprocAttr, e2, e3])⟩
 ·obtain rfl : k = l.length := by omega
  have e1 := fillL_len (AV.agg [.str (bs []), .int .i64 0, .nils]) hk
  simp +contextual -dsimp only [↓SD, SU, SB, simprocAttr, map_len, Nat.lt_irrefl, fillL_full, map_nop, List.take_length]
  try simp [List.take_of_length_le]

theorem eqTypeS_ok (l : List TypeD) (hx : Bulk.bulk l ≤ 4294967296) : CallsF Tryz.prog 33 [.sl (l.map av), .sl (l.map av)] (.bool true) := by
 have hl := bulk_length l
 refine ir_laws_eqTypeS.F rfl (by simp; exact lav_clean l) (AvPure.bool _) ?_
 simp +contextual -dsimp only [↓SD, SU, SB, simprocAttr, ir_laws_eqTypeS, map_len]
 refine aLoop_of (X := Nat) (fun k => ⟨[(0, .sl (l.map av)), (1, .sl (l.map av)), (5, .int .i64 k)], []⟩) (fun k => k ≤ l.length) (fun k => l.length - k) 0 (Nat.zero_le _) (by simp +contextual -dsimp only [↓SD, SU, SB, simprocAttr]) trivial ?_
 intro k hk
 by_cases hlt : k < l.length
 ·have e := getD_map av l k .top hlt
  have hbk : Bulk.bulk l[k] ≤ 4294967296 := by have := bulk_mem (List.getElem_mem hlt); omega
  simp +contextual -dsimp only [↓SD, SU, SB, simprocAttr, map_len, hlt, e, av_TypeD]
  have C := eqType_ok l[k] hbk
  rw [av_TypeD] at C
  refine aCallK_of _ C ?_
  simp +contextual -dsimp only [↓SD, SU, SB, simprocAttr, map_len, hlt, e, av_TypeD]
  exact ⟨by omega, Goes.le ⟨k + 1, ⟨hlt, (by first | omega | (simp only; omega))⟩, rfl⟩ (by simp +contextual -dsimp only [↓SD, SU, SB, simprocAttr, Int.natCast_add]) trivial⟩
 ·obtain rfl : k = l.length := by omega
  simp +contextual -dsimp only [↓SD, SU, SB, simprocAttr, map_len, Nat.lt_irrefl]

theorem szNodeS_ok (l : List Node) (n : Int) (hx : Bulk.bulk l ≤ 4294967296) (h1 : -1 ≤ n) (h2 : n ≤ 4294967296) : SzOk 21 [.sl (l.map av), .int .i64 n] := by
 have hl := bulk_length l
 refine ir_laws_szNodeS.H rfl ?_
 simp +contextual -dsimp only [↓SD, SU, SB, simprocAttr, ir_laws_szNodeS, map_len]
 refine ⟨by omega, fun h => ?_, fun h => ?_⟩
 ·refine Goes.post [] ?_; simp +contextual -dsimp only [↓SD, SU, SB, simprocAttr, ir_laws_szNodeS]; exact ⟨_, rfl, rfl, by omega, by omega⟩
 refine aLoop_of (X := Nat × Int) (fun x => ⟨[(0, .sl (l.map av)), (1, .int .i64 x.2), (5, .int .i64 x.1)], []⟩) (fun x => x.1 ≤ l.length ∧ 0 ≤ x.2 ∧ x.2 ≤ 4294967296) (fun x => l.length - x.1) (0, n - l.length) ⟨Nat.zero_le _, by simp only; omega, by simp only; omega⟩ (by simp +contextual -dsimp only [↓SD, SU, SB, simprocAttr]) trivial ?_
 rintro ⟨k, m⟩ ⟨hk, hm0, hm1⟩
 simp only at hk hm0 hm1
 by_cases hlt : k < l.length
 ·have e := getD_map av l k .top hlt
  have hbk : Bulk.bulk l[k] ≤ 4294967296 := by have := bulk_mem (List.getElem_mem hlt); omega
  simp +contextual -dsimp only [↓SD, SU, SB, simprocAttr, map_len, hlt, e, av_Node]
  refine aCallH_of [] (szNode_ok l[k] m hbk (by omega) hm1) (by simp +contextual -dsimp only [↓SD, SU, SB, simprocAttr]) ?_
  rintro r hp' ⟨q, rfl, rfl, hq1, hq2⟩
  simp +contextual -dsimp only [↓SD, SU, SB, simprocAttr]
  (repeat' (first | intro _ | refine And.intro ?_ ?_))
  all_goals first | omega | (refine Goes.post [] ?_; simp +contextual -dsimp only [↓SD, SU, SB, simprocAttr, ir_laws_szNodeS]; exact ⟨_, rfl, rfl, by omega, by omega⟩) | exact Goes.le ⟨(k + 1, q), ⟨⟨hlt, by simp only; omega, hq2⟩, (by first | omega | (simp only; omega))⟩, rfl⟩ (by simp +contextual -dsimp only [↓SD, SU, SB, simprocAttr, Int.natCast_add]) trivial
 ·obtain rfl : k = l.length := by omega
  simp +contextual -dsimp only [↓SD, SU, SB, simprocAttr, map_len, Nat.lt_irrefl]
  refine Goes.post [] ?_
  simp +contextual -dsimp only [↓SD, SU, SB, simprocAttr, ir_laws_szNodeS]
  exact ⟨_, rfl, rfl, by omega, by omega⟩

theorem toNodeS_ok (l : List Node) (hx : Bulk.bulk l ≤ 4294967296) : CallsF Tryz.prog 28 [.sl (l.map av)] (.sl (l.map av)) := by
 have hl := bulk_length l
 refine ir_laws_toNodeS.F rfl (by simp; exact lav_clean l) (lav_clean l) ?_
 simp +contextual -dsimp only [↓SD, SU, SB, simprocAttr, ir_laws_toNodeS, map_len]
 refine ⟨by omega, fun v => ?_⟩
 refine aLoop_of (X := Nat) (fun k => ⟨[(0, .sl (l.map av)), (3, .row 7 v l.length), (4, .int .i64 k)], [(7, ⟨v, false, 44, 6, fillL l (AV.agg [.int .i64 0, .int .i64 0, .int .i64 0, .str (bs []), .nils, .nils]) k⟩)]⟩) (fun k => k ≤ l.length) (fun k => l.length - k) 0 (Nat.zero_le _) (by simp +contextual -dsimp only [↓SD, SU, SB, simprocAttr]) (by simp +contextual -dsimp only [↓SD, SU, SB, simprocAttr, fillL_zero]) ?_
 intro k hk
 by_cases hlt : k < l.length
 ·have e := getD_map av l k .top hlt
  have e1 := fillL_len (AV.agg [.int .i64 0, .int .i64 0, .int .i64 0, .str (bs []), .nils, .nils]) hk
  have e2 := fillL_get (AV.agg [.int .i64 0, .int .i64 0, .int .i64 0, .str (bs []), .nils, .nils]) hlt .top
  have e3 := fillL_set (z := (AV.agg [.int .i64 0, .int .i64 0, .int .i64 0, .str (bs []), .nils, .nils])) hlt rfl
  have hbk : Bulk.bulk l[k] ≤ 4294967296 := by have := bulk_mem (List.getElem_mem hlt); omega
  rw [av_Node] at e3
  simp +contextual -dsimp only [↓SD, SU, SB, simprocAttr, map_len, hlt, e, av_Node]
  have C := toNode_ok l[k] hbk
  rw [av_Node] at C
  refine aCallK_of _ C ?_
  simp +contextual -dsimp only [↓SD, SU, SB, simprocAttr, map_len, hlt, e, av_Node, e1, e2, e3]
  refine ⟨by omega, Goes.le ⟨k + 1, ⟨hlt, (by first | omega | (simp only; omega))⟩, rfl⟩ (by simp +contextual -dsimp only [↓SD, SU, SB, simprocAttr, Int.natCast_add]) (by simp +contextual -dsimp only [↓SD, SU, SB, simprocAttr, e2, e3])⟩
 ·obtain rfl : k = l.length := by omega
  have e1 := fillL_len (AV.agg [.int .i64 0, .int .i64 0, .int .i64 0, .str (bs []), .nils, .nils]) hk
  simp +contextual -dsimp only [↓SD, SU, SB, simprocAttr, map_len, Nat.lt_irrefl, fillL_full, map_nop, List.take_length]
  try simp [List.take_of_length_le]

theorem eqNodeS_ok (l : List Node) (hx : Bulk.bulk l ≤ 4294967296) : CallsF Tryz.prog 34 [.sl (l.map av), .sl (l.map av)] (.bool true) := by
 have hl := bulk_length l
 refine ir_laws_eqNodeS.F rfl (by simp; exact lav_clean l) (AvPure.bool _) ?_
 simp +contextual -dsimp only [↓SD, SU, SB, simprocAttr, ir_laws_eqNodeS, map_len]
 refine aLoop_of (X := Nat) (fun k => ⟨[(0, .sl (l.map av)), (1, .sl (l.map av)), (5, .int .i64 k)], []⟩) (fun k => k ≤ l.length) (fun k => l.length - k) 0 (Nat.zero_le _) (by simp +contextual -dsimp only [↓SD, SU, SB, simprocAttr]) trivial ?_
 intro k hk
 by_cases hlt : k < l.length
 ·have e := getD_map av l k .top hlt
  have hbk : Bulk.bulk l[k] ≤ 4294967296 := by have := bulk_mem (List.getElem_mem hlt); omega
  simp +contextual -dsimp only [↓SD, SU, SB, simprocAttr, map_len, hlt, e, av_Node]
  have C := eqNode_ok l[k] hbk
  rw [av_Node] at C
  refine aCallK_of _ C ?_
  simp +contextual -dsimp only [↓SD, SU, SB, simprocAttr, map_len, hlt, e, av_Node]
  exact ⟨by omega, Goes.le ⟨k + 1, ⟨hlt, (by first | omega | (simp only; omega))⟩, rfl⟩ (by simp +contextual -dsimp only [↓SD, SU, SB, simprocAttr, Int.natCast_add]) trivial⟩
 ·obtain rfl : k = l.length := by omega
  simp +contextual -dsimp only [↓SD, SU, SB, simprocAttr, map_len, Nat.lt_irrefl]

theorem szProgram_ok (x : Program) (n : Int) (hx : Bulk.bulk x ≤ 4294967296) (h1 : -1 ≤ n) (h2 : n ≤ 4294967296) : SzOk 7 [av x, .int .i64 n] := by
 have hb : Bulk.bulk x.types + Bulk.bulk x.nodes + 1 ≤ 4294967296 := hx
 refine ir_laws_szProgram.H rfl ?_
 simp +contextual -dsimp only [↓SD, SU, SB, simprocAttr, ir_laws_szProgram, av_Program]
 (repeat' (first | intro _ | refine And.intro ?_ ?_))
 all_goals first | omega | (refine Goes.post [] ?_; simp +contextual -dsimp only [↓SD, SU, SB, simprocAttr, ir_laws_szProgram]; exact ⟨_, rfl, rfl, by omega, by omega⟩) | (refine aCallH_of [] (szTypeS_ok x.types _ (by omega)  (by omega) (by omega)) (by simp +contextual -dsimp only [↓SD, SU, SB, simprocAttr]) ?_; rintro r hp' ⟨m, rfl, rfl, hm1, hm2⟩; simp +contextual -dsimp only [↓SD, SU, SB, simprocAttr]; (repeat' (first | intro _ | refine And.intro ?_ ?_))) | (refine aCallH_of [] (szNodeS_ok x.nodes _ (by omega)  (by omega) (by omega)) (by simp +contextual -dsimp only [↓SD, SU, SB, simprocAttr]) ?_; rintro r hp' ⟨m, rfl, rfl, hm1, hm2⟩; simp +contextual -dsimp only [↓SD, SU, SB, simprocAttr]; (repeat' (first | intro _ | refine And.intro ?_ ?_)))
 all_goals first | omega | (refine Goes.post [] ?_; simp +contextual -dsimp only [↓SD, SU, SB, simprocAttr, ir_laws_szProgram]; exact ⟨_, rfl, rfl, by omega, by omega⟩) | (refine aCallH_of [] (szTypeS_ok x.types _ (by omega)  (by omega) (by omega)) (by simp +contextual -dsimp only [↓SD, SU, SB, simprocAttr]) ?_; rintro r hp' ⟨m, rfl, rfl, hm1, hm2⟩; simp +contextual -dsimp only [↓SD, SU, SB, simprocAttr]; (repeat' (first | intro _ | refine And.intro ?_ ?_))) | (refine aCallH_of [] (szNodeS_ok x.nodes _ (by omega)  (by omega) (by omega)) (by simp +contextual -dsimp only [↓SD, SU, SB, simprocAttr]) ?_; rintro r hp' ⟨m, rfl, rfl, hm1, hm2⟩; simp +contextual -dsimp only [↓SD, SU, SB, simprocAttr]; (repeat' (first | intro _ | refine And.intro ?_ ?_)))
 all_goals first | omega | (refine Goes.post [] ?_; simp +contextual -dsimp only [↓SD, SU, SB, simprocAttr, ir_laws_szProgram]; exact ⟨_, rfl, rfl, by omega, by omega⟩)

theorem toProgram_ok (x : Program) (hx : Bulk.bulk x ≤ 4294967296) : CallsF Tryz.prog 9 [av x] (av x) := by
 have hb : Bulk.bulk x.types + Bulk.bulk x.nodes + 1 ≤ 4294967296 := hx
 refine ir_laws_toProgram.F rfl (by simp; exact AVal.clean x) (AVal.clean x) ?_
 simp +contextual -dsimp only [↓SD, SU, SB, simprocAttr, ir_laws_toProgram, av_Program]
 (repeat' (first | intro _ | refine And.intro ?_ ?_))
 refine aCallK_of _ (toTypeS_ok x.types (by omega)) ?_
 simp +contextual -dsimp only [↓SD, SU, SB, simprocAttr]
 (repeat' (first | intro _ | refine And.intro ?_ ?_))
 refine aCallK_of _ (toNodeS_ok x.nodes (by omega)) ?_
 simp +contextual -dsimp only [↓SD, SU, SB, simprocAttr]

theorem eqProgram_ok (x : Program) (hx : Bulk.bulk x ≤ 4294967296) : CallsF Tryz.prog 11 [av x, av x] (.bool true) := by
 have hb : Bulk.bulk x.types + Bulk.bulk x.nodes + 1 ≤ 4294967296 := hx
 refine ir_laws_eqProgram.F rfl (by simp; exact AVal.clean x) (AvPure.bool _) ?_
 simp +contextual -dsimp only [↓SD, SU, SB, simprocAttr, ir_laws_eqProgram, av_Program, beq_self_eq_true]
 refine aCallK_of _ (eqTypeS_ok x.types (by omega)) ?_
 simp +contextual -dsimp only [↓SD, SU, SB, simprocAttr, beq_self_eq_true]
 refine aCallK_of _ (eqNodeS_ok x.nodes (by omega)) ?_
 simp +contextual -dsimp only [↓SD, SU, SB, simprocAttr, beq_self_eq_true]

end Go.Proofs.YtjifpdcflankpaaGreat
