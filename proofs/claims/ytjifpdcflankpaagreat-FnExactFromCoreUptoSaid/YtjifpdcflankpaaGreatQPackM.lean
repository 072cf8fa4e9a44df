/-
 THE GROUND OF DATA, in one text. Conditions: none.
-/
import Derived.Test.YtjifpdcflankpaaGreatQPackO
import Derived.Test.YtjifpdcflankpaaGreatQPackG
import Derived.Test.YtjifpdcflankpaaGreatQIrA

set_option linter.unusedVariables false
set_option linter.unusedSimpArgs false
set_option maxRecDepth 100000
namespace Go.Proofs.YtjifpdcflankpaaGreat
open Go.RowKit Go.Proofs.YtjifpdcflankpaaGreat.Av Go.Proofs.YtjifpdcflankpaaGreat.Ml
open Go.Proofs.YtjifpdcflankpaaGreat.Av.AVal (av)
open OVal (ov oh on)
open Mk (mkv cnt)

theorem toIntS_own (nm : Nat) (l : List Int) (hx : Bulk.bulk l ≤ 4294967296) : CallsH Tryz.prog 113 [.sl (l.map av)] [] (ToPost nm l) := by
 have hl := bulk_length l
 refine ir_laws_toIntS_H.H rfl ?_
 simp +contextual -dsimp only [↓SD, SU, SB, simprocAttr, ir_laws_toIntS_H, map_len]
 refine ⟨by omega, fun v => ?_⟩
 refine aLoop_of (X := Nat × (Nat → Nat)) (fun x => ⟨[(0, .sl (l.map av)), (3, .row 7 v l.length), (4, .int .i64 x.1)], (7, ⟨v, false, 3, 1, fillL l (AV.int .i64 0) x.1⟩) :: []⟩) (fun x => x.1 ≤ l.length) (fun x => l.length - x.1) (0, fun _ => 0) (Nat.zero_le _) (by simp +contextual -dsimp only [↓SD, SU, SB, simprocAttr]) (by simp +contextual -dsimp only [↓SD, SU, SB, simprocAttr, fillL_zero]) ?_
 rintro ⟨k, vs⟩ hk
 dsimp only at hk ⊢
 by_cases hlt : k < l.length
 ·have e := getD_map av l k .top hlt
  have hbk : Bulk.bulk l[k] ≤ 4294967296 := by have := bulk_mem (List.getElem_mem hlt); omega
  have e1 := fillL_len (AV.int .i64 0) hk
  have e2 := fillL_get (AV.int .i64 0) hlt .top
  have e3 := fillL_set (z := (AV.int .i64 0)) hlt rfl
  rw [av_int] at e3
  simp +contextual -dsimp only [↓SD, SU, SB, simprocAttr, map_len, hlt, e, av_int, e1, e2, e3]
  refine ⟨by omega, Goes.le ⟨(k + 1, vs), ⟨hlt, (by first | omega | (simp only; omega))⟩, rfl⟩ (by simp +contextual -dsimp only [↓SD, SU, SB, simprocAttr, Int.natCast_add]) (by simp +contextual -dsimp only [↓SD, SU, SB, simprocAttr, e2, e3])⟩
 ·obtain rfl : k = l.length := by omega
  simp +contextual -dsimp only [↓SD, SU, SB, simprocAttr, map_len, Nat.lt_irrefl, fillL_full]
  refine Goes.ren 2 7 nm (v := v) (n := l.length) rfl hg_eq rfl fun v' => ?_
  refine Goes.post (oh nm (fun _ => v') l) ?_
  rw [oh_flat (fun _ _ _ => rfl) (fun _ _ _ => rfl)]
  simp +contextual -dsimp only [↓SD, SU, SB, simprocAttr, hg_eq, hpLe_cons, hpLe_nil]
  exact ⟨rfl, _, rfl, (oh_flat (fun _ _ _ => rfl) (fun _ _ _ => rfl) nm (fun _ => v') l).symm⟩

set_option maxHeartbeats 1000000 in
theorem markIntS_own (nm : Nat) (vs : Nat → Nat) (l : List Int) (k : Int) (h0 : 1 ≤ k) (h1 : k + (Bulk.bulk l : Int) ≤ 4611686018427387904) : CallsH Tryz.prog 76 [ov nm vs l, .int .i64 k] (oh nm vs l) (MarkPost nm vs k l) := by
 refine ir_laws_markIntS.H rfl ?_
 simp +contextual -dsimp only [↓SD, SU, SB, simprocAttr, ir_laws_markIntS, ov_list]
 refine aLoop_of (X := Nat) (fun i => ⟨[(0, .row nm (vs nm) l.length), (1, .int .i64 (k + (cntL (l.take i) : Int))), (5, .int .i64 i)], oh nm vs (mkTo k l i)⟩) (fun i => i ≤ l.length) (fun i => l.length - i) 0 (Nat.zero_le _) (by simp +contextual -dsimp only [↓SD, SU, SB, simprocAttr, List.take_zero, cntL_nil, Int.natCast_zero, Int.add_zero]) (by rw [mkTo_zero]; exact OVal.self _ _ _) ?_
 rintro i hi
 by_cases hlt : i < l.length
 ·have hLi : i < (mkTo k l i).length := by rw [mkTo_len hi]; exact hlt
  have hLl : (mkTo k l i).length = l.length := mkTo_len hi
  have hgi := mkTo_get hlt hLi
  have hsf := mkTo_set (k := k) hlt
  have hroom := cntL_roomB hlt
  have htake := cntL_take hlt
  have hle := cntL_le l (i + 1)
  have e := ovL_get nm vs (mkTo k l i) hLi .top
  rw [hgi] at e
  have hr := oh_root nm vs (mkTo k l i)
  rw [show ∀ x : Int, ov (sub nm i) vs x = av x from fun _ => rfl, av_int] at e
  have hlen : (ovL nm vs 0 (mkTo k l i)).length = l.length := by rw [ovL_len, hLl]
  obtain ⟨x, hx⟩ : ∃ x, x = l[i] := ⟨_, rfl⟩
  obtain ⟨K, hK⟩ : ∃ K, K = k + (cntL (l.take i) : Int) := ⟨_, rfl⟩
  try rw [← hx] at e
  try rw [← hx] at hroom
  try rw [← hx] at htake
  rw [← hx] at hsf
  rw [← hK] at hsf
  rw [lbox] at hr
  obtain ⟨E, hE⟩ : ∃ E, E = ovL nm vs 0 (mkTo k l i) := ⟨_, rfl⟩
  have hcount : cnt x = 1 := rfl
  rw [hcount] at htake
  have hbx : Bulk.bulk x = 1 := rfl
  have hbl := bulk_length l
  have hKn : k + (cntL (l.take (i + 1)) : Int) = K + 1 := by rw [htake]; omega
  have hKb : K + (Bulk.bulk x : Int) ≤ 4611686018427387904 := by omega
  have hK1 : 1 ≤ K := by omega
  have hmk : ov (sub nm i) vs (mkv K x) = AV.int .i64 K := by rfl
  have hus : ovL nm vs 0 ((mkTo k l i).set i (mkv K x)) = E.set i (AV.int .i64 K) := by rw [ovL_set, hmk, ← hE]
  rw [← hE] at e hlen hr
  rw [← hK]
  have gs : ∀ a, (E.set i a).getD i .top = a := fun a => by rw [List.getD_eq_getElem?_getD, List.getElem?_set_self (by rw [hlen]; exact hlt)]; rfl
  have ls : ∀ a, (E.set i a).length = l.length := fun a => by rw [List.length_set, hlen]
  obtain ⟨H, hH⟩ : ∃ H, H = oh nm vs (mkTo k l i) := ⟨_, rfl⟩
  rw [← hH] at hr
  have hq : ∀ q, ¬ InT (sub nm i) q → q ≠ nm → hget H q = hget (oh nm vs (mkTo k l i)) q := fun q _ _ => by rw [hH]
  rw [show (AVal.n Int) = 1 from rfl] at hr
  rw [← hH]
  clear hH
  simp +contextual -dsimp only [↓SD, SU, SB, simprocAttr, hlt, hlen, e, gs, ls, List.set_set, ov_list, hr]
  repeat (refine And.intro (by omega) ?_)
  refine Goes.le ⟨i + 1, ⟨hlt, (by first | omega | (simp only; omega))⟩, rfl⟩ (by simp +contextual -dsimp only [↓SD, SU, SB, simprocAttr, Int.natCast_add, hKn]) ?_
  rw [← hsf]
  refine oh_upd hLi ?_ ?_ ?_
  ·repeat (first | exact hq | refine far_cons ?_)
  ·rw [lbox, hus]; first | exact hg_eq | exact hr
  ·exact trivial
 ·obtain rfl : i = l.length := by omega
  rw [mkTo_full, cntL_full]
  have hr := oh_root nm vs (mkL k l)
  have hs := OVal.self nm vs (mkL k l)
  obtain ⟨H, hH⟩ : ∃ H, H = oh nm vs (mkL k l) := ⟨_, rfl⟩
  rw [← hH]
  simp +contextual -dsimp only [↓SD, SU, SB, simprocAttr, Nat.lt_irrefl, map_len]
  refine Goes.post H ?_
  simp +contextual -dsimp only [↓SD, SU, SB, simprocAttr]
  exact ⟨by rw [hH]; exact hs, rfl, by rw [hH]; rfl⟩

set_option maxHeartbeats 1000000 in
theorem heldIntS_own (l : List Int) (k : Int) (h0 : 1 ≤ k) (h1 : k + (Bulk.bulk l : Int) ≤ 4611686018427387904) : CallsF Tryz.prog 79 [.sl ((mkL k l).map av), .int .i64 k] (.int .i64 (k + (cntL l : Int))) := by
 refine ir_laws_heldIntS.F rfl (by simp; exact ⟨lav_clean _, pint _⟩) (pint _) ?_
 simp +contextual -dsimp only [↓SD, SU, SB, simprocAttr, ir_laws_heldIntS, map_len, mkL_len]
 refine aLoop_of (X := Nat) (fun i => ⟨[(0, .sl ((mkL k l).map av)), (1, .int .i64 (k + (cntL (l.take i) : Int))), (5, .int .i64 i)], []⟩) (fun i => i ≤ l.length) (fun i => l.length - i) 0 (Nat.zero_le _) (by simp +contextual -dsimp only [↓SD, SU, SB, simprocAttr, List.take_zero, cntL_nil, Int.natCast_zero, Int.add_zero]) trivial ?_
 rintro i hi
 by_cases hlt : i < l.length
 ·have hroom := cntL_roomB hlt
  have htake := cntL_take hlt
  have e := getD_map av (mkL k l) i .top (by rw [mkL_len]; exact hlt)
  rw [mkL_get k l i hlt] at e
  rw [show (mkv (k + (cntL (l.take i) : Int)) l[i] : Int) = k + (cntL (l.take i) : Int) from rfl, av_int] at e
  obtain ⟨x, hx⟩ : ∃ x, x = l[i] := ⟨_, rfl⟩
  obtain ⟨K, hK⟩ : ∃ K, K = k + (cntL (l.take i) : Int) := ⟨_, rfl⟩
  rw [← hx] at hroom htake
  rw [← hK] at e ⊢
  have hcount : cnt x = 1 := rfl
  rw [hcount] at htake
  have hbx : Bulk.bulk x = 1 := rfl
  have hbl := bulk_length l
  have hKn : k + (cntL (l.take (i + 1)) : Int) = K + 1 := by rw [htake]; omega
  have hKb : K + (Bulk.bulk x : Int) ≤ 4611686018427387904 := by omega
  have hK1 : 1 ≤ K := by omega
  simp +contextual -dsimp only [↓SD, SU, SB, simprocAttr, hlt, map_len, mkL_len, e]
  repeat (refine And.intro (by omega) ?_)
  exact Goes.le ⟨i + 1, ⟨hlt, (by first | omega | (simp only; omega))⟩, rfl⟩ (by simp +contextual -dsimp only [↓SD, SU, SB, simprocAttr, Int.natCast_add, hKn]) trivial
 ·obtain rfl : i = l.length := by omega
  rw [cntL_full]
  simp +contextual -dsimp only [↓SD, SU, SB, simprocAttr, Nat.lt_irrefl, map_len, mkL_len]

end Go.Proofs.YtjifpdcflankpaaGreat

namespace Go.Proofs.YtjifpdcflankpaaGreat
open Go.RowKit Go.Proofs.YtjifpdcflankpaaGreat.Av Go.Proofs.YtjifpdcflankpaaGreat.Ml
open Go.Proofs.YtjifpdcflankpaaGreat.Av.AVal (av)
open OVal (ov oh on)
open Mk (mkv cnt)

instance : OVal PNode where
 ty := 94
 ov nm vs x := .agg [.int .i64 x.kind, .int .i64 x.n, .str x.s, ov (sub nm 0) vs x.kids]
 oh nm vs x := oh (sub nm 0) vs x.kids
 on nm x := on (sub nm 0) x.kids
 names nm vs x := OVal.names _ _ _
 inn nm x k h := (OVal.inn _ _ _ h).up
 self nm vs x := OVal.self _ _ _
 vdep nm vs vs' x h := by
  obtain ⟨a0, b0⟩ := OVal.vdep (sub nm 0) vs vs' x.kids (fun k hk => h k hk.up)
  simp only [a0, b0, and_self]
 lend nm vs x hp h := by
  have h0 := OVal.lend (sub nm 0) vs x.kids hp h
  show AV.agg [.int .i64 x.kind, .int .i64 x.n, .str x.s, (ov (sub nm 0) vs x.kids).pur (frzL (on (sub nm 0) x.kids) hp)] = av x
  rw [h0]; rfl
 dep nm vs x hp hp' h := by
  have h0 := OVal.dep (sub nm 0) vs x.kids hp hp' (fun k hk => h k hk.up)
  show AV.agg [.int .i64 x.kind, .int .i64 x.n, .str x.s, (ov (sub nm 0) vs x.kids).pur hp] = AV.agg [.int .i64 x.kind, .int .i64 x.n, .str x.s, (ov (sub nm 0) vs x.kids).pur hp']
  rw [h0]
 free nm vs x p h := by exact OVal.free _ _ _ p h
 cfree nm vs x y hx := by
  simp only [AV.cells, List.mem_cons, List.not_mem_nil, or_false] at hx
  rcases hx with rfl | rfl | rfl | rfl <;> rfl
 ok _ _ _ := rfl
 agg _ _ _ := rfl
 len _ _ _ := rfl
theorem ov_PNode (nm : Nat) (vs : Nat → Nat) (x : PNode) : ov nm vs x = .agg [.int .i64 x.kind, .int .i64 x.n, .str x.s, .row (sub nm 0) (vs (sub nm 0)) x.kids.length] := eqq rfl
theorem oh_PNode (nm : Nat) (vs : Nat → Nat) (x : PNode) : oh nm vs x = oh (sub nm 0) vs x.kids := rfl

instance : Mk PNode := ⟨fun k x => ⟨k, k + 1, markS (k + 1 + 1), mkL (k + 1 + 1 + 1) x.kids⟩, fun x => 3 + cntL x.kids⟩
theorem mk_PNode (k : Int) (x : PNode) : mkv k x = ⟨k, k + 1, markS (k + 1 + 1), mkL (k + 1 + 1 + 1) x.kids⟩ := rfl
theorem cnt_PNode (x : PNode) : cnt x = 3 + cntL x.kids := rfl
instance : MkB PNode := ⟨fun x => by
 have hbx : Bulk.bulk x = Bulk.bulk x.kind + Bulk.bulk x.n + Bulk.bulk x.s + Bulk.bulk x.kids + 1 := rfl
 have hbx_0 : Bulk.bulk x.kind = 1 := rfl
 have hbx_1 : Bulk.bulk x.n = 1 := rfl
 have hbx_2 : Bulk.bulk x.s = x.s.size + 1 := rfl
 have hbx_3 := cntL_bulk x.kids
 rw [cnt_PNode]
 omega⟩

theorem toPNode_own (nm : Nat) (x : PNode) (hx : Bulk.bulk x ≤ 4294967296) : CallsH Tryz.prog 191 [av x] [] (ToPost nm x) := by
 have hb : Bulk.bulk x.kind + Bulk.bulk x.n + Bulk.bulk x.s + Bulk.bulk x.kids + 1 ≤ 4294967296 := hx
 refine ir_laws_toPNode_H.H rfl ?_
 simp +contextual -dsimp only [↓SD, SU, SB, simprocAttr, ir_laws_toPNode_H, av_PNode]
 (repeat' (first | intro _ | refine And.intro ?_ ?_))
 refine aCallH_gen [] (toIntS_own (sub nm 0) x.kids (by omega)) (by simp +contextual -dsimp only [↓SD, SU, SB, simprocAttr]) ?_
 rintro r hp' ⟨v0, rfl, rfl⟩ H0 hH0
 rw [hrest_no] at hH0
 have hold0 := old_get hH0
 have ho0_0 : hpLe H0 (oh (sub nm 0) v0 x.kids) := by rw [hH0]; exact hpLe_l (OVal.self _ _ _)
 have hr0_0 := hpLe_root ho0_0
 simp +contextual -dsimp only [↓SD, SU, SB, simprocAttr, ov_list, low_beq, hold0, hr0_0]
 refine Goes.post (oh nm v0 x) ?_
 simp +contextual -dsimp only [↓SD, SU, SB, simprocAttr, low_beq, hold0, false_and, hr0_0]
 refine ⟨by rw [oh_PNode]; exact (by repeat (first | exact ho0_0 | refine hpLe_low ?_ (by omega))), v0, ?_, rfl⟩
 rw [ov_PNode]

theorem toPNodeS_own (nm : Nat) (l : List PNode) (hx : Bulk.bulk l ≤ 4294967296) : CallsH Tryz.prog 179 [.sl (l.map av)] [] (ToPost nm l) := by
 have hl := bulk_length l
 refine ir_laws_toPNodeS_H.H rfl ?_
 simp +contextual -dsimp only [↓SD, SU, SB, simprocAttr, ir_laws_toPNodeS_H, map_len]
 refine ⟨by omega, fun v => ?_⟩
 refine aLoop_of (X := Nat × (Nat → Nat)) (fun x => ⟨[(0, .sl (l.map av)), (3, .row 7 v l.length), (4, .int .i64 x.1)], (7, ⟨v, false, 94, 4, fillO nm x.2 l (AV.agg [.int .i64 0, .int .i64 0, .str (bs []), .nils]) x.1⟩) :: ohL nm x.2 0 (l.take x.1)⟩) (fun x => x.1 ≤ l.length) (fun x => l.length - x.1) (0, fun _ => 0) (Nat.zero_le _) (by simp +contextual -dsimp only [↓SD, SU, SB, simprocAttr]) (by simp +contextual -dsimp only [↓SD, SU, SB, simprocAttr, fillO_zero, List.take_zero, ohL_nil]) ?_
 rintro ⟨k, vs⟩ hk
 dsimp only at hk ⊢
 by_cases hlt : k < l.length
 ·have e := getD_map av l k .top hlt
  have hbk : Bulk.bulk l[k] ≤ 4294967296 := by have := bulk_mem (List.getElem_mem hlt); omega
  have e1 := fillO_len (nm := nm) (vs := vs) (AV.agg [.int .i64 0, .int .i64 0, .str (bs []), .nils]) hk
  have e2 := fillO_get (nm := nm) (vs := vs) (AV.agg [.int .i64 0, .int .i64 0, .str (bs []), .nils]) hlt .top
  obtain ⟨H, hH⟩ : ∃ H, H = ((7, ⟨v, false, 94, 4, fillO nm vs l (AV.agg [.int .i64 0, .int .i64 0, .str (bs []), .nils]) k⟩) :: ohL nm vs 0 (l.take k) : Hp) := ⟨_, rfl⟩
  have h7 : hget H 7 = some ⟨v, false, 94, 4, fillO nm vs l (AV.agg [.int .i64 0, .int .i64 0, .str (bs []), .nils]) k⟩ := by rw [hH]; exact hg_eq
  rw [← hH]
  simp +contextual -dsimp only [↓SD, SU, SB, simprocAttr, map_len, hlt, e, av_PNode, h7]
  have C := toPNode_own (sub nm k) l[k] hbk
  rw [av_PNode] at C
  refine aCallH_gen [] C (by simp +contextual -dsimp only [↓SD, SU, SB, simprocAttr]) ?_
  rintro r hp' ⟨v1, rfl, rfl⟩ H1 hH1
  have h71 : hget H1 7 = some ⟨v, false, 94, 4, fillO nm vs l (AV.agg [.int .i64 0, .int .i64 0, .str (bs []), .nils]) k⟩ := by
   rw [hH1, hrest_no, hg_app_r (oh_ne fun h' => by have := h'.ge; omega)]; exact h7
  have e3 := fillO_set (nm := nm) (vs := v1) (vs' := vs) (z := (AV.agg [.int .i64 0, .int .i64 0, .str (bs []), .nils])) hlt
  rw [ov_PNode] at e3
  simp +contextual -dsimp only [↓SD, SU, SB, simprocAttr, map_len, hlt, e, av_PNode, ov_PNode, h71, e1, e2, e3]
  rw [hH] at hH1
  refine ⟨by omega, Goes.le ⟨(k + 1, glue (sub nm k) v1 vs), ⟨hlt, (by first | omega | (simp only; omega))⟩, rfl⟩ (by simp +contextual -dsimp only [↓SD, SU, SB, simprocAttr, Int.natCast_add]) ?_⟩
  exact fill_le hlt (by omega) hH1
 ·obtain rfl : k = l.length := by omega
  rw [List.take_length]
  have ef : fillO nm vs l (AV.agg [.int .i64 0, .int .i64 0, .str (bs []), .nils]) l.length = ovL nm vs 0 l := by simp [fillO]
  rw [ef]
  obtain ⟨H, hH⟩ : ∃ H, H = ((7, ⟨v, false, 94, 4, ovL nm vs 0 l⟩) :: ohL nm vs 0 l : Hp) := ⟨_, rfl⟩
  rw [← hH]
  simp +contextual -dsimp only [↓SD, SU, SB, simprocAttr, map_len, Nat.lt_irrefl]
  rw [hH]
  refine Goes.ren 2 7 nm (v := v) (n := l.length) rfl hg_eq rfl fun v' => ?_
  obtain ⟨H', hH'⟩ : ∃ H', H' = ((nm, ⟨v', false, 94, 4, ovL nm vs 0 l⟩) :: hrest [7] ((7, ⟨v, false, 94, 4, ovL nm vs 0 l⟩) :: ohL nm vs 0 l) : Hp) := ⟨_, rfl⟩
  have hr : hget H' nm = some ⟨v', false, 94, 4, ovL nm vs 0 l⟩ := by rw [hH']; exact hg_eq
  have hle := full_le (α := PNode) (nm := nm) (j := 7) (l := l) (vs := vs) (by omega) hH'
  dsimp only
  rw [← hH']
  refine Goes.post (oh nm (glue nm (fun k => if k = nm then v' else vs k) vs) l) ?_
  simp +contextual -dsimp only [↓SD, SU, SB, simprocAttr, hr]
  exact ⟨hle, _, (oh_full l).1.symm, rfl⟩

set_option maxHeartbeats 1000000 in
theorem markPNodeS_own (nm : Nat) (vs : Nat → Nat) (l : List PNode) (k : Int) (h0 : 1 ≤ k) (h1 : k + (Bulk.bulk l : Int) ≤ 4611686018427387904) : CallsH Tryz.prog 137 [ov nm vs l, .int .i64 k] (oh nm vs l) (MarkPost nm vs k l) := by
 refine ir_laws_markPNodeS.H rfl ?_
 simp +contextual -dsimp only [↓SD, SU, SB, simprocAttr, ir_laws_markPNodeS, ov_list]
 refine aLoop_of (X := Nat) (fun i => ⟨[(0, .row nm (vs nm) l.length), (1, .int .i64 (k + (cntL (l.take i) : Int))), (5, .int .i64 i)], oh nm vs (mkTo k l i)⟩) (fun i => i ≤ l.length) (fun i => l.length - i) 0 (Nat.zero_le _) (by simp +contextual -dsimp only [↓SD, SU, SB, simprocAttr, List.take_zero, cntL_nil, Int.natCast_zero, Int.add_zero]) (by rw [mkTo_zero]; exact OVal.self _ _ _) ?_
 rintro i hi
 by_cases hlt : i < l.length
 ·have hLi : i < (mkTo k l i).length := by rw [mkTo_len hi]; exact hlt
  have hLl : (mkTo k l i).length = l.length := mkTo_len hi
  have hgi := mkTo_get hlt hLi
  have hsf := mkTo_set (k := k) hlt
  have hroom := cntL_roomB hlt
  have htake := cntL_take hlt
  have hle := cntL_le l (i + 1)
  have e := ovL_get nm vs (mkTo k l i) hLi .top
  rw [hgi, ov_PNode] at e
  have hel := oh_elem (nm := nm) (vs := vs) hLi
  rw [hgi, oh_PNode] at hel
  have hr := oh_root nm vs (mkTo k l i)
  have hlen : (ovL nm vs 0 (mkTo k l i)).length = l.length := by rw [ovL_len, hLl]
  obtain ⟨x, hx⟩ : ∃ x, x = l[i] := ⟨_, rfl⟩
  obtain ⟨K, hK⟩ : ∃ K, K = k + (cntL (l.take i) : Int) := ⟨_, rfl⟩
  try rw [← hx] at e
  try rw [← hx] at hroom
  try rw [← hx] at htake
  try rw [← hx] at hel
  rw [← hx] at hsf
  rw [← hK] at hsf
  rw [lbox] at hr
  obtain ⟨E, hE⟩ : ∃ E, E = ovL nm vs 0 (mkTo k l i) := ⟨_, rfl⟩
  have hcount : cnt x = 3 + cntL x.kids := rfl
  rw [hcount] at htake
  have hbx : Bulk.bulk x = Bulk.bulk x.kind + Bulk.bulk x.n + Bulk.bulk x.s + Bulk.bulk x.kids + 1 := rfl
  have hbx_0 : Bulk.bulk x.kind = 1 := rfl
  have hbx_1 : Bulk.bulk x.n = 1 := rfl
  have hbx_2 : Bulk.bulk x.s = x.s.size + 1 := rfl
  have hbx_3 := cntL_bulk x.kids
  have hbl := bulk_length l
  have hKn : k + (cntL (l.take (i + 1)) : Int) = K + 1 + 1 + 1 + (cntL x.kids : Int) := by rw [htake]; omega
  have hKb : K + (Bulk.bulk x : Int) ≤ 4611686018427387904 := by omega
  have hK1 : 1 ≤ K := by omega
  have hmk : ov (sub nm i) vs (mkv K x) = AV.agg [.int .i64 (K), .int .i64 (K + 1), .str (markS (K + 1 + 1)), .row (sub (sub nm i) 0) (vs (sub (sub nm i) 0)) x.kids.length] := by rw [mk_PNode, ov_PNode]; simp only [mkL_len]
  have hus : ovL nm vs 0 ((mkTo k l i).set i (mkv K x)) = E.set i (AV.agg [.int .i64 (K), .int .i64 (K + 1), .str (markS (K + 1 + 1)), .row (sub (sub nm i) 0) (vs (sub (sub nm i) 0)) x.kids.length]) := by rw [ovL_set, hmk, ← hE]
  rw [← hE] at e hlen hr
  rw [← hK]
  have gs : ∀ a, (E.set i a).getD i .top = a := fun a => by rw [List.getD_eq_getElem?_getD, List.getElem?_set_self (by rw [hlen]; exact hlt)]; rfl
  have ls : ∀ a, (E.set i a).length = l.length := fun a => by rw [List.length_set, hlen]
  obtain ⟨H, hH⟩ : ∃ H, H = oh nm vs (mkTo k l i) := ⟨_, rfl⟩
  rw [← hH] at hr hel
  have hq : ∀ q, ¬ InT (sub nm i) q → q ≠ nm → hget H q = hget (oh nm vs (mkTo k l i)) q := fun q _ _ => by rw [hH]
  rw [show (AVal.n PNode) = 4 from rfl] at hr
  rw [← hH]
  clear hH
  have hl0 := hel
  have hk0 := hpLe_root hl0
  have hn0 : ¬ InT (sub (sub nm i) 0) nm := part_ne
  have hb0 : (nm == sub (sub nm i) 0) = false := part_beq
  simp +contextual -dsimp only [↓SD, SU, SB, simprocAttr, hlt, hlen, e, gs, ls, List.set_set, ov_list, false_and, hr, hk0, hb0]
  repeat (refine And.intro (by omega) ?_)
  refine aCallK_of _ (markText_at (K + 1 + 1) (by omega) (by omega)) ?_
  simp +contextual -dsimp only [↓SD, SU, SB, simprocAttr, hlt, hlen, e, gs, ls, List.set_set, ov_list, false_and, hr, hk0, hb0]
  repeat (refine And.intro (by omega) ?_)
  refine aCallH_gen (on (sub (sub nm i) 0) x.kids) (markIntS_own (sub (sub nm i) 0) vs x.kids _ (by omega) (by omega)) (hsel_on (by repeat (first | exact hl0 | refine hpLe_skip hn0 ?_))) ?_
  rintro r hp' ⟨rfl, rfl⟩ H0 hH0
  have hr0 := part_root hH0 hn0 hg_eq
  have hq0 := part_far (X := fun q => hget (oh nm vs (mkTo k l i)) q) hH0 (by repeat (first | exact hq | refine far_cons ?_))
  have hd0 := part_done hH0
  rw [cnt_list]
  simp +contextual -dsimp only [↓SD, SU, SB, simprocAttr, hlt, hlen, e, gs, ls, List.set_set, ov_list, false_and, hr0, hb0]
  repeat (refine And.intro (by omega) ?_)
  refine Goes.le ⟨i + 1, ⟨hlt, (by first | omega | (simp only; omega))⟩, rfl⟩ (by simp +contextual -dsimp only [↓SD, SU, SB, simprocAttr, Int.natCast_add, hKn]) ?_
  rw [← hsf]
  refine oh_upd hLi ?_ ?_ ?_
  ·repeat (first | exact hq0 | refine far_cons ?_)
  ·rw [lbox, hus]; first | exact hg_eq | exact hr0
  ·rw [oh_PNode]; exact (by repeat (first | exact hd0 | refine hpLe_skip hn0 ?_))
 ·obtain rfl : i = l.length := by omega
  rw [mkTo_full, cntL_full]
  have hr := oh_root nm vs (mkL k l)
  have hs := OVal.self nm vs (mkL k l)
  obtain ⟨H, hH⟩ : ∃ H, H = oh nm vs (mkL k l) := ⟨_, rfl⟩
  rw [← hH]
  simp +contextual -dsimp only [↓SD, SU, SB, simprocAttr, Nat.lt_irrefl, map_len]
  refine Goes.post H ?_
  simp +contextual -dsimp only [↓SD, SU, SB, simprocAttr]
  exact ⟨by rw [hH]; exact hs, rfl, by rw [hH]; rfl⟩

set_option maxHeartbeats 1000000 in
theorem heldPNodeS_own (l : List PNode) (k : Int) (h0 : 1 ≤ k) (h1 : k + (Bulk.bulk l : Int) ≤ 4611686018427387904) : CallsF Tryz.prog 139 [.sl ((mkL k l).map av), .int .i64 k] (.int .i64 (k + (cntL l : Int))) := by
 refine ir_laws_heldPNodeS.F rfl (by simp; exact ⟨lav_clean _, pint _⟩) (pint _) ?_
 simp +contextual -dsimp only [↓SD, SU, SB, simprocAttr, ir_laws_heldPNodeS, map_len, mkL_len]
 refine aLoop_of (X := Nat) (fun i => ⟨[(0, .sl ((mkL k l).map av)), (1, .int .i64 (k + (cntL (l.take i) : Int))), (5, .int .i64 i)], []⟩) (fun i => i ≤ l.length) (fun i => l.length - i) 0 (Nat.zero_le _) (by simp +contextual -dsimp only [↓SD, SU, SB, simprocAttr, List.take_zero, cntL_nil, Int.natCast_zero, Int.add_zero]) trivial ?_
 rintro i hi
 by_cases hlt : i < l.length
 ·have hroom := cntL_roomB hlt
  have htake := cntL_take hlt
  have e := getD_map av (mkL k l) i .top (by rw [mkL_len]; exact hlt)
  rw [mkL_get k l i hlt] at e
  rw [mk_PNode, av_PNode] at e
  obtain ⟨x, hx⟩ : ∃ x, x = l[i] := ⟨_, rfl⟩
  obtain ⟨K, hK⟩ : ∃ K, K = k + (cntL (l.take i) : Int) := ⟨_, rfl⟩
  rw [← hx] at hroom htake e
  rw [← hK] at e ⊢
  have hcount : cnt x = 3 + cntL x.kids := rfl
  rw [hcount] at htake
  have hbx : Bulk.bulk x = Bulk.bulk x.kind + Bulk.bulk x.n + Bulk.bulk x.s + Bulk.bulk x.kids + 1 := rfl
  have hbx_0 : Bulk.bulk x.kind = 1 := rfl
  have hbx_1 : Bulk.bulk x.n = 1 := rfl
  have hbx_2 : Bulk.bulk x.s = x.s.size + 1 := rfl
  have hbx_3 := cntL_bulk x.kids
  have hbl := bulk_length l
  have hKn : k + (cntL (l.take (i + 1)) : Int) = K + 1 + 1 + 1 + (cntL x.kids : Int) := by rw [htake]; omega
  have hKb : K + (Bulk.bulk x : Int) ≤ 4611686018427387904 := by omega
  have hK1 : 1 ≤ K := by omega
  simp +contextual -dsimp only [↓SD, SU, SB, simprocAttr, hlt, map_len, mkL_len, e]
  repeat (refine And.intro (by omega) ?_)
  refine aCallK_of _ (markText_at (K + 1 + 1) (by omega) (by omega)) ?_
  simp +contextual -dsimp only [↓SD, SU, SB, simprocAttr, hlt, map_len, mkL_len, e]
  repeat (refine And.intro (by omega) ?_)
  refine aCallK_of _ (heldIntS_own x.kids (K + 1 + 1 + 1) (by omega) (by omega)) ?_
  have g0 : ¬ K + 1 + 1 + 1 + (cntL x.kids : Int) < 0 := by omega
  simp +contextual -dsimp only [↓SD, SU, SB, simprocAttr, hlt, map_len, mkL_len, e, g0]
  repeat (refine And.intro (by omega) ?_)
  exact Goes.le ⟨i + 1, ⟨hlt, (by first | omega | (simp only; omega))⟩, rfl⟩ (by simp +contextual -dsimp only [↓SD, SU, SB, simprocAttr, Int.natCast_add, hKn]) trivial
 ·obtain rfl : i = l.length := by omega
  rw [cntL_full]
  simp +contextual -dsimp only [↓SD, SU, SB, simprocAttr, Nat.lt_irrefl, map_len, mkL_len]

instance : OVal Pat where
 ty := 89
 ov nm vs x := .agg [ov (sub nm 0) vs x.nodes]
 oh nm vs x := oh (sub nm 0) vs x.nodes
 on nm x := on (sub nm 0) x.nodes
 names nm vs x := OVal.names _ _ _
 inn nm x k h := (OVal.inn _ _ _ h).up
 self nm vs x := OVal.self _ _ _
 vdep nm vs vs' x h := by
  obtain ⟨a0, b0⟩ := OVal.vdep (sub nm 0) vs vs' x.nodes (fun k hk => h k hk.up)
  simp only [a0, b0, and_self]
 lend nm vs x hp h := by
  have h0 := OVal.lend (sub nm 0) vs x.nodes hp h
  show AV.agg [(ov (sub nm 0) vs x.nodes).pur (frzL (on (sub nm 0) x.nodes) hp)] = av x
  rw [h0]; rfl
 dep nm vs x hp hp' h := by
  have h0 := OVal.dep (sub nm 0) vs x.nodes hp hp' (fun k hk => h k hk.up)
  show AV.agg [(ov (sub nm 0) vs x.nodes).pur hp] = AV.agg [(ov (sub nm 0) vs x.nodes).pur hp']
  rw [h0]
 free nm vs x p h := by exact OVal.free _ _ _ p h
 cfree nm vs x y hx := by
  simp only [AV.cells, List.mem_cons, List.not_mem_nil, or_false] at hx
  subst hx <;> rfl
 ok _ _ _ := rfl
 agg _ _ _ := rfl
 len _ _ _ := rfl
theorem ov_Pat (nm : Nat) (vs : Nat → Nat) (x : Pat) : ov nm vs x = .agg [.row (sub nm 0) (vs (sub nm 0)) x.nodes.length] := eqq rfl
theorem oh_Pat (nm : Nat) (vs : Nat → Nat) (x : Pat) : oh nm vs x = oh (sub nm 0) vs x.nodes := rfl

instance : Mk Pat := ⟨fun k x => ⟨mkL (k) x.nodes⟩, fun x => cntL x.nodes⟩
theorem mk_Pat (k : Int) (x : Pat) : mkv k x = ⟨mkL (k) x.nodes⟩ := rfl
theorem cnt_Pat (x : Pat) : cnt x = cntL x.nodes := rfl
instance : MkB Pat := ⟨fun x => by
 have hbx : Bulk.bulk x = Bulk.bulk x.nodes + 1 := rfl
 have hbx_0 := cntL_bulk x.nodes
 rw [cnt_Pat]
 omega⟩

theorem toPat_own (nm : Nat) (x : Pat) (hx : Bulk.bulk x ≤ 4294967296) : CallsH Tryz.prog 157 [av x] [] (ToPost nm x) := by
 have hb : Bulk.bulk x.nodes + 1 ≤ 4294967296 := hx
 refine ir_laws_toPat_H.H rfl ?_
 simp +contextual -dsimp only [↓SD, SU, SB, simprocAttr, ir_laws_toPat_H, av_Pat]
 (repeat' (first | intro _ | refine And.intro ?_ ?_))
 refine aCallH_gen [] (toPNodeS_own (sub nm 0) x.nodes (by omega)) (by simp +contextual -dsimp only [↓SD, SU, SB, simprocAttr]) ?_
 rintro r hp' ⟨v0, rfl, rfl⟩ H0 hH0
 rw [hrest_no] at hH0
 have hold0 := old_get hH0
 have ho0_0 : hpLe H0 (oh (sub nm 0) v0 x.nodes) := by rw [hH0]; exact hpLe_l (OVal.self _ _ _)
 have hr0_0 := hpLe_root ho0_0
 simp +contextual -dsimp only [↓SD, SU, SB, simprocAttr, ov_list, low_beq, hold0, hr0_0]
 refine Goes.post (oh nm v0 x) ?_
 simp +contextual -dsimp only [↓SD, SU, SB, simprocAttr, low_beq, hold0, false_and, hr0_0]
 refine ⟨by rw [oh_Pat]; exact (by repeat (first | exact ho0_0 | refine hpLe_low ?_ (by omega))), v0, ?_, rfl⟩
 rw [ov_Pat]

theorem toPatS_own (nm : Nat) (l : List Pat) (hx : Bulk.bulk l ≤ 4294967296) : CallsH Tryz.prog 114 [.sl (l.map av)] [] (ToPost nm l) := by
 have hl := bulk_length l
 refine ir_laws_toPatS_H.H rfl ?_
 simp +contextual -dsimp only [↓SD, SU, SB, simprocAttr, ir_laws_toPatS_H, map_len]
 refine ⟨by omega, fun v => ?_⟩
 refine aLoop_of (X := Nat × (Nat → Nat)) (fun x => ⟨[(0, .sl (l.map av)), (3, .row 7 v l.length), (4, .int .i64 x.1)], (7, ⟨v, false, 89, 1, fillO nm x.2 l (AV.agg [.nils]) x.1⟩) :: ohL nm x.2 0 (l.take x.1)⟩) (fun x => x.1 ≤ l.length) (fun x => l.length - x.1) (0, fun _ => 0) (Nat.zero_le _) (by simp +contextual -dsimp only [↓SD, SU, SB, simprocAttr]) (by simp +contextual -dsimp only [↓SD, SU, SB, simprocAttr, fillO_zero, List.take_zero, ohL_nil]) ?_
 rintro ⟨k, vs⟩ hk
 dsimp only at hk ⊢
 by_cases hlt : k < l.length
 ·have e := getD_map av l k .top hlt
  have hbk : Bulk.bulk l[k] ≤ 4294967296 := by have := bulk_mem (List.getElem_mem hlt); omega
  have e1 := fillO_len (nm := nm) (vs := vs) (AV.agg [.nils]) hk
  have e2 := fillO_get (nm := nm) (vs := vs) (AV.agg [.nils]) hlt .top
  obtain ⟨H, hH⟩ : ∃ H, H = ((7, ⟨v, false, 89, 1, fillO nm vs l (AV.agg [.nils]) k⟩) :: ohL nm vs 0 (l.take k) : Hp) := ⟨_, rfl⟩
  have h7 : hget H 7 = some ⟨v, false, 89, 1, fillO nm vs l (AV.agg [.nils]) k⟩ := by rw [hH]; exact hg_eq
  rw [← hH]
  simp +contextual -dsimp only [↓SD, SU, SB, simprocAttr, map_len, hlt, e, av_Pat, h7]
  have C := toPat_own (sub nm k) l[k] hbk
  rw [av_Pat] at C
  refine aCallH_gen [] C (by simp +contextual -dsimp only [↓SD, SU, SB, simprocAttr]) ?_
  rintro r hp' ⟨v1, rfl, rfl⟩ H1 hH1
  have h71 : hget H1 7 = some ⟨v, false, 89, 1, fillO nm vs l (AV.agg [.nils]) k⟩ := by
   rw [hH1, hrest_no, hg_app_r (oh_ne fun h' => by have := h'.ge; omega)]; exact h7
  have e3 := fillO_set (nm := nm) (vs := v1) (vs' := vs) (z := (AV.agg [.nils])) hlt
  rw [ov_Pat] at e3
  simp +contextual -dsimp only [↓SD, SU, SB, simprocAttr, map_len, hlt, e, av_Pat, ov_Pat, h71, e1, e2, e3]
  rw [hH] at hH1
  refine ⟨by omega, Goes.le ⟨(k + 1, glue (sub nm k) v1 vs), ⟨hlt, (by first | omega | (simp only; omega))⟩, rfl⟩ (by simp +contextual -dsimp only [↓SD, SU, SB, simprocAttr, Int.natCast_add]) ?_⟩
  exact fill_le hlt (by omega) hH1
 ·obtain rfl : k = l.length := by omega
  rw [List.take_length]
  have ef : fillO nm vs l (AV.agg [.nils]) l.length = ovL nm vs 0 l := by simp [fillO]
  rw [ef]
  obtain ⟨H, hH⟩ : ∃ H, H = ((7, ⟨v, false, 89, 1, ovL nm vs 0 l⟩) :: ohL nm vs 0 l : Hp) := ⟨_, rfl⟩
  rw [← hH]
  simp +contextual -dsimp only [↓SD, SU, SB, simprocAttr, map_len, Nat.lt_irrefl]
  rw [hH]
  refine Goes.ren 2 7 nm (v := v) (n := l.length) rfl hg_eq rfl fun v' => ?_
  obtain ⟨H', hH'⟩ : ∃ H', H' = ((nm, ⟨v', false, 89, 1, ovL nm vs 0 l⟩) :: hrest [7] ((7, ⟨v, false, 89, 1, ovL nm vs 0 l⟩) :: ohL nm vs 0 l) : Hp) := ⟨_, rfl⟩
  have hr : hget H' nm = some ⟨v', false, 89, 1, ovL nm vs 0 l⟩ := by rw [hH']; exact hg_eq
  have hle := full_le (α := Pat) (nm := nm) (j := 7) (l := l) (vs := vs) (by omega) hH'
  dsimp only
  rw [← hH']
  refine Goes.post (oh nm (glue nm (fun k => if k = nm then v' else vs k) vs) l) ?_
  simp +contextual -dsimp only [↓SD, SU, SB, simprocAttr, hr]
  exact ⟨hle, _, (oh_full l).1.symm, rfl⟩

set_option maxHeartbeats 1000000 in
theorem markPatS_own (nm : Nat) (vs : Nat → Nat) (l : List Pat) (k : Int) (h0 : 1 ≤ k) (h1 : k + (Bulk.bulk l : Int) ≤ 4611686018427387904) : CallsH Tryz.prog 77 [ov nm vs l, .int .i64 k] (oh nm vs l) (MarkPost nm vs k l) := by
 refine ir_laws_markPatS.H rfl ?_
 simp +contextual -dsimp only [↓SD, SU, SB, simprocAttr, ir_laws_markPatS, ov_list]
 refine aLoop_of (X := Nat) (fun i => ⟨[(0, .row nm (vs nm) l.length), (1, .int .i64 (k + (cntL (l.take i) : Int))), (5, .int .i64 i)], oh nm vs (mkTo k l i)⟩) (fun i => i ≤ l.length) (fun i => l.length - i) 0 (Nat.zero_le _) (by simp +contextual -dsimp only [↓SD, SU, SB, simprocAttr, List.take_zero, cntL_nil, Int.natCast_zero, Int.add_zero]) (by rw [mkTo_zero]; exact OVal.self _ _ _) ?_
 rintro i hi
 by_cases hlt : i < l.length
 ·have hLi : i < (mkTo k l i).length := by rw [mkTo_len hi]; exact hlt
  have hLl : (mkTo k l i).length = l.length := mkTo_len hi
  have hgi := mkTo_get hlt hLi
  have hsf := mkTo_set (k := k) hlt
  have hroom := cntL_roomB hlt
  have htake := cntL_take hlt
  have hle := cntL_le l (i + 1)
  have e := ovL_get nm vs (mkTo k l i) hLi .top
  rw [hgi, ov_Pat] at e
  have hel := oh_elem (nm := nm) (vs := vs) hLi
  rw [hgi, oh_Pat] at hel
  have hr := oh_root nm vs (mkTo k l i)
  have hlen : (ovL nm vs 0 (mkTo k l i)).length = l.length := by rw [ovL_len, hLl]
  obtain ⟨x, hx⟩ : ∃ x, x = l[i] := ⟨_, rfl⟩
  obtain ⟨K, hK⟩ : ∃ K, K = k + (cntL (l.take i) : Int) := ⟨_, rfl⟩
  try rw [← hx] at e
  try rw [← hx] at hroom
  try rw [← hx] at htake
  try rw [← hx] at hel
  rw [← hx] at hsf
  rw [← hK] at hsf
  rw [lbox] at hr
  obtain ⟨E, hE⟩ : ∃ E, E = ovL nm vs 0 (mkTo k l i) := ⟨_, rfl⟩
  have hcount : cnt x = cntL x.nodes := rfl
  rw [hcount] at htake
  have hbx : Bulk.bulk x = Bulk.bulk x.nodes + 1 := rfl
  have hbx_0 := cntL_bulk x.nodes
  have hbl := bulk_length l
  have hKn : k + (cntL (l.take (i + 1)) : Int) = K + (cntL x.nodes : Int) := by rw [htake]; omega
  have hKb : K + (Bulk.bulk x : Int) ≤ 4611686018427387904 := by omega
  have hK1 : 1 ≤ K := by omega
  have hmk : ov (sub nm i) vs (mkv K x) = AV.agg [.row (sub (sub nm i) 0) (vs (sub (sub nm i) 0)) x.nodes.length] := by rw [mk_Pat, ov_Pat]; simp only [mkL_len]
  have hus : ovL nm vs 0 ((mkTo k l i).set i (mkv K x)) = E.set i (AV.agg [.row (sub (sub nm i) 0) (vs (sub (sub nm i) 0)) x.nodes.length]) := by rw [ovL_set, hmk, ← hE]
  rw [← hE] at e hlen hr
  rw [← hK]
  have gs : ∀ a, (E.set i a).getD i .top = a := fun a => by rw [List.getD_eq_getElem?_getD, List.getElem?_set_self (by rw [hlen]; exact hlt)]; rfl
  have ls : ∀ a, (E.set i a).length = l.length := fun a => by rw [List.length_set, hlen]
  obtain ⟨H, hH⟩ : ∃ H, H = oh nm vs (mkTo k l i) := ⟨_, rfl⟩
  rw [← hH] at hr hel
  have hq : ∀ q, ¬ InT (sub nm i) q → q ≠ nm → hget H q = hget (oh nm vs (mkTo k l i)) q := fun q _ _ => by rw [hH]
  rw [show (AVal.n Pat) = 1 from rfl] at hr
  rw [← hH]
  clear hH
  have hl0 := hel
  have hk0 := hpLe_root hl0
  have hn0 : ¬ InT (sub (sub nm i) 0) nm := part_ne
  have hb0 : (nm == sub (sub nm i) 0) = false := part_beq
  simp +contextual -dsimp only [↓SD, SU, SB, simprocAttr, hlt, hlen, e, gs, ls, List.set_set, ov_list, false_and, hr, hk0, hb0]
  repeat (refine And.intro (by omega) ?_)
  refine aCallH_gen (on (sub (sub nm i) 0) x.nodes) (markPNodeS_own (sub (sub nm i) 0) vs x.nodes _ (by omega) (by omega)) (hsel_on (by repeat (first | exact hl0 | refine hpLe_skip hn0 ?_))) ?_
  rintro r hp' ⟨rfl, rfl⟩ H0 hH0
  have hr0 := part_root hH0 hn0 hr
  have hq0 := part_far (X := fun q => hget (oh nm vs (mkTo k l i)) q) hH0 (by repeat (first | exact hq | refine far_cons ?_))
  have hd0 := part_done hH0
  rw [cnt_list]
  simp +contextual -dsimp only [↓SD, SU, SB, simprocAttr, hlt, hlen, e, gs, ls, List.set_set, ov_list, false_and, hr0, hb0]
  repeat (refine And.intro (by omega) ?_)
  refine Goes.le ⟨i + 1, ⟨hlt, (by first | omega | (simp only; omega))⟩, rfl⟩ (by simp +contextual -dsimp only [↓SD, SU, SB, simprocAttr, Int.natCast_add, hKn]) ?_
  rw [← hsf]
  refine oh_upd hLi ?_ ?_ ?_
  ·repeat (first | exact hq0 | refine far_cons ?_)
  ·rw [lbox, hus, set_same (by rw [hlen]; exact hlt) e]; exact hr0
  ·rw [oh_Pat]; exact (by repeat (first | exact hd0 | refine hpLe_skip hn0 ?_))
 ·obtain rfl : i = l.length := by omega
  rw [mkTo_full, cntL_full]
  have hr := oh_root nm vs (mkL k l)
  have hs := OVal.self nm vs (mkL k l)
  obtain ⟨H, hH⟩ : ∃ H, H = oh nm vs (mkL k l) := ⟨_, rfl⟩
  rw [← hH]
  simp +contextual -dsimp only [↓SD, SU, SB, simprocAttr, Nat.lt_irrefl, map_len]
  refine Goes.post H ?_
  simp +contextual -dsimp only [↓SD, SU, SB, simprocAttr]
  exact ⟨by rw [hH]; exact hs, rfl, by rw [hH]; rfl⟩

set_option maxHeartbeats 1000000 in
theorem heldPatS_own (l : List Pat) (k : Int) (h0 : 1 ≤ k) (h1 : k + (Bulk.bulk l : Int) ≤ 4611686018427387904) : CallsF Tryz.prog 80 [.sl ((mkL k l).map av), .int .i64 k] (.int .i64 (k + (cntL l : Int))) := by
 refine ir_laws_heldPatS.F rfl (by simp; exact ⟨lav_clean _, pint _⟩) (pint _) ?_
 simp +contextual -dsimp only [↓SD, SU, SB, simprocAttr, ir_laws_heldPatS, map_len, mkL_len]
 refine aLoop_of (X := Nat) (fun i => ⟨[(0, .sl ((mkL k l).map av)), (1, .int .i64 (k + (cntL (l.take i) : Int))), (5, .int .i64 i)], []⟩) (fun i => i ≤ l.length) (fun i => l.length - i) 0 (Nat.zero_le _) (by simp +contextual -dsimp only [↓SD, SU, SB, simprocAttr, List.take_zero, cntL_nil, Int.natCast_zero, Int.add_zero]) trivial ?_
 rintro i hi
 by_cases hlt : i < l.length
 ·have hroom := cntL_roomB hlt
  have htake := cntL_take hlt
  have e := getD_map av (mkL k l) i .top (by rw [mkL_len]; exact hlt)
  rw [mkL_get k l i hlt] at e
  rw [mk_Pat, av_Pat] at e
  obtain ⟨x, hx⟩ : ∃ x, x = l[i] := ⟨_, rfl⟩
  obtain ⟨K, hK⟩ : ∃ K, K = k + (cntL (l.take i) : Int) := ⟨_, rfl⟩
  rw [← hx] at hroom htake e
  rw [← hK] at e ⊢
  have hcount : cnt x = cntL x.nodes := rfl
  rw [hcount] at htake
  have hbx : Bulk.bulk x = Bulk.bulk x.nodes + 1 := rfl
  have hbx_0 := cntL_bulk x.nodes
  have hbl := bulk_length l
  have hKn : k + (cntL (l.take (i + 1)) : Int) = K + (cntL x.nodes : Int) := by rw [htake]; omega
  have hKb : K + (Bulk.bulk x : Int) ≤ 4611686018427387904 := by omega
  have hK1 : 1 ≤ K := by omega
  simp +contextual -dsimp only [↓SD, SU, SB, simprocAttr, hlt, map_len, mkL_len, e]
  repeat (refine And.intro (by omega) ?_)
  refine aCallK_of _ (heldPNodeS_own x.nodes (K) (by omega) (by omega)) ?_
  have g0 : ¬ K + (cntL x.nodes : Int) < 0 := by omega
  simp +contextual -dsimp only [↓SD, SU, SB, simprocAttr, hlt, map_len, mkL_len, e, g0]
  repeat (refine And.intro (by omega) ?_)
  exact Goes.le ⟨i + 1, ⟨hlt, (by first | omega | (simp only; omega))⟩, rfl⟩ (by simp +contextual -dsimp only [↓SD, SU, SB, simprocAttr, Int.natCast_add, hKn]) trivial
 ·obtain rfl : i = l.length := by omega
  rw [cntL_full]
  simp +contextual -dsimp only [↓SD, SU, SB, simprocAttr, Nat.lt_irrefl, map_len, mkL_len]

end Go.Proofs.YtjifpdcflankpaaGreat

namespace Go.Proofs.YtjifpdcflankpaaGreat
open Go.RowKit Go.Proofs.YtjifpdcflankpaaGreat.Av Go.Proofs.YtjifpdcflankpaaGreat.Ml
open Go.Proofs.YtjifpdcflankpaaGreat.Av.AVal (av)
open OVal (ov oh on)
open Mk (mkv cnt)

instance : OVal TyItem := flatOV 128 (fun y x hx => by
 rw [av_TyItem] at hx
 simp only [AV.cells, List.mem_cons, List.not_mem_nil, or_false] at hx
 rcases hx with rfl | rfl | rfl <;> rfl)

instance : Mk TyItem := ⟨fun k x => ⟨k, markS (k + 1), k + 1 + 1⟩, fun x => 3⟩
theorem mk_TyItem (k : Int) (x : TyItem) : mkv k x = ⟨k, markS (k + 1), k + 1 + 1⟩ := rfl
theorem cnt_TyItem (x : TyItem) : cnt x = 3 := rfl
instance : MkB TyItem := ⟨fun x => by
 have hbx : Bulk.bulk x = Bulk.bulk x.var + Bulk.bulk x.name + Bulk.bulk x.arity + 1 := rfl
 have hbx_0 : Bulk.bulk x.var = 1 := rfl
 have hbx_1 : Bulk.bulk x.name = x.name.size + 1 := rfl
 have hbx_2 : Bulk.bulk x.arity = 1 := rfl
 rw [cnt_TyItem]
 omega⟩

theorem toTyItemS_own (nm : Nat) (l : List TyItem) (hx : Bulk.bulk l ≤ 4294967296) : CallsH Tryz.prog 190 [.sl (l.map av)] [] (ToPost nm l) := by
 have hl := bulk_length l
 refine ir_laws_toTyItemS_H.H rfl ?_
 simp +contextual -dsimp only [↓SD, SU, SB, simprocAttr, ir_laws_toTyItemS_H, map_len]
 refine ⟨by omega, fun v => ?_⟩
 refine aLoop_of (X := Nat × (Nat → Nat)) (fun x => ⟨[(0, .sl (l.map av)), (3, .row 7 v l.length), (4, .int .i64 x.1)], (7, ⟨v, false, 128, 3, fillL l (AV.agg [.int .i64 0, .str (bs []), .int .i64 0]) x.1⟩) :: []⟩) (fun x => x.1 ≤ l.length) (fun x => l.length - x.1) (0, fun _ => 0) (Nat.zero_le _) (by simp +contextual -dsimp only [↓SD, SU, SB, simprocAttr]) (by simp +contextual -dsimp only [↓SD, SU, SB, simprocAttr, fillL_zero]) ?_
 rintro ⟨k, vs⟩ hk
 dsimp only at hk ⊢
 by_cases hlt : k < l.length
 ·have e := getD_map av l k .top hlt
  have hbk : Bulk.bulk l[k] ≤ 4294967296 := by have := bulk_mem (List.getElem_mem hlt); omega
  have e1 := fillL_len (AV.agg [.int .i64 0, .str (bs []), .int .i64 0]) hk
  have e2 := fillL_get (AV.agg [.int .i64 0, .str (bs []), .int .i64 0]) hlt .top
  have e3 := fillL_set (z := (AV.agg [.int .i64 0, .str (bs []), .int .i64 0])) hlt rfl
  rw [av_TyItem] at e3
  simp +contextual -dsimp only [↓SD, SU, SB, simprocAttr, map_len, hlt, e, av_TyItem]
  have C := toTyItem_ok l[k] hbk
  rw [av_TyItem] at C
  refine aCallK_of _ C ?_
  simp +contextual -dsimp only [↓SD, SU, SB, simprocAttr, map_len, hlt, e, av_TyItem, e1, e2, e3]
  refine ⟨by omega, Goes.le ⟨(k + 1, vs), ⟨hlt, (by first | omega | (simp only; omega))⟩, rfl⟩ (by simp +contextual -dsimp only [↓SD, SU, SB, simprocAttr, Int.natCast_add]) (by simp +contextual -dsimp only [↓SD, SU, SB, simprocAttr, e2, e3])⟩
 ·obtain rfl : k = l.length := by omega
  simp +contextual -dsimp only [↓SD, SU, SB, simprocAttr, map_len, Nat.lt_irrefl, fillL_full]
  refine Goes.ren 2 7 nm (v := v) (n := l.length) rfl hg_eq rfl fun v' => ?_
  refine Goes.post (oh nm (fun _ => v') l) ?_
  rw [oh_flat (fun _ _ _ => rfl) (fun _ _ _ => rfl)]
  simp +contextual -dsimp only [↓SD, SU, SB, simprocAttr, hg_eq, hpLe_cons, hpLe_nil]
  exact ⟨rfl, _, rfl, (oh_flat (fun _ _ _ => rfl) (fun _ _ _ => rfl) nm (fun _ => v') l).symm⟩

set_option maxHeartbeats 1000000 in
theorem markTyItemS_own (nm : Nat) (vs : Nat → Nat) (l : List TyItem) (k : Int) (h0 : 1 ≤ k) (h1 : k + (Bulk.bulk l : Int) ≤ 4611686018427387904) : CallsH Tryz.prog 136 [ov nm vs l, .int .i64 k] (oh nm vs l) (MarkPost nm vs k l) := by
 refine ir_laws_markTyItemS.H rfl ?_
 simp +contextual -dsimp only [↓SD, SU, SB, simprocAttr, ir_laws_markTyItemS, ov_list]
 refine aLoop_of (X := Nat) (fun i => ⟨[(0, .row nm (vs nm) l.length), (1, .int .i64 (k + (cntL (l.take i) : Int))), (5, .int .i64 i)], oh nm vs (mkTo k l i)⟩) (fun i => i ≤ l.length) (fun i => l.length - i) 0 (Nat.zero_le _) (by simp +contextual -dsimp only [↓SD, SU, SB, simprocAttr, List.take_zero, cntL_nil, Int.natCast_zero, Int.add_zero]) (by rw [mkTo_zero]; exact OVal.self _ _ _) ?_
 rintro i hi
 by_cases hlt : i < l.length
 ·have hLi : i < (mkTo k l i).length := by rw [mkTo_len hi]; exact hlt
  have hLl : (mkTo k l i).length = l.length := mkTo_len hi
  have hgi := mkTo_get hlt hLi
  have hsf := mkTo_set (k := k) hlt
  have hroom := cntL_roomB hlt
  have htake := cntL_take hlt
  have hle := cntL_le l (i + 1)
  have e := ovL_get nm vs (mkTo k l i) hLi .top
  rw [hgi, show ∀ y : TyItem, ov (sub nm i) vs y = av y from fun _ => rfl, av_TyItem] at e
  have hr := oh_root nm vs (mkTo k l i)
  have hlen : (ovL nm vs 0 (mkTo k l i)).length = l.length := by rw [ovL_len, hLl]
  obtain ⟨x, hx⟩ : ∃ x, x = l[i] := ⟨_, rfl⟩
  obtain ⟨K, hK⟩ : ∃ K, K = k + (cntL (l.take i) : Int) := ⟨_, rfl⟩
  try rw [← hx] at e
  try rw [← hx] at hroom
  try rw [← hx] at htake
  rw [← hx] at hsf
  rw [← hK] at hsf
  rw [lbox] at hr
  obtain ⟨E, hE⟩ : ∃ E, E = ovL nm vs 0 (mkTo k l i) := ⟨_, rfl⟩
  have hcount : cnt x = 3 := rfl
  rw [hcount] at htake
  have hbx : Bulk.bulk x = Bulk.bulk x.var + Bulk.bulk x.name + Bulk.bulk x.arity + 1 := rfl
  have hbx_0 : Bulk.bulk x.var = 1 := rfl
  have hbx_1 : Bulk.bulk x.name = x.name.size + 1 := rfl
  have hbx_2 : Bulk.bulk x.arity = 1 := rfl
  have hbl := bulk_length l
  have hKn : k + (cntL (l.take (i + 1)) : Int) = K + 1 + 1 + 1 := by rw [htake]; omega
  have hKb : K + (Bulk.bulk x : Int) ≤ 4611686018427387904 := by omega
  have hK1 : 1 ≤ K := by omega
  have hmk : ov (sub nm i) vs (mkv K x) = AV.agg [.int .i64 (K), .str (markS (K + 1)), .int .i64 (K + 1 + 1)] := by rw [show ∀ y : TyItem, ov (sub nm i) vs y = av y from fun _ => rfl, mk_TyItem, av_TyItem]
  have hus : ovL nm vs 0 ((mkTo k l i).set i (mkv K x)) = E.set i (AV.agg [.int .i64 (K), .str (markS (K + 1)), .int .i64 (K + 1 + 1)]) := by rw [ovL_set, hmk, ← hE]
  rw [← hE] at e hlen hr
  rw [← hK]
  have gs : ∀ a, (E.set i a).getD i .top = a := fun a => by rw [List.getD_eq_getElem?_getD, List.getElem?_set_self (by rw [hlen]; exact hlt)]; rfl
  have ls : ∀ a, (E.set i a).length = l.length := fun a => by rw [List.length_set, hlen]
  obtain ⟨H, hH⟩ : ∃ H, H = oh nm vs (mkTo k l i) := ⟨_, rfl⟩
  rw [← hH] at hr
  have hq : ∀ q, ¬ InT (sub nm i) q → q ≠ nm → hget H q = hget (oh nm vs (mkTo k l i)) q := fun q _ _ => by rw [hH]
  rw [show (AVal.n TyItem) = 3 from rfl] at hr
  rw [← hH]
  clear hH
  simp +contextual -dsimp only [↓SD, SU, SB, simprocAttr, hlt, hlen, e, gs, ls, List.set_set, ov_list, false_and, hr]
  repeat (refine And.intro (by omega) ?_)
  refine aCallK_of _ (markText_at (K + 1) (by omega) (by omega)) ?_
  simp +contextual -dsimp only [↓SD, SU, SB, simprocAttr, hlt, hlen, e, gs, ls, List.set_set, ov_list, false_and, hr]
  repeat (refine And.intro (by omega) ?_)
  refine Goes.le ⟨i + 1, ⟨hlt, (by first | omega | (simp only; omega))⟩, rfl⟩ (by simp +contextual -dsimp only [↓SD, SU, SB, simprocAttr, Int.natCast_add, hKn]) ?_
  rw [← hsf]
  refine oh_upd hLi ?_ ?_ ?_
  ·repeat (first | exact hq | refine far_cons ?_)
  ·rw [lbox, hus]; first | exact hg_eq | exact hr
  ·exact trivial
 ·obtain rfl : i = l.length := by omega
  rw [mkTo_full, cntL_full]
  have hr := oh_root nm vs (mkL k l)
  have hs := OVal.self nm vs (mkL k l)
  obtain ⟨H, hH⟩ : ∃ H, H = oh nm vs (mkL k l) := ⟨_, rfl⟩
  rw [← hH]
  simp +contextual -dsimp only [↓SD, SU, SB, simprocAttr, Nat.lt_irrefl, map_len]
  refine Goes.post H ?_
  simp +contextual -dsimp only [↓SD, SU, SB, simprocAttr]
  exact ⟨by rw [hH]; exact hs, rfl, by rw [hH]; rfl⟩

set_option maxHeartbeats 1000000 in
theorem heldTyItemS_own (l : List TyItem) (k : Int) (h0 : 1 ≤ k) (h1 : k + (Bulk.bulk l : Int) ≤ 4611686018427387904) : CallsF Tryz.prog 138 [.sl ((mkL k l).map av), .int .i64 k] (.int .i64 (k + (cntL l : Int))) := by
 refine ir_laws_heldTyItemS.F rfl (by simp; exact ⟨lav_clean _, pint _⟩) (pint _) ?_
 simp +contextual -dsimp only [↓SD, SU, SB, simprocAttr, ir_laws_heldTyItemS, map_len, mkL_len]
 refine aLoop_of (X := Nat) (fun i => ⟨[(0, .sl ((mkL k l).map av)), (1, .int .i64 (k + (cntL (l.take i) : Int))), (5, .int .i64 i)], []⟩) (fun i => i ≤ l.length) (fun i => l.length - i) 0 (Nat.zero_le _) (by simp +contextual -dsimp only [↓SD, SU, SB, simprocAttr, List.take_zero, cntL_nil, Int.natCast_zero, Int.add_zero]) trivial ?_
 rintro i hi
 by_cases hlt : i < l.length
 ·have hroom := cntL_roomB hlt
  have htake := cntL_take hlt
  have e := getD_map av (mkL k l) i .top (by rw [mkL_len]; exact hlt)
  rw [mkL_get k l i hlt] at e
  rw [mk_TyItem, av_TyItem] at e
  obtain ⟨x, hx⟩ : ∃ x, x = l[i] := ⟨_, rfl⟩
  obtain ⟨K, hK⟩ : ∃ K, K = k + (cntL (l.take i) : Int) := ⟨_, rfl⟩
  (rw [← hx] at hroom htake; try rw [← hx] at e)
  rw [← hK] at e ⊢
  have hcount : cnt x = 3 := rfl
  rw [hcount] at htake
  have hbx : Bulk.bulk x = Bulk.bulk x.var + Bulk.bulk x.name + Bulk.bulk x.arity + 1 := rfl
  have hbx_0 : Bulk.bulk x.var = 1 := rfl
  have hbx_1 : Bulk.bulk x.name = x.name.size + 1 := rfl
  have hbx_2 : Bulk.bulk x.arity = 1 := rfl
  have hbl := bulk_length l
  have hKn : k + (cntL (l.take (i + 1)) : Int) = K + 1 + 1 + 1 := by rw [htake]; omega
  have hKb : K + (Bulk.bulk x : Int) ≤ 4611686018427387904 := by omega
  have hK1 : 1 ≤ K := by omega
  simp +contextual -dsimp only [↓SD, SU, SB, simprocAttr, hlt, map_len, mkL_len, beq_self_eq_true, e]
  repeat (refine And.intro (by omega) ?_)
  refine aCallK_of _ (markText_at (K + 1) (by omega) (by omega)) ?_
  simp +contextual -dsimp only [↓SD, SU, SB, simprocAttr, hlt, map_len, mkL_len, beq_self_eq_true, e]
  repeat (refine And.intro (by omega) ?_)
  exact Goes.le ⟨i + 1, ⟨hlt, (by first | omega | (simp only; omega))⟩, rfl⟩ (by simp +contextual -dsimp only [↓SD, SU, SB, simprocAttr, Int.natCast_add, hKn]) trivial
 ·obtain rfl : i = l.length := by omega
  rw [cntL_full]
  simp +contextual -dsimp only [↓SD, SU, SB, simprocAttr, Nat.lt_irrefl, map_len, mkL_len]

instance : OVal Ty where
 ty := 78
 ov nm vs x := .agg [ov (sub nm 0) vs x.items]
 oh nm vs x := oh (sub nm 0) vs x.items
 on nm x := on (sub nm 0) x.items
 names nm vs x := OVal.names _ _ _
 inn nm x k h := (OVal.inn _ _ _ h).up
 self nm vs x := OVal.self _ _ _
 vdep nm vs vs' x h := by
  obtain ⟨a0, b0⟩ := OVal.vdep (sub nm 0) vs vs' x.items (fun k hk => h k hk.up)
  simp only [a0, b0, and_self]
 lend nm vs x hp h := by
  have h0 := OVal.lend (sub nm 0) vs x.items hp h
  show AV.agg [(ov (sub nm 0) vs x.items).pur (frzL (on (sub nm 0) x.items) hp)] = av x
  rw [h0]; rfl
 dep nm vs x hp hp' h := by
  have h0 := OVal.dep (sub nm 0) vs x.items hp hp' (fun k hk => h k hk.up)
  show AV.agg [(ov (sub nm 0) vs x.items).pur hp] = AV.agg [(ov (sub nm 0) vs x.items).pur hp']
  rw [h0]
 free nm vs x p h := by exact OVal.free _ _ _ p h
 cfree nm vs x y hx := by
  simp only [AV.cells, List.mem_cons, List.not_mem_nil, or_false] at hx
  subst hx <;> rfl
 ok _ _ _ := rfl
 agg _ _ _ := rfl
 len _ _ _ := rfl
theorem ov_Ty (nm : Nat) (vs : Nat → Nat) (x : Ty) : ov nm vs x = .agg [.row (sub nm 0) (vs (sub nm 0)) x.items.length] := eqq rfl
theorem oh_Ty (nm : Nat) (vs : Nat → Nat) (x : Ty) : oh nm vs x = oh (sub nm 0) vs x.items := rfl

instance : Mk Ty := ⟨fun k x => ⟨mkL (k) x.items⟩, fun x => cntL x.items⟩
theorem cnt_Ty (x : Ty) : cnt x = cntL x.items := rfl
instance : MkB Ty := ⟨fun x => by
 have hbx : Bulk.bulk x = Bulk.bulk x.items + 1 := rfl
 have hbx_0 := cntL_bulk x.items
 rw [cnt_Ty]
 omega⟩

theorem toTy_own (nm : Nat) (x : Ty) (hx : Bulk.bulk x ≤ 4294967296) : CallsH Tryz.prog 178 [av x] [] (ToPost nm x) := by
 have hb : Bulk.bulk x.items + 1 ≤ 4294967296 := hx
 refine ir_laws_toTy_H.H rfl ?_
 simp +contextual -dsimp only [↓SD, SU, SB, simprocAttr, ir_laws_toTy_H, av_Ty]
 (repeat' (first | intro _ | refine And.intro ?_ ?_))
 refine aCallH_gen [] (toTyItemS_own (sub nm 0) x.items (by omega)) (by simp +contextual -dsimp only [↓SD, SU, SB, simprocAttr]) ?_
 rintro r hp' ⟨v0, rfl, rfl⟩ H0 hH0
 rw [hrest_no] at hH0
 have hold0 := old_get hH0
 have ho0_0 : hpLe H0 (oh (sub nm 0) v0 x.items) := by rw [hH0]; exact hpLe_l (OVal.self _ _ _)
 have hr0_0 := hpLe_root ho0_0
 simp +contextual -dsimp only [↓SD, SU, SB, simprocAttr, ov_list, low_beq, hold0, hr0_0]
 refine Goes.post (oh nm v0 x) ?_
 simp +contextual -dsimp only [↓SD, SU, SB, simprocAttr, low_beq, hold0, false_and, hr0_0]
 refine ⟨by rw [oh_Ty]; exact (by repeat (first | exact ho0_0 | refine hpLe_low ?_ (by omega))), v0, ?_, rfl⟩
 rw [ov_Ty]

instance : OVal Con where
 ty := 80
 ov nm vs x := .agg [.str x.name, .bool x.has, ov (sub nm 0) vs x.arg.items]
 oh nm vs x := oh (sub nm 0) vs x.arg.items
 on nm x := on (sub nm 0) x.arg.items
 names nm vs x := OVal.names _ _ _
 inn nm x k h := (OVal.inn _ _ _ h).up
 self nm vs x := OVal.self _ _ _
 vdep nm vs vs' x h := by
  obtain ⟨a0, b0⟩ := OVal.vdep (sub nm 0) vs vs' x.arg.items (fun k hk => h k hk.up)
  simp only [a0, b0, and_self]
 lend nm vs x hp h := by
  have h0 := OVal.lend (sub nm 0) vs x.arg.items hp h
  show AV.agg [.str x.name, .bool x.has, (ov (sub nm 0) vs x.arg.items).pur (frzL (on (sub nm 0) x.arg.items) hp)] = av x
  rw [h0]; rfl
 dep nm vs x hp hp' h := by
  have h0 := OVal.dep (sub nm 0) vs x.arg.items hp hp' (fun k hk => h k hk.up)
  show AV.agg [.str x.name, .bool x.has, (ov (sub nm 0) vs x.arg.items).pur hp] = AV.agg [.str x.name, .bool x.has, (ov (sub nm 0) vs x.arg.items).pur hp']
  rw [h0]
 free nm vs x p h := by exact OVal.free _ _ _ p h
 cfree nm vs x y hx := by
  simp only [AV.cells, List.mem_cons, List.not_mem_nil, or_false] at hx
  rcases hx with rfl | rfl | rfl <;> rfl
 ok _ _ _ := rfl
 agg _ _ _ := rfl
 len _ _ _ := rfl
theorem ov_Con (nm : Nat) (vs : Nat → Nat) (x : Con) : ov nm vs x = .agg [.str x.name, .bool x.has, .row (sub nm 0) (vs (sub nm 0)) x.arg.items.length] := eqq rfl
theorem oh_Con (nm : Nat) (vs : Nat → Nat) (x : Con) : oh nm vs x = oh (sub nm 0) vs x.arg.items := rfl

instance : Mk Con := ⟨fun k x => ⟨markS (k), decide ((k + 1).tmod 3 = 0), ⟨mkL (k + 1 + 1) x.arg.items⟩⟩, fun x => 2 + cntL x.arg.items⟩
theorem mk_Con (k : Int) (x : Con) : mkv k x = ⟨markS (k), decide ((k + 1).tmod 3 = 0), ⟨mkL (k + 1 + 1) x.arg.items⟩⟩ := rfl
theorem cnt_Con (x : Con) : cnt x = 2 + cntL x.arg.items := rfl
instance : MkB Con := ⟨fun x => by
 have hbx : Bulk.bulk x = Bulk.bulk x.name + Bulk.bulk x.has + Bulk.bulk x.arg + 1 := rfl
 have hbx_0 : Bulk.bulk x.name = x.name.size + 1 := rfl
 have hbx_1 : Bulk.bulk x.has = 1 := rfl
 have hbx_2 : Bulk.bulk x.arg = Bulk.bulk x.arg.items + 1 := rfl
 have hbx_2_0 := cntL_bulk x.arg.items
 rw [cnt_Con]
 omega⟩

theorem toCon_own (nm : Nat) (x : Con) (hx : Bulk.bulk x ≤ 4294967296) : CallsH Tryz.prog 156 [av x] [] (ToPost nm x) := by
 have hb : Bulk.bulk x.name + Bulk.bulk x.has + Bulk.bulk x.arg + 1 ≤ 4294967296 := hx
 refine ir_laws_toCon_H.H rfl ?_
 simp +contextual -dsimp only [↓SD, SU, SB, simprocAttr, ir_laws_toCon_H, av_Con, av_Ty]
 (repeat' (first | intro _ | refine And.intro ?_ ?_))
 have C0 := toTy_own nm x.arg (by omega)
 rw [av_Ty] at C0
 refine aCallH_gen [] C0 (by simp +contextual -dsimp only [↓SD, SU, SB, simprocAttr]) ?_
 rintro r hp' ⟨v0, rfl, rfl⟩ H0 hH0
 rw [oh_Ty] at hH0
 rw [hrest_no] at hH0
 have hold0 := old_get hH0
 have ho0_0 : hpLe H0 (oh (sub nm 0) v0 x.arg.items) := by rw [hH0]; exact hpLe_l (OVal.self _ _ _)
 have hr0_0 := hpLe_root ho0_0
 simp +contextual -dsimp only [↓SD, SU, SB, simprocAttr, ov_list, ov_Ty, av_Ty, low_beq, hold0, hr0_0]
 refine Goes.post (oh nm v0 x) ?_
 simp +contextual -dsimp only [↓SD, SU, SB, simprocAttr, low_beq, hold0, false_and, hr0_0]
 refine ⟨by rw [oh_Con]; exact (by repeat (first | exact ho0_0 | refine hpLe_low ?_ (by omega))), v0, ?_, rfl⟩
 rw [ov_Con]

theorem toConS_own (nm : Nat) (l : List Con) (hx : Bulk.bulk l ≤ 4294967296) : CallsH Tryz.prog 112 [.sl (l.map av)] [] (ToPost nm l) := by
 have hl := bulk_length l
 refine ir_laws_toConS_H.H rfl ?_
 simp +contextual -dsimp only [↓SD, SU, SB, simprocAttr, ir_laws_toConS_H, map_len]
 refine ⟨by omega, fun v => ?_⟩
 refine aLoop_of (X := Nat × (Nat → Nat)) (fun x => ⟨[(0, .sl (l.map av)), (3, .row 7 v l.length), (4, .int .i64 x.1)], (7, ⟨v, false, 80, 3, fillO nm x.2 l (AV.agg [.str (bs []), .bool false, .nils]) x.1⟩) :: ohL nm x.2 0 (l.take x.1)⟩) (fun x => x.1 ≤ l.length) (fun x => l.length - x.1) (0, fun _ => 0) (Nat.zero_le _) (by simp +contextual -dsimp only [↓SD, SU, SB, simprocAttr]) (by simp +contextual -dsimp only [↓SD, SU, SB, simprocAttr, fillO_zero, List.take_zero, ohL_nil]) ?_
 rintro ⟨k, vs⟩ hk
 dsimp only at hk ⊢
 by_cases hlt : k < l.length
 ·have e := getD_map av l k .top hlt
  have hbk : Bulk.bulk l[k] ≤ 4294967296 := by have := bulk_mem (List.getElem_mem hlt); omega
  have e1 := fillO_len (nm := nm) (vs := vs) (AV.agg [.str (bs []), .bool false, .nils]) hk
  have e2 := fillO_get (nm := nm) (vs := vs) (AV.agg [.str (bs []), .bool false, .nils]) hlt .top
  obtain ⟨H, hH⟩ : ∃ H, H = ((7, ⟨v, false, 80, 3, fillO nm vs l (AV.agg [.str (bs []), .bool false, .nils]) k⟩) :: ohL nm vs 0 (l.take k) : Hp) := ⟨_, rfl⟩
  have h7 : hget H 7 = some ⟨v, false, 80, 3, fillO nm vs l (AV.agg [.str (bs []), .bool false, .nils]) k⟩ := by rw [hH]; exact hg_eq
  rw [← hH]
  simp +contextual -dsimp only [↓SD, SU, SB, simprocAttr, map_len, hlt, e, av_Con, h7]
  have C := toCon_own (sub nm k) l[k] hbk
  rw [av_Con] at C
  refine aCallH_gen [] C (by simp +contextual -dsimp only [↓SD, SU, SB, simprocAttr]) ?_
  rintro r hp' ⟨v1, rfl, rfl⟩ H1 hH1
  have h71 : hget H1 7 = some ⟨v, false, 80, 3, fillO nm vs l (AV.agg [.str (bs []), .bool false, .nils]) k⟩ := by
   rw [hH1, hrest_no, hg_app_r (oh_ne fun h' => by have := h'.ge; omega)]; exact h7
  have e3 := fillO_set (nm := nm) (vs := v1) (vs' := vs) (z := (AV.agg [.str (bs []), .bool false, .nils])) hlt
  rw [ov_Con] at e3
  simp +contextual -dsimp only [↓SD, SU, SB, simprocAttr, map_len, hlt, e, av_Con, ov_Con, h71, e1, e2, e3]
  rw [hH] at hH1
  refine ⟨by omega, Goes.le ⟨(k + 1, glue (sub nm k) v1 vs), ⟨hlt, (by first | omega | (simp only; omega))⟩, rfl⟩ (by simp +contextual -dsimp only [↓SD, SU, SB, simprocAttr, Int.natCast_add]) ?_⟩
  exact fill_le hlt (by omega) hH1
 ·obtain rfl : k = l.length := by omega
  rw [List.take_length]
  have ef : fillO nm vs l (AV.agg [.str (bs []), .bool false, .nils]) l.length = ovL nm vs 0 l := by simp [fillO]
  rw [ef]
  obtain ⟨H, hH⟩ : ∃ H, H = ((7, ⟨v, false, 80, 3, ovL nm vs 0 l⟩) :: ohL nm vs 0 l : Hp) := ⟨_, rfl⟩
  rw [← hH]
  simp +contextual -dsimp only [↓SD, SU, SB, simprocAttr, map_len, Nat.lt_irrefl]
  rw [hH]
  refine Goes.ren 2 7 nm (v := v) (n := l.length) rfl hg_eq rfl fun v' => ?_
  obtain ⟨H', hH'⟩ : ∃ H', H' = ((nm, ⟨v', false, 80, 3, ovL nm vs 0 l⟩) :: hrest [7] ((7, ⟨v, false, 80, 3, ovL nm vs 0 l⟩) :: ohL nm vs 0 l) : Hp) := ⟨_, rfl⟩
  have hr : hget H' nm = some ⟨v', false, 80, 3, ovL nm vs 0 l⟩ := by rw [hH']; exact hg_eq
  have hle := full_le (α := Con) (nm := nm) (j := 7) (l := l) (vs := vs) (by omega) hH'
  dsimp only
  rw [← hH']
  refine Goes.post (oh nm (glue nm (fun k => if k = nm then v' else vs k) vs) l) ?_
  simp +contextual -dsimp only [↓SD, SU, SB, simprocAttr, hr]
  exact ⟨hle, _, (oh_full l).1.symm, rfl⟩

set_option maxHeartbeats 1000000 in
theorem markConS_own (nm : Nat) (vs : Nat → Nat) (l : List Con) (k : Int) (h0 : 1 ≤ k) (h1 : k + (Bulk.bulk l : Int) ≤ 4611686018427387904) : CallsH Tryz.prog 75 [ov nm vs l, .int .i64 k] (oh nm vs l) (MarkPost nm vs k l) := by
 refine ir_laws_markConS.H rfl ?_
 simp +contextual -dsimp only [↓SD, SU, SB, simprocAttr, ir_laws_markConS, ov_list]
 refine aLoop_of (X := Nat) (fun i => ⟨[(0, .row nm (vs nm) l.length), (1, .int .i64 (k + (cntL (l.take i) : Int))), (5, .int .i64 i)], oh nm vs (mkTo k l i)⟩) (fun i => i ≤ l.length) (fun i => l.length - i) 0 (Nat.zero_le _) (by simp +contextual -dsimp only [↓SD, SU, SB, simprocAttr, List.take_zero, cntL_nil, Int.natCast_zero, Int.add_zero]) (by rw [mkTo_zero]; exact OVal.self _ _ _) ?_
 rintro i hi
 by_cases hlt : i < l.length
 ·have hLi : i < (mkTo k l i).length := by rw [mkTo_len hi]; exact hlt
  have hLl : (mkTo k l i).length = l.length := mkTo_len hi
  have hgi := mkTo_get hlt hLi
  have hsf := mkTo_set (k := k) hlt
  have hroom := cntL_roomB hlt
  have htake := cntL_take hlt
  have hle := cntL_le l (i + 1)
  have e := ovL_get nm vs (mkTo k l i) hLi .top
  rw [hgi, ov_Con] at e
  have hel := oh_elem (nm := nm) (vs := vs) hLi
  rw [hgi, oh_Con] at hel
  have hr := oh_root nm vs (mkTo k l i)
  have hlen : (ovL nm vs 0 (mkTo k l i)).length = l.length := by rw [ovL_len, hLl]
  obtain ⟨x, hx⟩ : ∃ x, x = l[i] := ⟨_, rfl⟩
  obtain ⟨K, hK⟩ : ∃ K, K = k + (cntL (l.take i) : Int) := ⟨_, rfl⟩
  try rw [← hx] at e
  try rw [← hx] at hroom
  try rw [← hx] at htake
  try rw [← hx] at hel
  rw [← hx] at hsf
  rw [← hK] at hsf
  rw [lbox] at hr
  obtain ⟨E, hE⟩ : ∃ E, E = ovL nm vs 0 (mkTo k l i) := ⟨_, rfl⟩
  have hcount : cnt x = 2 + cntL x.arg.items := rfl
  rw [hcount] at htake
  have hbx : Bulk.bulk x = Bulk.bulk x.name + Bulk.bulk x.has + Bulk.bulk x.arg + 1 := rfl
  have hbx_0 : Bulk.bulk x.name = x.name.size + 1 := rfl
  have hbx_1 : Bulk.bulk x.has = 1 := rfl
  have hbx_2 : Bulk.bulk x.arg = Bulk.bulk x.arg.items + 1 := rfl
  have hbx_2_0 := cntL_bulk x.arg.items
  have hbl := bulk_length l
  have hKn : k + (cntL (l.take (i + 1)) : Int) = K + 1 + 1 + (cntL x.arg.items : Int) := by rw [htake]; omega
  have hKb : K + (Bulk.bulk x : Int) ≤ 4611686018427387904 := by omega
  have hK1 : 1 ≤ K := by omega
  have htm0 : 0 ≤ (K + 1).tmod 3 ∧ (K + 1).tmod 3 ≤ 2 := by rw [Int.tmod_eq_emod_of_nonneg (by omega)]; omega
  have hmk : ov (sub nm i) vs (mkv K x) = AV.agg [.str (markS (K)), .bool (decide ((K + 1).tmod 3 = 0)), .row (sub (sub nm i) 0) (vs (sub (sub nm i) 0)) x.arg.items.length] := by rw [mk_Con, ov_Con]; simp only [mkL_len]
  have hus : ovL nm vs 0 ((mkTo k l i).set i (mkv K x)) = E.set i (AV.agg [.str (markS (K)), .bool (decide ((K + 1).tmod 3 = 0)), .row (sub (sub nm i) 0) (vs (sub (sub nm i) 0)) x.arg.items.length]) := by rw [ovL_set, hmk, ← hE]
  rw [← hE] at e hlen hr
  rw [← hK]
  have gs : ∀ a, (E.set i a).getD i .top = a := fun a => by rw [List.getD_eq_getElem?_getD, List.getElem?_set_self (by rw [hlen]; exact hlt)]; rfl
  have ls : ∀ a, (E.set i a).length = l.length := fun a => by rw [List.length_set, hlen]
  obtain ⟨H, hH⟩ : ∃ H, H = oh nm vs (mkTo k l i) := ⟨_, rfl⟩
  rw [← hH] at hr hel
  have hq : ∀ q, ¬ InT (sub nm i) q → q ≠ nm → hget H q = hget (oh nm vs (mkTo k l i)) q := fun q _ _ => by rw [hH]
  rw [show (AVal.n Con) = 3 from rfl] at hr
  rw [← hH]
  clear hH
  have hl0 := hel
  have hk0 := hpLe_root hl0
  have hn0 : ¬ InT (sub (sub nm i) 0) nm := part_ne
  have hb0 : (nm == sub (sub nm i) 0) = false := part_beq
  simp +contextual -dsimp only [↓SD, SU, SB, simprocAttr, hlt, hlen, e, gs, ls, List.set_set, ov_list, false_and, hr, hk0, hb0]
  repeat (refine And.intro (by omega) ?_)
  refine aCallK_of _ (markText_at (K) (by omega) (by omega)) ?_
  simp +contextual -dsimp only [↓SD, SU, SB, simprocAttr, hlt, hlen, e, gs, ls, List.set_set, ov_list, false_and, hr, hk0, hb0]
  repeat (refine And.intro (by omega) ?_)
  refine aCallH_gen (on (sub (sub nm i) 0) x.arg.items) (markTyItemS_own (sub (sub nm i) 0) vs x.arg.items _ (by omega) (by omega)) (hsel_on (by repeat (first | exact hl0 | refine hpLe_skip hn0 ?_))) ?_
  rintro r hp' ⟨rfl, rfl⟩ H0 hH0
  have hr0 := part_root hH0 hn0 hg_eq
  have hq0 := part_far (X := fun q => hget (oh nm vs (mkTo k l i)) q) hH0 (by repeat (first | exact hq | refine far_cons ?_))
  have hd0 := part_done hH0
  rw [cnt_list]
  simp +contextual -dsimp only [↓SD, SU, SB, simprocAttr, hlt, hlen, e, gs, ls, List.set_set, ov_list, false_and, hr0, hb0]
  repeat (refine And.intro (by omega) ?_)
  refine Goes.le ⟨i + 1, ⟨hlt, (by first | omega | (simp only; omega))⟩, rfl⟩ (by simp +contextual -dsimp only [↓SD, SU, SB, simprocAttr, Int.natCast_add, hKn]) ?_
  rw [← hsf]
  refine oh_upd hLi ?_ ?_ ?_
  ·repeat (first | exact hq0 | refine far_cons ?_)
  ·rw [lbox, hus]; first | exact hg_eq | exact hr0
  ·rw [oh_Con]; exact (by repeat (first | exact hd0 | refine hpLe_skip hn0 ?_))
 ·obtain rfl : i = l.length := by omega
  rw [mkTo_full, cntL_full]
  have hr := oh_root nm vs (mkL k l)
  have hs := OVal.self nm vs (mkL k l)
  obtain ⟨H, hH⟩ : ∃ H, H = oh nm vs (mkL k l) := ⟨_, rfl⟩
  rw [← hH]
  simp +contextual -dsimp only [↓SD, SU, SB, simprocAttr, Nat.lt_irrefl, map_len]
  refine Goes.post H ?_
  simp +contextual -dsimp only [↓SD, SU, SB, simprocAttr]
  exact ⟨by rw [hH]; exact hs, rfl, by rw [hH]; rfl⟩

set_option maxHeartbeats 1000000 in
theorem heldConS_own (l : List Con) (k : Int) (h0 : 1 ≤ k) (h1 : k + (Bulk.bulk l : Int) ≤ 4611686018427387904) : CallsF Tryz.prog 78 [.sl ((mkL k l).map av), .int .i64 k] (.int .i64 (k + (cntL l : Int))) := by
 refine ir_laws_heldConS.F rfl (by simp; exact ⟨lav_clean _, pint _⟩) (pint _) ?_
 simp +contextual -dsimp only [↓SD, SU, SB, simprocAttr, ir_laws_heldConS, map_len, mkL_len]
 refine aLoop_of (X := Nat) (fun i => ⟨[(0, .sl ((mkL k l).map av)), (1, .int .i64 (k + (cntL (l.take i) : Int))), (5, .int .i64 i)], []⟩) (fun i => i ≤ l.length) (fun i => l.length - i) 0 (Nat.zero_le _) (by simp +contextual -dsimp only [↓SD, SU, SB, simprocAttr, List.take_zero, cntL_nil, Int.natCast_zero, Int.add_zero]) trivial ?_
 rintro i hi
 by_cases hlt : i < l.length
 ·have hroom := cntL_roomB hlt
  have htake := cntL_take hlt
  have e := getD_map av (mkL k l) i .top (by rw [mkL_len]; exact hlt)
  rw [mkL_get k l i hlt] at e
  rw [mk_Con, av_Con] at e
  obtain ⟨x, hx⟩ : ∃ x, x = l[i] := ⟨_, rfl⟩
  obtain ⟨K, hK⟩ : ∃ K, K = k + (cntL (l.take i) : Int) := ⟨_, rfl⟩
  (rw [← hx] at hroom htake; try rw [← hx] at e)
  rw [← hK] at e ⊢
  have hcount : cnt x = 2 + cntL x.arg.items := rfl
  rw [hcount] at htake
  have hbx : Bulk.bulk x = Bulk.bulk x.name + Bulk.bulk x.has + Bulk.bulk x.arg + 1 := rfl
  have hbx_0 : Bulk.bulk x.name = x.name.size + 1 := rfl
  have hbx_1 : Bulk.bulk x.has = 1 := rfl
  have hbx_2 : Bulk.bulk x.arg = Bulk.bulk x.arg.items + 1 := rfl
  have hbx_2_0 := cntL_bulk x.arg.items
  have hbl := bulk_length l
  have hKn : k + (cntL (l.take (i + 1)) : Int) = K + 1 + 1 + (cntL x.arg.items : Int) := by rw [htake]; omega
  have hKb : K + (Bulk.bulk x : Int) ≤ 4611686018427387904 := by omega
  have hK1 : 1 ≤ K := by omega
  have htm0 : 0 ≤ (K + 1).tmod 3 ∧ (K + 1).tmod 3 ≤ 2 := by rw [Int.tmod_eq_emod_of_nonneg (by omega)]; omega
  simp +contextual -dsimp only [↓SD, SU, SB, simprocAttr, hlt, map_len, mkL_len, beq_self_eq_true, e]
  repeat (refine And.intro (by omega) ?_)
  refine aCallK_of _ (markText_at (K) (by omega) (by omega)) ?_
  simp +contextual -dsimp only [↓SD, SU, SB, simprocAttr, hlt, map_len, mkL_len, beq_self_eq_true, e]
  repeat (refine And.intro (by omega) ?_)
  refine aCallK_of _ (heldTyItemS_own x.arg.items (K + 1 + 1) (by omega) (by omega)) ?_
  have g0 : ¬ K + 1 + 1 + (cntL x.arg.items : Int) < 0 := by omega
  simp +contextual -dsimp only [↓SD, SU, SB, simprocAttr, hlt, map_len, mkL_len, beq_self_eq_true, e, g0]
  repeat (refine And.intro (by omega) ?_)
  exact Goes.le ⟨i + 1, ⟨hlt, (by first | omega | (simp only; omega))⟩, rfl⟩ (by simp +contextual -dsimp only [↓SD, SU, SB, simprocAttr, Int.natCast_add, hKn]) trivial
 ·obtain rfl : i = l.length := by omega
  rw [cntL_full]
  simp +contextual -dsimp only [↓SD, SU, SB, simprocAttr, Nat.lt_irrefl, map_len, mkL_len]

instance : OVal TypeD where
 ty := 74
 ov nm vs x := .agg [.str x.name, .int .i64 x.params, ov (sub nm 0) vs x.cons]
 oh nm vs x := oh (sub nm 0) vs x.cons
 on nm x := on (sub nm 0) x.cons
 names nm vs x := OVal.names _ _ _
 inn nm x k h := (OVal.inn _ _ _ h).up
 self nm vs x := OVal.self _ _ _
 vdep nm vs vs' x h := by
  obtain ⟨a0, b0⟩ := OVal.vdep (sub nm 0) vs vs' x.cons (fun k hk => h k hk.up)
  simp only [a0, b0, and_self]
 lend nm vs x hp h := by
  have h0 := OVal.lend (sub nm 0) vs x.cons hp h
  show AV.agg [.str x.name, .int .i64 x.params, (ov (sub nm 0) vs x.cons).pur (frzL (on (sub nm 0) x.cons) hp)] = av x
  rw [h0]; rfl
 dep nm vs x hp hp' h := by
  have h0 := OVal.dep (sub nm 0) vs x.cons hp hp' (fun k hk => h k hk.up)
  show AV.agg [.str x.name, .int .i64 x.params, (ov (sub nm 0) vs x.cons).pur hp] = AV.agg [.str x.name, .int .i64 x.params, (ov (sub nm 0) vs x.cons).pur hp']
  rw [h0]
 free nm vs x p h := by exact OVal.free _ _ _ p h
 cfree nm vs x y hx := by
  simp only [AV.cells, List.mem_cons, List.not_mem_nil, or_false] at hx
  rcases hx with rfl | rfl | rfl <;> rfl
 ok _ _ _ := rfl
 agg _ _ _ := rfl
 len _ _ _ := rfl
theorem ov_TypeD (nm : Nat) (vs : Nat → Nat) (x : TypeD) : ov nm vs x = .agg [.str x.name, .int .i64 x.params, .row (sub nm 0) (vs (sub nm 0)) x.cons.length] := eqq rfl
theorem oh_TypeD (nm : Nat) (vs : Nat → Nat) (x : TypeD) : oh nm vs x = oh (sub nm 0) vs x.cons := rfl

instance : Mk TypeD := ⟨fun k x => ⟨markS (k), k + 1, mkL (k + 1 + 1) x.cons⟩, fun x => 2 + cntL x.cons⟩
theorem mk_TypeD (k : Int) (x : TypeD) : mkv k x = ⟨markS (k), k + 1, mkL (k + 1 + 1) x.cons⟩ := rfl
theorem cnt_TypeD (x : TypeD) : cnt x = 2 + cntL x.cons := rfl
instance : MkB TypeD := ⟨fun x => by
 have hbx : Bulk.bulk x = Bulk.bulk x.name + Bulk.bulk x.params + Bulk.bulk x.cons + 1 := rfl
 have hbx_0 : Bulk.bulk x.name = x.name.size + 1 := rfl
 have hbx_1 : Bulk.bulk x.params = 1 := rfl
 have hbx_2 := cntL_bulk x.cons
 rw [cnt_TypeD]
 omega⟩

theorem toType_own (nm : Nat) (x : TypeD) (hx : Bulk.bulk x ≤ 4294967296) : CallsH Tryz.prog 55 [av x] [] (ToPost nm x) := by
 have hb : Bulk.bulk x.name + Bulk.bulk x.params + Bulk.bulk x.cons + 1 ≤ 4294967296 := hx
 refine ir_laws_toType_H.H rfl ?_
 simp +contextual -dsimp only [↓SD, SU, SB, simprocAttr, ir_laws_toType_H, av_TypeD]
 (repeat' (first | intro _ | refine And.intro ?_ ?_))
 refine aCallH_gen [] (toConS_own (sub nm 0) x.cons (by omega)) (by simp +contextual -dsimp only [↓SD, SU, SB, simprocAttr]) ?_
 rintro r hp' ⟨v0, rfl, rfl⟩ H0 hH0
 rw [hrest_no] at hH0
 have hold0 := old_get hH0
 have ho0_0 : hpLe H0 (oh (sub nm 0) v0 x.cons) := by rw [hH0]; exact hpLe_l (OVal.self _ _ _)
 have hr0_0 := hpLe_root ho0_0
 simp +contextual -dsimp only [↓SD, SU, SB, simprocAttr, ov_list, low_beq, hold0, hr0_0]
 refine Goes.post (oh nm v0 x) ?_
 simp +contextual -dsimp only [↓SD, SU, SB, simprocAttr, low_beq, hold0, false_and, hr0_0]
 refine ⟨by rw [oh_TypeD]; exact (by repeat (first | exact ho0_0 | refine hpLe_low ?_ (by omega))), v0, ?_, rfl⟩
 rw [ov_TypeD]

theorem toTypeS_own (nm : Nat) (l : List TypeD) (hx : Bulk.bulk l ≤ 4294967296) : CallsH Tryz.prog 27 [.sl (l.map av)] [] (ToPost nm l) := by
 have hl := bulk_length l
 refine ir_laws_toTypeS_H.H rfl ?_
 simp +contextual -dsimp only [↓SD, SU, SB, simprocAttr, ir_laws_toTypeS_H, map_len]
 refine ⟨by omega, fun v => ?_⟩
 refine aLoop_of (X := Nat × (Nat → Nat)) (fun x => ⟨[(0, .sl (l.map av)), (3, .row 7 v l.length), (4, .int .i64 x.1)], (7, ⟨v, false, 74, 3, fillO nm x.2 l (AV.agg [.str (bs []), .int .i64 0, .nils]) x.1⟩) :: ohL nm x.2 0 (l.take x.1)⟩) (fun x => x.1 ≤ l.length) (fun x => l.length - x.1) (0, fun _ => 0) (Nat.zero_le _) (by simp +contextual -dsimp only [↓SD, SU, SB, simprocAttr]) (by simp +contextual -dsimp only [↓SD, SU, SB, simprocAttr, fillO_zero, List.take_zero, ohL_nil]) ?_
 rintro ⟨k, vs⟩ hk
 dsimp only at hk ⊢
 by_cases hlt : k < l.length
 ·have e := getD_map av l k .top hlt
  have hbk : Bulk.bulk l[k] ≤ 4294967296 := by have := bulk_mem (List.getElem_mem hlt); omega
  have e1 := fillO_len (nm := nm) (vs := vs) (AV.agg [.str (bs []), .int .i64 0, .nils]) hk
  have e2 := fillO_get (nm := nm) (vs := vs) (AV.agg [.str (bs []), .int .i64 0, .nils]) hlt .top
  obtain ⟨H, hH⟩ : ∃ H, H = ((7, ⟨v, false, 74, 3, fillO nm vs l (AV.agg [.str (bs []), .int .i64 0, .nils]) k⟩) :: ohL nm vs 0 (l.take k) : Hp) := ⟨_, rfl⟩
  have h7 : hget H 7 = some ⟨v, false, 74, 3, fillO nm vs l (AV.agg [.str (bs []), .int .i64 0, .nils]) k⟩ := by rw [hH]; exact hg_eq
  rw [← hH]
  simp +contextual -dsimp only [↓SD, SU, SB, simprocAttr, map_len, hlt, e, av_TypeD, h7]
  have C := toType_own (sub nm k) l[k] hbk
  rw [av_TypeD] at C
  refine aCallH_gen [] C (by simp +contextual -dsimp only [↓SD, SU, SB, simprocAttr]) ?_
  rintro r hp' ⟨v1, rfl, rfl⟩ H1 hH1
  have h71 : hget H1 7 = some ⟨v, false, 74, 3, fillO nm vs l (AV.agg [.str (bs []), .int .i64 0, .nils]) k⟩ := by
   rw [hH1, hrest_no, hg_app_r (oh_ne fun h' => by have := h'.ge; omega)]; exact h7
  have e3 := fillO_set (nm := nm) (vs := v1) (vs' := vs) (z := (AV.agg [.str (bs []), .int .i64 0, .nils])) hlt
  rw [ov_TypeD] at e3
  simp +contextual -dsimp only [↓SD, SU, SB, simprocAttr, map_len, hlt, e, av_TypeD, ov_TypeD, h71, e1, e2, e3]
  rw [hH] at hH1
  refine ⟨by omega, Goes.le ⟨(k + 1, glue (sub nm k) v1 vs), ⟨hlt, (by first | omega | (simp only; omega))⟩, rfl⟩ (by simp +contextual -dsimp only [↓SD, SU, SB, simprocAttr, Int.natCast_add]) ?_⟩
  exact fill_le hlt (by omega) hH1
 ·obtain rfl : k = l.length := by omega
  rw [List.take_length]
  have ef : fillO nm vs l (AV.agg [.str (bs []), .int .i64 0, .nils]) l.length = ovL nm vs 0 l := by simp [fillO]
  rw [ef]
  obtain ⟨H, hH⟩ : ∃ H, H = ((7, ⟨v, false, 74, 3, ovL nm vs 0 l⟩) :: ohL nm vs 0 l : Hp) := ⟨_, rfl⟩
  rw [← hH]
  simp +contextual -dsimp only [↓SD, SU, SB, simprocAttr, map_len, Nat.lt_irrefl]
  rw [hH]
  refine Goes.ren 2 7 nm (v := v) (n := l.length) rfl hg_eq rfl fun v' => ?_
  obtain ⟨H', hH'⟩ : ∃ H', H' = ((nm, ⟨v', false, 74, 3, ovL nm vs 0 l⟩) :: hrest [7] ((7, ⟨v, false, 74, 3, ovL nm vs 0 l⟩) :: ohL nm vs 0 l) : Hp) := ⟨_, rfl⟩
  have hr : hget H' nm = some ⟨v', false, 74, 3, ovL nm vs 0 l⟩ := by rw [hH']; exact hg_eq
  have hle := full_le (α := TypeD) (nm := nm) (j := 7) (l := l) (vs := vs) (by omega) hH'
  dsimp only
  rw [← hH']
  refine Goes.post (oh nm (glue nm (fun k => if k = nm then v' else vs k) vs) l) ?_
  simp +contextual -dsimp only [↓SD, SU, SB, simprocAttr, hr]
  exact ⟨hle, _, (oh_full l).1.symm, rfl⟩

set_option maxHeartbeats 1000000 in
theorem markTypeS_own (nm : Nat) (vs : Nat → Nat) (l : List TypeD) (k : Int) (h0 : 1 ≤ k) (h1 : k + (Bulk.bulk l : Int) ≤ 4611686018427387904) : CallsH Tryz.prog 35 [ov nm vs l, .int .i64 k] (oh nm vs l) (MarkPost nm vs k l) := by
 refine ir_laws_markTypeS.H rfl ?_
 simp +contextual -dsimp only [↓SD, SU, SB, simprocAttr, ir_laws_markTypeS, ov_list]
 refine aLoop_of (X := Nat) (fun i => ⟨[(0, .row nm (vs nm) l.length), (1, .int .i64 (k + (cntL (l.take i) : Int))), (5, .int .i64 i)], oh nm vs (mkTo k l i)⟩) (fun i => i ≤ l.length) (fun i => l.length - i) 0 (Nat.zero_le _) (by simp +contextual -dsimp only [↓SD, SU, SB, simprocAttr, List.take_zero, cntL_nil, Int.natCast_zero, Int.add_zero]) (by rw [mkTo_zero]; exact OVal.self _ _ _) ?_
 rintro i hi
 by_cases hlt : i < l.length
 ·have hLi : i < (mkTo k l i).length := by rw [mkTo_len hi]; exact hlt
  have hLl : (mkTo k l i).length = l.length := mkTo_len hi
  have hgi := mkTo_get hlt hLi
  have hsf := mkTo_set (k := k) hlt
  have hroom := cntL_roomB hlt
  have htake := cntL_take hlt
  have hle := cntL_le l (i + 1)
  have e := ovL_get nm vs (mkTo k l i) hLi .top
  rw [hgi, ov_TypeD] at e
  have hel := oh_elem (nm := nm) (vs := vs) hLi
  rw [hgi, oh_TypeD] at hel
  have hr := oh_root nm vs (mkTo k l i)
  have hlen : (ovL nm vs 0 (mkTo k l i)).length = l.length := by rw [ovL_len, hLl]
  obtain ⟨x, hx⟩ : ∃ x, x = l[i] := ⟨_, rfl⟩
  obtain ⟨K, hK⟩ : ∃ K, K = k + (cntL (l.take i) : Int) := ⟨_, rfl⟩
  try rw [← hx] at e
  try rw [← hx] at hroom
  try rw [← hx] at htake
  try rw [← hx] at hel
  rw [← hx] at hsf
  rw [← hK] at hsf
  rw [lbox] at hr
  obtain ⟨E, hE⟩ : ∃ E, E = ovL nm vs 0 (mkTo k l i) := ⟨_, rfl⟩
  have hcount : cnt x = 2 + cntL x.cons := rfl
  rw [hcount] at htake
  have hbx : Bulk.bulk x = Bulk.bulk x.name + Bulk.bulk x.params + Bulk.bulk x.cons + 1 := rfl
  have hbx_0 : Bulk.bulk x.name = x.name.size + 1 := rfl
  have hbx_1 : Bulk.bulk x.params = 1 := rfl
  have hbx_2 := cntL_bulk x.cons
  have hbl := bulk_length l
  have hKn : k + (cntL (l.take (i + 1)) : Int) = K + 1 + 1 + (cntL x.cons : Int) := by rw [htake]; omega
  have hKb : K + (Bulk.bulk x : Int) ≤ 4611686018427387904 := by omega
  have hK1 : 1 ≤ K := by omega
  have hmk : ov (sub nm i) vs (mkv K x) = AV.agg [.str (markS (K)), .int .i64 (K + 1), .row (sub (sub nm i) 0) (vs (sub (sub nm i) 0)) x.cons.length] := by rw [mk_TypeD, ov_TypeD]; simp only [mkL_len]
  have hus : ovL nm vs 0 ((mkTo k l i).set i (mkv K x)) = E.set i (AV.agg [.str (markS (K)), .int .i64 (K + 1), .row (sub (sub nm i) 0) (vs (sub (sub nm i) 0)) x.cons.length]) := by rw [ovL_set, hmk, ← hE]
  rw [← hE] at e hlen hr
  rw [← hK]
  have gs : ∀ a, (E.set i a).getD i .top = a := fun a => by rw [List.getD_eq_getElem?_getD, List.getElem?_set_self (by rw [hlen]; exact hlt)]; rfl
  have ls : ∀ a, (E.set i a).length = l.length := fun a => by rw [List.length_set, hlen]
  obtain ⟨H, hH⟩ : ∃ H, H = oh nm vs (mkTo k l i) := ⟨_, rfl⟩
  rw [← hH] at hr hel
  have hq : ∀ q, ¬ InT (sub nm i) q → q ≠ nm → hget H q = hget (oh nm vs (mkTo k l i)) q := fun q _ _ => by rw [hH]
  rw [show (AVal.n TypeD) = 3 from rfl] at hr
  rw [← hH]
  clear hH
  have hl0 := hel
  have hk0 := hpLe_root hl0
  have hn0 : ¬ InT (sub (sub nm i) 0) nm := part_ne
  have hb0 : (nm == sub (sub nm i) 0) = false := part_beq
  simp +contextual -dsimp only [↓SD, SU, SB, simprocAttr, hlt, hlen, e, gs, ls, List.set_set, ov_list, false_and, hr, hk0, hb0]
  repeat (refine And.intro (by omega) ?_)
  refine aCallK_of _ (markText_at (K) (by omega) (by omega)) ?_
  simp +contextual -dsimp only [↓SD, SU, SB, simprocAttr, hlt, hlen, e, gs, ls, List.set_set, ov_list, false_and, hr, hk0, hb0]
  repeat (refine And.intro (by omega) ?_)
  refine aCallH_gen (on (sub (sub nm i) 0) x.cons) (markConS_own (sub (sub nm i) 0) vs x.cons _ (by omega) (by omega)) (hsel_on (by repeat (first | exact hl0 | refine hpLe_skip hn0 ?_))) ?_
  rintro r hp' ⟨rfl, rfl⟩ H0 hH0
  have hr0 := part_root hH0 hn0 hg_eq
  have hq0 := part_far (X := fun q => hget (oh nm vs (mkTo k l i)) q) hH0 (by repeat (first | exact hq | refine far_cons ?_))
  have hd0 := part_done hH0
  rw [cnt_list]
  simp +contextual -dsimp only [↓SD, SU, SB, simprocAttr, hlt, hlen, e, gs, ls, List.set_set, ov_list, false_and, hr0, hb0]
  repeat (refine And.intro (by omega) ?_)
  refine Goes.le ⟨i + 1, ⟨hlt, (by first | omega | (simp only; omega))⟩, rfl⟩ (by simp +contextual -dsimp only [↓SD, SU, SB, simprocAttr, Int.natCast_add, hKn]) ?_
  rw [← hsf]
  refine oh_upd hLi ?_ ?_ ?_
  ·repeat (first | exact hq0 | refine far_cons ?_)
  ·rw [lbox, hus]; first | exact hg_eq | exact hr0
  ·rw [oh_TypeD]; exact (by repeat (first | exact hd0 | refine hpLe_skip hn0 ?_))
 ·obtain rfl : i = l.length := by omega
  rw [mkTo_full, cntL_full]
  have hr := oh_root nm vs (mkL k l)
  have hs := OVal.self nm vs (mkL k l)
  obtain ⟨H, hH⟩ : ∃ H, H = oh nm vs (mkL k l) := ⟨_, rfl⟩
  rw [← hH]
  simp +contextual -dsimp only [↓SD, SU, SB, simprocAttr, Nat.lt_irrefl, map_len]
  refine Goes.post H ?_
  simp +contextual -dsimp only [↓SD, SU, SB, simprocAttr]
  exact ⟨by rw [hH]; exact hs, rfl, by rw [hH]; rfl⟩

set_option maxHeartbeats 1000000 in
theorem heldTypeS_own (l : List TypeD) (k : Int) (h0 : 1 ≤ k) (h1 : k + (Bulk.bulk l : Int) ≤ 4611686018427387904) : CallsF Tryz.prog 37 [.sl ((mkL k l).map av), .int .i64 k] (.int .i64 (k + (cntL l : Int))) := by
 refine ir_laws_heldTypeS.F rfl (by simp; exact ⟨lav_clean _, pint _⟩) (pint _) ?_
 simp +contextual -dsimp only [↓SD, SU, SB, simprocAttr, ir_laws_heldTypeS, map_len, mkL_len]
 refine aLoop_of (X := Nat) (fun i => ⟨[(0, .sl ((mkL k l).map av)), (1, .int .i64 (k + (cntL (l.take i) : Int))), (5, .int .i64 i)], []⟩) (fun i => i ≤ l.length) (fun i => l.length - i) 0 (Nat.zero_le _) (by simp +contextual -dsimp only [↓SD, SU, SB, simprocAttr, List.take_zero, cntL_nil, Int.natCast_zero, Int.add_zero]) trivial ?_
 rintro i hi
 by_cases hlt : i < l.length
 ·have hroom := cntL_roomB hlt
  have htake := cntL_take hlt
  have e := getD_map av (mkL k l) i .top (by rw [mkL_len]; exact hlt)
  rw [mkL_get k l i hlt] at e
  rw [mk_TypeD, av_TypeD] at e
  obtain ⟨x, hx⟩ : ∃ x, x = l[i] := ⟨_, rfl⟩
  obtain ⟨K, hK⟩ : ∃ K, K = k + (cntL (l.take i) : Int) := ⟨_, rfl⟩
  (rw [← hx] at hroom htake; try rw [← hx] at e)
  rw [← hK] at e ⊢
  have hcount : cnt x = 2 + cntL x.cons := rfl
  rw [hcount] at htake
  have hbx : Bulk.bulk x = Bulk.bulk x.name + Bulk.bulk x.params + Bulk.bulk x.cons + 1 := rfl
  have hbx_0 : Bulk.bulk x.name = x.name.size + 1 := rfl
  have hbx_1 : Bulk.bulk x.params = 1 := rfl
  have hbx_2 := cntL_bulk x.cons
  have hbl := bulk_length l
  have hKn : k + (cntL (l.take (i + 1)) : Int) = K + 1 + 1 + (cntL x.cons : Int) := by rw [htake]; omega
  have hKb : K + (Bulk.bulk x : Int) ≤ 4611686018427387904 := by omega
  have hK1 : 1 ≤ K := by omega
  simp +contextual -dsimp only [↓SD, SU, SB, simprocAttr, hlt, map_len, mkL_len, beq_self_eq_true, e]
  repeat (refine And.intro (by omega) ?_)
  refine aCallK_of _ (markText_at (K) (by omega) (by omega)) ?_
  simp +contextual -dsimp only [↓SD, SU, SB, simprocAttr, hlt, map_len, mkL_len, beq_self_eq_true, e]
  repeat (refine And.intro (by omega) ?_)
  refine aCallK_of _ (heldConS_own x.cons (K + 1 + 1) (by omega) (by omega)) ?_
  have g0 : ¬ K + 1 + 1 + (cntL x.cons : Int) < 0 := by omega
  simp +contextual -dsimp only [↓SD, SU, SB, simprocAttr, hlt, map_len, mkL_len, beq_self_eq_true, e, g0]
  repeat (refine And.intro (by omega) ?_)
  exact Goes.le ⟨i + 1, ⟨hlt, (by first | omega | (simp only; omega))⟩, rfl⟩ (by simp +contextual -dsimp only [↓SD, SU, SB, simprocAttr, Int.natCast_add, hKn]) trivial
 ·obtain rfl : i = l.length := by omega
  rw [cntL_full]
  simp +contextual -dsimp only [↓SD, SU, SB, simprocAttr, Nat.lt_irrefl, map_len, mkL_len]

instance : OVal Node where
 ty := 44
 ov nm vs x := .agg [.int .i64 x.kind, .int .i64 x.pos, .int .i64 x.n, .str x.s, ov (sub nm 0) vs x.kids, ov (sub nm 1) vs x.pats]
 oh nm vs x := oh (sub nm 0) vs x.kids ++ oh (sub nm 1) vs x.pats
 on nm x := on (sub nm 0) x.kids ++ on (sub nm 1) x.pats
 names nm vs x := by simp only [List.map_append, OVal.names]
 inn nm x k h := by rcases List.mem_append.1 h with h | h <;> exact (OVal.inn _ _ _ h).up
 self nm vs x := self2 (OVal.self _ _ _) (OVal.self _ _ _) fun p hp q hq e => by
  have h1 := OVal.inh hp
  have h2 := OVal.inh hq
  rw [e] at h2
  have := h1.sib h2
  omega
 vdep nm vs vs' x h := by
  obtain ⟨a0, b0⟩ := OVal.vdep (sub nm 0) vs vs' x.kids (fun k hk => h k hk.up)
  obtain ⟨a1, b1⟩ := OVal.vdep (sub nm 1) vs vs' x.pats (fun k hk => h k hk.up)
  simp only [a0, b0, a1, b1, and_self]
 lend nm vs x hp h := by
  rw [hpLe_app] at h
  have h0 := OVal.lend (sub nm 0) vs x.kids hp h.1
  have h1 := OVal.lend (sub nm 1) vs x.pats (frzL (on (sub nm 0) x.kids) hp) (hpLe_frz (fun p hp => on_out (sib_ne (by omega) (OVal.inh hp))) h.2)
  rw [← frzL_app] at h1
  have d0 : (ov (sub nm 0) vs x.kids).pur (frzL (on (sub nm 0) x.kids ++ on (sub nm 1) x.pats) hp) = (ov (sub nm 0) vs x.kids).pur (frzL (on (sub nm 0) x.kids) hp) := OVal.dep _ _ _ _ _ fun k hk => by
   rw [frzL_app, hget_frzL_out (on_out (sib_ne (by omega) hk))]
  rw [← d0] at h0
  show AV.agg [.int .i64 x.kind, .int .i64 x.pos, .int .i64 x.n, .str x.s, (ov (sub nm 0) vs x.kids).pur (frzL (on (sub nm 0) x.kids ++ on (sub nm 1) x.pats) hp), (ov (sub nm 1) vs x.pats).pur (frzL (on (sub nm 0) x.kids ++ on (sub nm 1) x.pats) hp)] = av x
  rw [h0, h1]; rfl
 dep nm vs x hp hp' h := by
  have h0 := OVal.dep (sub nm 0) vs x.kids hp hp' (fun k hk => h k hk.up)
  have h1 := OVal.dep (sub nm 1) vs x.pats hp hp' (fun k hk => h k hk.up)
  show AV.agg [.int .i64 x.kind, .int .i64 x.pos, .int .i64 x.n, .str x.s, (ov (sub nm 0) vs x.kids).pur hp, (ov (sub nm 1) vs x.pats).pur hp] = AV.agg [.int .i64 x.kind, .int .i64 x.pos, .int .i64 x.n, .str x.s, (ov (sub nm 0) vs x.kids).pur hp', (ov (sub nm 1) vs x.pats).pur hp']
  rw [h0, h1]
 free nm vs x p h := by rcases List.mem_append.1 h with h | h <;> exact OVal.free _ _ _ p h
 cfree nm vs x y hx := by
  simp only [AV.cells, List.mem_cons, List.not_mem_nil, or_false] at hx
  rcases hx with rfl | rfl | rfl | rfl | rfl | rfl <;> rfl
 ok _ _ _ := rfl
 agg _ _ _ := rfl
 len _ _ _ := rfl
theorem ov_Node (nm : Nat) (vs : Nat → Nat) (x : Node) : ov nm vs x = .agg [.int .i64 x.kind, .int .i64 x.pos, .int .i64 x.n, .str x.s, .row (sub nm 0) (vs (sub nm 0)) x.kids.length, .row (sub nm 1) (vs (sub nm 1)) x.pats.length] := eqq rfl
theorem oh_Node (nm : Nat) (vs : Nat → Nat) (x : Node) : oh nm vs x = oh (sub nm 0) vs x.kids ++ oh (sub nm 1) vs x.pats := rfl

instance : Mk Node := ⟨fun k x => ⟨k, k + 1, k + 1 + 1, markS (k + 1 + 1 + 1), mkL (k + 1 + 1 + 1 + 1) x.kids, mkL (k + 1 + 1 + 1 + 1 + (cntL x.kids : Int)) x.pats⟩, fun x => 4 + cntL x.kids + cntL x.pats⟩
theorem mk_Node (k : Int) (x : Node) : mkv k x = ⟨k, k + 1, k + 1 + 1, markS (k + 1 + 1 + 1), mkL (k + 1 + 1 + 1 + 1) x.kids, mkL (k + 1 + 1 + 1 + 1 + (cntL x.kids : Int)) x.pats⟩ := rfl
theorem cnt_Node (x : Node) : cnt x = 4 + cntL x.kids + cntL x.pats := rfl
instance : MkB Node := ⟨fun x => by
 have hbx : Bulk.bulk x = Bulk.bulk x.kind + Bulk.bulk x.pos + Bulk.bulk x.n + Bulk.bulk x.s + Bulk.bulk x.kids + Bulk.bulk x.pats + 1 := rfl
 have hbx_0 : Bulk.bulk x.kind = 1 := rfl
 have hbx_1 : Bulk.bulk x.pos = 1 := rfl
 have hbx_2 : Bulk.bulk x.n = 1 := rfl
 have hbx_3 : Bulk.bulk x.s = x.s.size + 1 := rfl
 have hbx_4 := cntL_bulk x.kids
 have hbx_5 := cntL_bulk x.pats
 rw [cnt_Node]
 omega⟩

theorem toNode_own (nm : Nat) (x : Node) (hx : Bulk.bulk x ≤ 4294967296) : CallsH Tryz.prog 56 [av x] [] (ToPost nm x) := by
 have hb : Bulk.bulk x.kind + Bulk.bulk x.pos + Bulk.bulk x.n + Bulk.bulk x.s + Bulk.bulk x.kids + Bulk.bulk x.pats + 1 ≤ 4294967296 := hx
 refine ir_laws_toNode_H.H rfl ?_
 simp +contextual -dsimp only [↓SD, SU, SB, simprocAttr, ir_laws_toNode_H, av_Node]
 (repeat' (first | intro _ | refine And.intro ?_ ?_))
 refine aCallH_gen [] (toIntS_own (sub nm 0) x.kids (by omega)) (by simp +contextual -dsimp only [↓SD, SU, SB, simprocAttr]) ?_
 rintro r hp' ⟨v0, rfl, rfl⟩ H0 hH0
 rw [hrest_no] at hH0
 have hold0 := old_get hH0
 have ho0_0 : hpLe H0 (oh (sub nm 0) v0 x.kids) := by rw [hH0]; exact hpLe_l (OVal.self _ _ _)
 have hr0_0 := hpLe_root ho0_0
 simp +contextual -dsimp only [↓SD, SU, SB, simprocAttr, ov_list, low_beq, hold0, hr0_0]
 refine aCallH_gen [] (toPatS_own (sub nm 1) x.pats (by omega)) (by simp +contextual -dsimp only [↓SD, SU, SB, simprocAttr]) ?_
 rintro r hp' ⟨v1, rfl, rfl⟩ H1 hH1
 rw [hrest_no] at hH1
 have hold1 := old_get hH1
 have ho1_1 : hpLe H1 (oh (sub nm 1) v1 x.pats) := by rw [hH1]; exact hpLe_l (OVal.self _ _ _)
 have hr1_1 := hpLe_root ho1_1
 have ho1_0 : hpLe H1 (oh (sub nm 0) v0 x.kids) := hpLe_iff.2 fun p hp => by rw [hH1, hg_app_r (oh_ne (sib_ne (by omega) (OVal.inh hp)))]; exact hpLe_iff.1 (by repeat (first | exact ho0_0 | refine hpLe_low ?_ (by omega))) p hp
 have hr1_0 := hpLe_root ho1_0
 simp +contextual -dsimp only [↓SD, SU, SB, simprocAttr, ov_list, low_beq, hold0, hold1, hr1_0, hr1_1]
 have hne : ∀ k, InT (sub nm 1) k → ¬ InT (sub nm 0) k := fun k h => sib_ne (by omega) h
 have he : oh nm (glue (sub nm 0) v0 v1) x = oh (sub nm 0) v0 x.kids ++ oh (sub nm 1) v1 x.pats := by rw [oh_Node, oh_glue, oh_glue' v0 v1 _ hne]
 refine Goes.post (oh nm (glue (sub nm 0) v0 v1) x) ?_
 simp +contextual -dsimp only [↓SD, SU, SB, simprocAttr, low_beq, hold1, hold0, false_and, hr1_0, hr1_1]
 refine ⟨?_, _, ?_, rfl⟩
 ·rw [he, hpLe_app]
  exact ⟨(by repeat (first | exact ho1_0 | refine hpLe_low ?_ (by omega))), (by repeat (first | exact ho1_1 | refine hpLe_low ?_ (by omega)))⟩
 ·rw [ov_Node, glue_in .root, glue_out (hne _ .root)]

theorem toNodeS_own (nm : Nat) (l : List Node) (hx : Bulk.bulk l ≤ 4294967296) : CallsH Tryz.prog 28 [.sl (l.map av)] [] (ToPost nm l) := by
 have hl := bulk_length l
 refine ir_laws_toNodeS_H.H rfl ?_
 simp +contextual -dsimp only [↓SD, SU, SB, simprocAttr, ir_laws_toNodeS_H, map_len]
 refine ⟨by omega, fun v => ?_⟩
 refine aLoop_of (X := Nat × (Nat → Nat)) (fun x => ⟨[(0, .sl (l.map av)), (3, .row 7 v l.length), (4, .int .i64 x.1)], (7, ⟨v, false, 44, 6, fillO nm x.2 l (AV.agg [.int .i64 0, .int .i64 0, .int .i64 0, .str (bs []), .nils, .nils]) x.1⟩) :: ohL nm x.2 0 (l.take x.1)⟩) (fun x => x.1 ≤ l.length) (fun x => l.length - x.1) (0, fun _ => 0) (Nat.zero_le _) (by simp +contextual -dsimp only [↓SD, SU, SB, simprocAttr]) (by simp +contextual -dsimp only [↓SD, SU, SB, simprocAttr, fillO_zero, List.take_zero, ohL_nil]) ?_
 rintro ⟨k, vs⟩ hk
 dsimp only at hk ⊢
 by_cases hlt : k < l.length
 ·have e := getD_map av l k .top hlt
  have hbk : Bulk.bulk l[k] ≤ 4294967296 := by have := bulk_mem (List.getElem_mem hlt); omega
  have e1 := fillO_len (nm := nm) (vs := vs) (AV.agg [.int .i64 0, .int .i64 0, .int .i64 0, .str (bs []), .nils, .nils]) hk
  have e2 := fillO_get (nm := nm) (vs := vs) (AV.agg [.int .i64 0, .int .i64 0, .int .i64 0, .str (bs []), .nils, .nils]) hlt .top
  obtain ⟨H, hH⟩ : ∃ H, H = ((7, ⟨v, false, 44, 6, fillO nm vs l (AV.agg [.int .i64 0, .int .i64 0, .int .i64 0, .str (bs []), .nils, .nils]) k⟩) :: ohL nm vs 0 (l.take k) : Hp) := ⟨_, rfl⟩
  have h7 : hget H 7 = some ⟨v, false, 44, 6, fillO nm vs l (AV.agg [.int .i64 0, .int .i64 0, .int .i64 0, .str (bs []), .nils, .nils]) k⟩ := by rw [hH]; exact hg_eq
  rw [← hH]
  simp +contextual -dsimp only [↓SD, SU, SB, simprocAttr, map_len, hlt, e, av_Node, h7]
  have C := toNode_own (sub nm k) l[k] hbk
  rw [av_Node] at C
  refine aCallH_gen [] C (by simp +contextual -dsimp only [↓SD, SU, SB, simprocAttr]) ?_
  rintro r hp' ⟨v1, rfl, rfl⟩ H1 hH1
  have h71 : hget H1 7 = some ⟨v, false, 44, 6, fillO nm vs l (AV.agg [.int .i64 0, .int .i64 0, .int .i64 0, .str (bs []), .nils, .nils]) k⟩ := by
   rw [hH1, hrest_no, hg_app_r (oh_ne fun h' => by have := h'.ge; omega)]; exact h7
  have e3 := fillO_set (nm := nm) (vs := v1) (vs' := vs) (z := (AV.agg [.int .i64 0, .int .i64 0, .int .i64 0, .str (bs []), .nils, .nils])) hlt
  rw [ov_Node] at e3
  simp +contextual -dsimp only [↓SD, SU, SB, simprocAttr, map_len, hlt, e, av_Node, ov_Node, h71, e1, e2, e3]
  rw [hH] at hH1
  refine ⟨by omega, Goes.le ⟨(k + 1, glue (sub nm k) v1 vs), ⟨hlt, (by first | omega | (simp only; omega))⟩, rfl⟩ (by simp +contextual -dsimp only [↓SD, SU, SB, simprocAttr, Int.natCast_add]) ?_⟩
  exact fill_le hlt (by omega) hH1
 ·obtain rfl : k = l.length := by omega
  rw [List.take_length]
  have ef : fillO nm vs l (AV.agg [.int .i64 0, .int .i64 0, .int .i64 0, .str (bs []), .nils, .nils]) l.length = ovL nm vs 0 l := by simp [fillO]
  rw [ef]
  obtain ⟨H, hH⟩ : ∃ H, H = ((7, ⟨v, false, 44, 6, ovL nm vs 0 l⟩) :: ohL nm vs 0 l : Hp) := ⟨_, rfl⟩
  rw [← hH]
  simp +contextual -dsimp only [↓SD, SU, SB, simprocAttr, map_len, Nat.lt_irrefl]
  rw [hH]
  refine Goes.ren 2 7 nm (v := v) (n := l.length) rfl hg_eq rfl fun v' => ?_
  obtain ⟨H', hH'⟩ : ∃ H', H' = ((nm, ⟨v', false, 44, 6, ovL nm vs 0 l⟩) :: hrest [7] ((7, ⟨v, false, 44, 6, ovL nm vs 0 l⟩) :: ohL nm vs 0 l) : Hp) := ⟨_, rfl⟩
  have hr : hget H' nm = some ⟨v', false, 44, 6, ovL nm vs 0 l⟩ := by rw [hH']; exact hg_eq
  have hle := full_le (α := Node) (nm := nm) (j := 7) (l := l) (vs := vs) (by omega) hH'
  dsimp only
  rw [← hH']
  refine Goes.post (oh nm (glue nm (fun k => if k = nm then v' else vs k) vs) l) ?_
  simp +contextual -dsimp only [↓SD, SU, SB, simprocAttr, hr]
  exact ⟨hle, _, (oh_full l).1.symm, rfl⟩

set_option maxHeartbeats 1000000 in
theorem markNodeS_own (nm : Nat) (vs : Nat → Nat) (l : List Node) (k : Int) (h0 : 1 ≤ k) (h1 : k + (Bulk.bulk l : Int) ≤ 4611686018427387904) : CallsH Tryz.prog 36 [ov nm vs l, .int .i64 k] (oh nm vs l) (MarkPost nm vs k l) := by
 refine ir_laws_markNodeS.H rfl ?_
 simp +contextual -dsimp only [↓SD, SU, SB, simprocAttr, ir_laws_markNodeS, ov_list]
 refine aLoop_of (X := Nat) (fun i => ⟨[(0, .row nm (vs nm) l.length), (1, .int .i64 (k + (cntL (l.take i) : Int))), (5, .int .i64 i)], oh nm vs (mkTo k l i)⟩) (fun i => i ≤ l.length) (fun i => l.length - i) 0 (Nat.zero_le _) (by simp +contextual -dsimp only [↓SD, SU, SB, simprocAttr, List.take_zero, cntL_nil, Int.natCast_zero, Int.add_zero]) (by rw [mkTo_zero]; exact OVal.self _ _ _) ?_
 rintro i hi
 by_cases hlt : i < l.length
 ·have hLi : i < (mkTo k l i).length := by rw [mkTo_len hi]; exact hlt
  have hLl : (mkTo k l i).length = l.length := mkTo_len hi
  have hgi := mkTo_get hlt hLi
  have hsf := mkTo_set (k := k) hlt
  have hroom := cntL_roomB hlt
  have htake := cntL_take hlt
  have hle := cntL_le l (i + 1)
  have e := ovL_get nm vs (mkTo k l i) hLi .top
  rw [hgi, ov_Node] at e
  have hel := oh_elem (nm := nm) (vs := vs) hLi
  rw [hgi, oh_Node, hpLe_app] at hel
  have hr := oh_root nm vs (mkTo k l i)
  have hlen : (ovL nm vs 0 (mkTo k l i)).length = l.length := by rw [ovL_len, hLl]
  obtain ⟨x, hx⟩ : ∃ x, x = l[i] := ⟨_, rfl⟩
  obtain ⟨K, hK⟩ : ∃ K, K = k + (cntL (l.take i) : Int) := ⟨_, rfl⟩
  try rw [← hx] at e
  try rw [← hx] at hroom
  try rw [← hx] at htake
  try rw [← hx] at hel
  rw [← hx] at hsf
  rw [← hK] at hsf
  rw [lbox] at hr
  obtain ⟨E, hE⟩ : ∃ E, E = ovL nm vs 0 (mkTo k l i) := ⟨_, rfl⟩
  have hcount : cnt x = 4 + cntL x.kids + cntL x.pats := rfl
  rw [hcount] at htake
  have hbx : Bulk.bulk x = Bulk.bulk x.kind + Bulk.bulk x.pos + Bulk.bulk x.n + Bulk.bulk x.s + Bulk.bulk x.kids + Bulk.bulk x.pats + 1 := rfl
  have hbx_0 : Bulk.bulk x.kind = 1 := rfl
  have hbx_1 : Bulk.bulk x.pos = 1 := rfl
  have hbx_2 : Bulk.bulk x.n = 1 := rfl
  have hbx_3 : Bulk.bulk x.s = x.s.size + 1 := rfl
  have hbx_4 := cntL_bulk x.kids
  have hbx_5 := cntL_bulk x.pats
  have hbl := bulk_length l
  have hKn : k + (cntL (l.take (i + 1)) : Int) = K + 1 + 1 + 1 + 1 + (cntL x.kids : Int) + (cntL x.pats : Int) := by rw [htake]; omega
  have hKb : K + (Bulk.bulk x : Int) ≤ 4611686018427387904 := by omega
  have hK1 : 1 ≤ K := by omega
  have hmk : ov (sub nm i) vs (mkv K x) = AV.agg [.int .i64 (K), .int .i64 (K + 1), .int .i64 (K + 1 + 1), .str (markS (K + 1 + 1 + 1)), .row (sub (sub nm i) 0) (vs (sub (sub nm i) 0)) x.kids.length, .row (sub (sub nm i) 1) (vs (sub (sub nm i) 1)) x.pats.length] := by rw [mk_Node, ov_Node]; simp only [mkL_len]
  have hus : ovL nm vs 0 ((mkTo k l i).set i (mkv K x)) = E.set i (AV.agg [.int .i64 (K), .int .i64 (K + 1), .int .i64 (K + 1 + 1), .str (markS (K + 1 + 1 + 1)), .row (sub (sub nm i) 0) (vs (sub (sub nm i) 0)) x.kids.length, .row (sub (sub nm i) 1) (vs (sub (sub nm i) 1)) x.pats.length]) := by rw [ovL_set, hmk, ← hE]
  rw [← hE] at e hlen hr
  rw [← hK]
  have gs : ∀ a, (E.set i a).getD i .top = a := fun a => by rw [List.getD_eq_getElem?_getD, List.getElem?_set_self (by rw [hlen]; exact hlt)]; rfl
  have ls : ∀ a, (E.set i a).length = l.length := fun a => by rw [List.length_set, hlen]
  obtain ⟨H, hH⟩ : ∃ H, H = oh nm vs (mkTo k l i) := ⟨_, rfl⟩
  rw [← hH] at hr hel
  have hq : ∀ q, ¬ InT (sub nm i) q → q ≠ nm → hget H q = hget (oh nm vs (mkTo k l i)) q := fun q _ _ => by rw [hH]
  rw [show (AVal.n Node) = 6 from rfl] at hr
  rw [← hH]
  clear hH
  have hl0 := hel.1
  have hk0 := hpLe_root hl0
  have hn0 : ¬ InT (sub (sub nm i) 0) nm := part_ne
  have hb0 : (nm == sub (sub nm i) 0) = false := part_beq
  have hl1 := hel.2
  have hk1 := hpLe_root hl1
  have hn1 : ¬ InT (sub (sub nm i) 1) nm := part_ne
  have hb1 : (nm == sub (sub nm i) 1) = false := part_beq
  simp +contextual -dsimp only [↓SD, SU, SB, simprocAttr, hlt, hlen, e, gs, ls, List.set_set, ov_list, false_and, hr, hk0, hk1, hb0, hb1]
  repeat (refine And.intro (by omega) ?_)
  refine aCallK_of _ (markText_at (K + 1 + 1 + 1) (by omega) (by omega)) ?_
  simp +contextual -dsimp only [↓SD, SU, SB, simprocAttr, hlt, hlen, e, gs, ls, List.set_set, ov_list, false_and, hr, hk0, hk1, hb0, hb1]
  repeat (refine And.intro (by omega) ?_)
  refine aCallH_gen (on (sub (sub nm i) 0) x.kids) (markIntS_own (sub (sub nm i) 0) vs x.kids _ (by omega) (by omega)) (hsel_on (by repeat (first | exact hl0 | refine hpLe_skip hn0 ?_))) ?_
  rintro r hp' ⟨rfl, rfl⟩ H0 hH0
  have hr0 := part_root hH0 hn0 hg_eq
  have hq0 := part_far (X := fun q => hget (oh nm vs (mkTo k l i)) q) hH0 (by repeat (first | exact hq | refine far_cons ?_))
  have hd0 := part_done hH0
  first | have hl1_0 := part_other hH0 (fun k h => sib_ne (by omega) h) hl1 | have hl1_0 := part_other hH0 (fun k h => sib_ne (by omega) h) (hpLe_skip hn1 hl1) | have hl1_0 := part_other hH0 (fun k h => sib_ne (by omega) h) (hpLe_skip hn1 (hpLe_skip hn1 hl1)) | have hl1_0 := part_other hH0 (fun k h => sib_ne (by omega) h) (hpLe_skip hn1 (hpLe_skip hn1 (hpLe_skip hn1 hl1))) | have hl1_0 := part_other hH0 (fun k h => sib_ne (by omega) h) (hpLe_skip hn1 (hpLe_skip hn1 (hpLe_skip hn1 (hpLe_skip hn1 hl1)))) | have hl1_0 := part_other hH0 (fun k h => sib_ne (by omega) h) (hpLe_skip hn1 (hpLe_skip hn1 (hpLe_skip hn1 (hpLe_skip hn1 (hpLe_skip hn1 hl1))))) | have hl1_0 := part_other hH0 (fun k h => sib_ne (by omega) h) (hpLe_skip hn1 (hpLe_skip hn1 (hpLe_skip hn1 (hpLe_skip hn1 (hpLe_skip hn1 (hpLe_skip hn1 hl1)))))) | have hl1_0 := part_other hH0 (fun k h => sib_ne (by omega) h) (hpLe_skip hn1 (hpLe_skip hn1 (hpLe_skip hn1 (hpLe_skip hn1 (hpLe_skip hn1 (hpLe_skip hn1 (hpLe_skip hn1 hl1)))))))
  have hk1_0 := hpLe_root hl1_0
  rw [cnt_list]
  simp +contextual -dsimp only [↓SD, SU, SB, simprocAttr, hlt, hlen, e, gs, ls, List.set_set, ov_list, false_and, hr0, hk1_0, hb0, hb1]
  repeat (refine And.intro (by omega) ?_)
  refine aCallH_gen (on (sub (sub nm i) 1) x.pats) (markPatS_own (sub (sub nm i) 1) vs x.pats _ (by omega) (by omega)) (hsel_on (by repeat (first | exact hl1_0 | refine hpLe_skip hn1 ?_))) ?_
  rintro r hp' ⟨rfl, rfl⟩ H1 hH1
  have hr1 := part_root hH1 hn1 hr0
  have hq1 := part_far (X := fun q => hget (oh nm vs (mkTo k l i)) q) hH1 (by repeat (first | exact hq0 | refine far_cons ?_))
  have hd1 := part_done hH1
  first | have hd0_1 := part_other hH1 (fun k h => sib_ne (by omega) h) hd0 | have hd0_1 := part_other hH1 (fun k h => sib_ne (by omega) h) (hpLe_skip hn0 hd0) | have hd0_1 := part_other hH1 (fun k h => sib_ne (by omega) h) (hpLe_skip hn0 (hpLe_skip hn0 hd0)) | have hd0_1 := part_other hH1 (fun k h => sib_ne (by omega) h) (hpLe_skip hn0 (hpLe_skip hn0 (hpLe_skip hn0 hd0))) | have hd0_1 := part_other hH1 (fun k h => sib_ne (by omega) h) (hpLe_skip hn0 (hpLe_skip hn0 (hpLe_skip hn0 (hpLe_skip hn0 hd0)))) | have hd0_1 := part_other hH1 (fun k h => sib_ne (by omega) h) (hpLe_skip hn0 (hpLe_skip hn0 (hpLe_skip hn0 (hpLe_skip hn0 (hpLe_skip hn0 hd0))))) | have hd0_1 := part_other hH1 (fun k h => sib_ne (by omega) h) (hpLe_skip hn0 (hpLe_skip hn0 (hpLe_skip hn0 (hpLe_skip hn0 (hpLe_skip hn0 (hpLe_skip hn0 hd0)))))) | have hd0_1 := part_other hH1 (fun k h => sib_ne (by omega) h) (hpLe_skip hn0 (hpLe_skip hn0 (hpLe_skip hn0 (hpLe_skip hn0 (hpLe_skip hn0 (hpLe_skip hn0 (hpLe_skip hn0 hd0)))))))
  rw [cnt_list]
  simp +contextual -dsimp only [↓SD, SU, SB, simprocAttr, hlt, hlen, e, gs, ls, List.set_set, ov_list, false_and, hr1, hb0, hb1]
  repeat (refine And.intro (by omega) ?_)
  refine Goes.le ⟨i + 1, ⟨hlt, (by first | omega | (simp only; omega))⟩, rfl⟩ (by simp +contextual -dsimp only [↓SD, SU, SB, simprocAttr, Int.natCast_add, hKn]) ?_
  rw [← hsf]
  refine oh_upd hLi ?_ ?_ ?_
  ·repeat (first | exact hq1 | refine far_cons ?_)
  ·rw [lbox, hus]; first | exact hg_eq | exact hr1
  ·rw [oh_Node]; exact hpLe_app.2 ⟨(by repeat (first | exact hd0_1 | refine hpLe_skip hn0 ?_)), (by repeat (first | exact hd1 | refine hpLe_skip hn1 ?_))⟩
 ·obtain rfl : i = l.length := by omega
  rw [mkTo_full, cntL_full]
  have hr := oh_root nm vs (mkL k l)
  have hs := OVal.self nm vs (mkL k l)
  obtain ⟨H, hH⟩ : ∃ H, H = oh nm vs (mkL k l) := ⟨_, rfl⟩
  rw [← hH]
  simp +contextual -dsimp only [↓SD, SU, SB, simprocAttr, Nat.lt_irrefl, map_len]
  refine Goes.post H ?_
  simp +contextual -dsimp only [↓SD, SU, SB, simprocAttr]
  exact ⟨by rw [hH]; exact hs, rfl, by rw [hH]; rfl⟩

set_option maxHeartbeats 1000000 in
theorem heldNodeS_own (l : List Node) (k : Int) (h0 : 1 ≤ k) (h1 : k + (Bulk.bulk l : Int) ≤ 4611686018427387904) : CallsF Tryz.prog 38 [.sl ((mkL k l).map av), .int .i64 k] (.int .i64 (k + (cntL l : Int))) := by
 refine ir_laws_heldNodeS.F rfl (by simp; exact ⟨lav_clean _, pint _⟩) (pint _) ?_
 simp +contextual -dsimp only [↓SD, SU, SB, simprocAttr, ir_laws_heldNodeS, map_len, mkL_len]
 refine aLoop_of (X := Nat) (fun i => ⟨[(0, .sl ((mkL k l).map av)), (1, .int .i64 (k + (cntL (l.take i) : Int))), (5, .int .i64 i)], []⟩) (fun i => i ≤ l.length) (fun i => l.length - i) 0 (Nat.zero_le _) (by simp +contextual -dsimp only [↓SD, SU, SB, simprocAttr, List.take_zero, cntL_nil, Int.natCast_zero, Int.add_zero]) trivial ?_
 rintro i hi
 by_cases hlt : i < l.length
 ·have hroom := cntL_roomB hlt
  have htake := cntL_take hlt
  have e := getD_map av (mkL k l) i .top (by rw [mkL_len]; exact hlt)
  rw [mkL_get k l i hlt] at e
  rw [mk_Node, av_Node] at e
  obtain ⟨x, hx⟩ : ∃ x, x = l[i] := ⟨_, rfl⟩
  obtain ⟨K, hK⟩ : ∃ K, K = k + (cntL (l.take i) : Int) := ⟨_, rfl⟩
  (rw [← hx] at hroom htake; try rw [← hx] at e)
  rw [← hK] at e ⊢
  have hcount : cnt x = 4 + cntL x.kids + cntL x.pats := rfl
  rw [hcount] at htake
  have hbx : Bulk.bulk x = Bulk.bulk x.kind + Bulk.bulk x.pos + Bulk.bulk x.n + Bulk.bulk x.s + Bulk.bulk x.kids + Bulk.bulk x.pats + 1 := rfl
  have hbx_0 : Bulk.bulk x.kind = 1 := rfl
  have hbx_1 : Bulk.bulk x.pos = 1 := rfl
  have hbx_2 : Bulk.bulk x.n = 1 := rfl
  have hbx_3 : Bulk.bulk x.s = x.s.size + 1 := rfl
  have hbx_4 := cntL_bulk x.kids
  have hbx_5 := cntL_bulk x.pats
  have hbl := bulk_length l
  have hKn : k + (cntL (l.take (i + 1)) : Int) = K + 1 + 1 + 1 + 1 + (cntL x.kids : Int) + (cntL x.pats : Int) := by rw [htake]; omega
  have hKb : K + (Bulk.bulk x : Int) ≤ 4611686018427387904 := by omega
  have hK1 : 1 ≤ K := by omega
  simp +contextual -dsimp only [↓SD, SU, SB, simprocAttr, hlt, map_len, mkL_len, beq_self_eq_true, e]
  repeat (refine And.intro (by omega) ?_)
  refine aCallK_of _ (markText_at (K + 1 + 1 + 1) (by omega) (by omega)) ?_
  simp +contextual -dsimp only [↓SD, SU, SB, simprocAttr, hlt, map_len, mkL_len, beq_self_eq_true, e]
  repeat (refine And.intro (by omega) ?_)
  refine aCallK_of _ (heldIntS_own x.kids (K + 1 + 1 + 1 + 1) (by omega) (by omega)) ?_
  have g0 : ¬ K + 1 + 1 + 1 + 1 + (cntL x.kids : Int) < 0 := by omega
  simp +contextual -dsimp only [↓SD, SU, SB, simprocAttr, hlt, map_len, mkL_len, beq_self_eq_true, e, g0]
  repeat (refine And.intro (by omega) ?_)
  refine aCallK_of _ (heldPatS_own x.pats (K + 1 + 1 + 1 + 1 + (cntL x.kids : Int)) (by omega) (by omega)) ?_
  have g1 : ¬ K + 1 + 1 + 1 + 1 + (cntL x.kids : Int) + (cntL x.pats : Int) < 0 := by omega
  simp +contextual -dsimp only [↓SD, SU, SB, simprocAttr, hlt, map_len, mkL_len, beq_self_eq_true, e, g0, g1]
  repeat (refine And.intro (by omega) ?_)
  exact Goes.le ⟨i + 1, ⟨hlt, (by first | omega | (simp only; omega))⟩, rfl⟩ (by simp +contextual -dsimp only [↓SD, SU, SB, simprocAttr, Int.natCast_add, hKn]) trivial
 ·obtain rfl : i = l.length := by omega
  rw [cntL_full]
  simp +contextual -dsimp only [↓SD, SU, SB, simprocAttr, Nat.lt_irrefl, map_len, mkL_len]

instance : OVal Program where
 ty := 30
 ov nm vs x := .agg [ov (sub nm 0) vs x.types, ov (sub nm 1) vs x.nodes]
 oh nm vs x := oh (sub nm 0) vs x.types ++ oh (sub nm 1) vs x.nodes
 on nm x := on (sub nm 0) x.types ++ on (sub nm 1) x.nodes
 names nm vs x := by simp only [List.map_append, OVal.names]
 inn nm x k h := by rcases List.mem_append.1 h with h | h <;> exact (OVal.inn _ _ _ h).up
 self nm vs x := self2 (OVal.self _ _ _) (OVal.self _ _ _) fun p hp q hq e => by
  have h1 := OVal.inh hp
  have h2 := OVal.inh hq
  rw [e] at h2
  have := h1.sib h2
  omega
 vdep nm vs vs' x h := by
  obtain ⟨a0, b0⟩ := OVal.vdep (sub nm 0) vs vs' x.types (fun k hk => h k hk.up)
  obtain ⟨a1, b1⟩ := OVal.vdep (sub nm 1) vs vs' x.nodes (fun k hk => h k hk.up)
  simp only [a0, b0, a1, b1, and_self]
 lend nm vs x hp h := by
  rw [hpLe_app] at h
  have h0 := OVal.lend (sub nm 0) vs x.types hp h.1
  have h1 := OVal.lend (sub nm 1) vs x.nodes (frzL (on (sub nm 0) x.types) hp) (hpLe_frz (fun p hp => on_out (sib_ne (by omega) (OVal.inh hp))) h.2)
  rw [← frzL_app] at h1
  have d0 : (ov (sub nm 0) vs x.types).pur (frzL (on (sub nm 0) x.types ++ on (sub nm 1) x.nodes) hp) = (ov (sub nm 0) vs x.types).pur (frzL (on (sub nm 0) x.types) hp) := OVal.dep _ _ _ _ _ fun k hk => by
   rw [frzL_app, hget_frzL_out (on_out (sib_ne (by omega) hk))]
  rw [← d0] at h0
  show AV.agg [(ov (sub nm 0) vs x.types).pur (frzL (on (sub nm 0) x.types ++ on (sub nm 1) x.nodes) hp), (ov (sub nm 1) vs x.nodes).pur (frzL (on (sub nm 0) x.types ++ on (sub nm 1) x.nodes) hp)] = av x
  rw [h0, h1]; rfl
 dep nm vs x hp hp' h := by
  have h0 := OVal.dep (sub nm 0) vs x.types hp hp' (fun k hk => h k hk.up)
  have h1 := OVal.dep (sub nm 1) vs x.nodes hp hp' (fun k hk => h k hk.up)
  show AV.agg [(ov (sub nm 0) vs x.types).pur hp, (ov (sub nm 1) vs x.nodes).pur hp] = AV.agg [(ov (sub nm 0) vs x.types).pur hp', (ov (sub nm 1) vs x.nodes).pur hp']
  rw [h0, h1]
 free nm vs x p h := by rcases List.mem_append.1 h with h | h <;> exact OVal.free _ _ _ p h
 cfree nm vs x y hx := by
  simp only [AV.cells, List.mem_cons, List.not_mem_nil, or_false] at hx
  rcases hx with rfl | rfl <;> rfl
 ok _ _ _ := rfl
 agg _ _ _ := rfl
 len _ _ _ := rfl
theorem ov_Program (nm : Nat) (vs : Nat → Nat) (x : Program) : ov nm vs x = .agg [.row (sub nm 0) (vs (sub nm 0)) x.types.length, .row (sub nm 1) (vs (sub nm 1)) x.nodes.length] := eqq rfl
theorem oh_Program (nm : Nat) (vs : Nat → Nat) (x : Program) : oh nm vs x = oh (sub nm 0) vs x.types ++ oh (sub nm 1) vs x.nodes := rfl

instance : Mk Program := ⟨fun k x => ⟨mkL (k) x.types, mkL (k + (cntL x.types : Int)) x.nodes⟩, fun x => cntL x.types + cntL x.nodes⟩
theorem mk_Program (k : Int) (x : Program) : mkv k x = ⟨mkL (k) x.types, mkL (k + (cntL x.types : Int)) x.nodes⟩ := rfl
theorem cnt_Program (x : Program) : cnt x = cntL x.types + cntL x.nodes := rfl
instance : MkB Program := ⟨fun x => by
 have hbx : Bulk.bulk x = Bulk.bulk x.types + Bulk.bulk x.nodes + 1 := rfl
 have hbx_0 := cntL_bulk x.types
 have hbx_1 := cntL_bulk x.nodes
 rw [cnt_Program]
 omega⟩

theorem toProgram_own (nm : Nat) (x : Program) (hx : Bulk.bulk x ≤ 4294967296) : CallsH Tryz.prog 9 [av x] [] (ToPost nm x) := by
 have hb : Bulk.bulk x.types + Bulk.bulk x.nodes + 1 ≤ 4294967296 := hx
 refine ir_laws_toProgram_H.H rfl ?_
 simp +contextual -dsimp only [↓SD, SU, SB, simprocAttr, ir_laws_toProgram_H, av_Program]
 (repeat' (first | intro _ | refine And.intro ?_ ?_))
 refine aCallH_gen [] (toTypeS_own (sub nm 0) x.types (by omega)) (by simp +contextual -dsimp only [↓SD, SU, SB, simprocAttr]) ?_
 rintro r hp' ⟨v0, rfl, rfl⟩ H0 hH0
 rw [hrest_no] at hH0
 have hold0 := old_get hH0
 have ho0_0 : hpLe H0 (oh (sub nm 0) v0 x.types) := by rw [hH0]; exact hpLe_l (OVal.self _ _ _)
 have hr0_0 := hpLe_root ho0_0
 simp +contextual -dsimp only [↓SD, SU, SB, simprocAttr, ov_list, low_beq, hold0, hr0_0]
 refine aCallH_gen [] (toNodeS_own (sub nm 1) x.nodes (by omega)) (by simp +contextual -dsimp only [↓SD, SU, SB, simprocAttr]) ?_
 rintro r hp' ⟨v1, rfl, rfl⟩ H1 hH1
 rw [hrest_no] at hH1
 have hold1 := old_get hH1
 have ho1_1 : hpLe H1 (oh (sub nm 1) v1 x.nodes) := by rw [hH1]; exact hpLe_l (OVal.self _ _ _)
 have hr1_1 := hpLe_root ho1_1
 have ho1_0 : hpLe H1 (oh (sub nm 0) v0 x.types) := hpLe_iff.2 fun p hp => by rw [hH1, hg_app_r (oh_ne (sib_ne (by omega) (OVal.inh hp)))]; exact hpLe_iff.1 (by repeat (first | exact ho0_0 | refine hpLe_low ?_ (by omega))) p hp
 have hr1_0 := hpLe_root ho1_0
 simp +contextual -dsimp only [↓SD, SU, SB, simprocAttr, ov_list, low_beq, hold0, hold1, hr1_0, hr1_1]
 have hne : ∀ k, InT (sub nm 1) k → ¬ InT (sub nm 0) k := fun k h => sib_ne (by omega) h
 have he : oh nm (glue (sub nm 0) v0 v1) x = oh (sub nm 0) v0 x.types ++ oh (sub nm 1) v1 x.nodes := by rw [oh_Program, oh_glue, oh_glue' v0 v1 _ hne]
 refine Goes.post (oh nm (glue (sub nm 0) v0 v1) x) ?_
 simp +contextual -dsimp only [↓SD, SU, SB, simprocAttr, low_beq, hold1, hold0, false_and, hr1_0, hr1_1]
 refine ⟨?_, _, ?_, rfl⟩
 ·rw [he, hpLe_app]
  exact ⟨(by repeat (first | exact ho1_0 | refine hpLe_low ?_ (by omega))), (by repeat (first | exact ho1_1 | refine hpLe_low ?_ (by omega)))⟩
 ·rw [ov_Program, glue_in .root, glue_out (hne _ .root)]

theorem markProgram_own (nm : Nat) (vs : Nat → Nat) (x : Program) (k : Int) (h0 : 1 ≤ k) (h1 : k + (Bulk.bulk x : Int) ≤ 4611686018427387904) : CallsH Tryz.prog 12 [ov nm vs x, .int .i64 k] (oh nm vs x) (MarkPost nm vs k x) := by
 have hbx : Bulk.bulk x = Bulk.bulk x.types + Bulk.bulk x.nodes + 1 := rfl
 have hbx_0 := cntL_bulk x.types
 have hbx_1 := cntL_bulk x.nodes
 obtain ⟨H, hH⟩ : ∃ H, H = oh nm vs x := ⟨_, rfl⟩
 have hs : hpLe H (oh nm vs x) := by rw [hH]; exact OVal.self nm vs x
 rw [← hH]
 rw [oh_Program, hpLe_app] at hs
 refine ir_laws_markProgram.H rfl ?_
 have hl0 := hs.1
 have hk0 := hpLe_root hl0
 have hl1 := hs.2
 have hk1 := hpLe_root hl1
 simp +contextual -dsimp only [↓SD, SU, SB, simprocAttr, ir_laws_markProgram, ov_Program, false_and, hk0, hk1]
 refine aCallH_gen (on (sub nm 0) x.types) (markTypeS_own (sub nm 0) vs x.types _ (by omega) (by omega)) (hsel_on hl0) ?_
 rintro r hp' ⟨rfl, rfl⟩ H0 hH0
 have hd0 := part_done hH0
 have hl1_0 := part_other hH0 (fun k h => sib_ne (by omega) h) hl1
 have hk1_0 := hpLe_root hl1_0
 rw [cnt_list]
 simp +contextual -dsimp only [↓SD, SU, SB, simprocAttr, ov_Program, false_and, hk1_0]
 refine aCallH_gen (on (sub nm 1) x.nodes) (markNodeS_own (sub nm 1) vs x.nodes _ (by omega) (by omega)) (hsel_on hl1_0) ?_
 rintro r hp' ⟨rfl, rfl⟩ H1 hH1
 have hd1 := part_done hH1
 have hd0_1 := part_other hH1 (fun k h => sib_ne (by omega) h) hd0
 rw [cnt_list]
 simp +contextual -dsimp only [↓SD, SU, SB, simprocAttr, ov_Program, false_and]
 refine Goes.post (oh nm vs (mkv k x)) ?_
 simp +contextual -dsimp only [↓SD, SU, SB, simprocAttr]
 refine ⟨by rw [oh_Program]; exact hpLe_app.2 ⟨hd0_1, hd1⟩, ?_, rfl⟩
 rw [cnt_Program]; exact congrArg _ (by omega)

theorem heldProgram_own (x : Program) (k : Int) (h0 : 1 ≤ k) (h1 : k + (Bulk.bulk x : Int) ≤ 4611686018427387904) : CallsF Tryz.prog 13 [av (mkv k x), .int .i64 k] (.int .i64 (k + (cnt x : Int))) := by
 have hbx : Bulk.bulk x = Bulk.bulk x.types + Bulk.bulk x.nodes + 1 := rfl
 have hbx_0 := cntL_bulk x.types
 have hbx_1 := cntL_bulk x.nodes
 rw [cnt_Program]
 refine ir_laws_heldProgram.F rfl (by simp; exact ⟨AVal.clean _, pint _⟩) (pint _) ?_
 simp +contextual -dsimp only [↓SD, SU, SB, simprocAttr, ir_laws_heldProgram, mk_Program, av_Program]
 refine aCallK_of _ (heldTypeS_own x.types (k) (by omega) (by omega)) ?_
 have g0 : ¬ k + (cntL x.types : Int) < 0 := by omega
 simp +contextual -dsimp only [↓SD, SU, SB, simprocAttr, mk_Program, av_Program, g0]
 refine aCallK_of _ (heldNodeS_own x.nodes (k + (cntL x.types : Int)) (by omega) (by omega)) ?_
 have g1 : ¬ k + (cntL x.types : Int) + (cntL x.nodes : Int) < 0 := by omega
 simp +contextual -dsimp only [↓SD, SU, SB, simprocAttr, mk_Program, av_Program, g0, g1]
 exact congrArg _ (by omega)

end Go.Proofs.YtjifpdcflankpaaGreat
