/-
  PNode, Pat IN ROWS OF THEIR OWN: copies, marks, by abstract texts. Conditions: none. Printed by genown.py.
-/
import Derived.Test.YtohalepkikjinaaPackM
import Derived.Test.YtohalepkikjinaaPackG
import Derived.Test.YtohalepkikjinaaIrOPat
set_option linter.unusedVariables false
set_option linter.unusedSimpArgs false
set_option maxRecDepth 100000
namespace Go.Proofs.Ytohalepkikjinaa
open Go.RowKit Go.Proofs.Ytohalepkikjinaa.Av Go.Proofs.Ytohalepkikjinaa.Ml
open Go.Proofs.Ytohalepkikjinaa.Av.AVal (av)
open OVal (ov oh on)
open Mk (mkv cnt)

instance : OVal PNode where
  ty := 69
  ov nm vs x := .agg [.int .i64 x.kind, .int .i64 x.n, .str x.s, ov (sub nm 0) vs x.kids]
  oh nm vs x := oh (sub nm 0) vs x.kids
  on nm x := on (sub nm 0) x.kids
  names nm vs x := OVal.names _ _ _
  inn nm x k h := (OVal.inn _ _ _ h).up
  self nm vs x := OVal.self _ _ _
  vdep nm vs vs' x h := by
    obtain ⟨a0, b0⟩ := OVal.vdep (sub nm 0) vs vs' x.kids (fun k hk => h k hk.up)
    simp only [a0, b0, and_self]
  lend nm vs x hp h := by
    have h0 := OVal.lend (sub nm 0) vs x.kids hp h
    show AV.agg [.int .i64 x.kind, .int .i64 x.n, .str x.s, (ov (sub nm 0) vs x.kids).pur (frzL (on (sub nm 0) x.kids) hp)] = av x
    rw [h0]; rfl
  dep nm vs x hp hp' h := by
    have h0 := OVal.dep (sub nm 0) vs x.kids hp hp' (fun k hk => h k hk.up)
    show AV.agg [.int .i64 x.kind, .int .i64 x.n, .str x.s, (ov (sub nm 0) vs x.kids).pur hp] = AV.agg [.int .i64 x.kind, .int .i64 x.n, .str x.s, (ov (sub nm 0) vs x.kids).pur hp']
    rw [h0]
  free nm vs x p h := by exact OVal.free _ _ _ p h
  cfree nm vs x y hx := by
    simp only [AV.cells, List.mem_cons, List.not_mem_nil, or_false] at hx
    rcases hx with rfl | rfl | rfl | rfl <;> rfl
  ok _ _ _ := rfl
  agg _ _ _ := rfl
  len _ _ _ := rfl
theorem ov_PNode (nm : Nat) (vs : Nat → Nat) (x : PNode) : ov nm vs x = .agg [.int .i64 x.kind, .int .i64 x.n, .str x.s, .row (sub nm 0) (vs (sub nm 0)) x.kids.length] := eqq rfl
theorem oh_PNode (nm : Nat) (vs : Nat → Nat) (x : PNode) : oh nm vs x = oh (sub nm 0) vs x.kids := rfl

instance : Mk PNode := ⟨fun k x => ⟨k, k + 1, markS (k + 1 + 1), mkL (k + 1 + 1 + 1) x.kids⟩, fun x => 3 + cntL x.kids⟩
theorem mk_PNode (k : Int) (x : PNode) : mkv k x = ⟨k, k + 1, markS (k + 1 + 1), mkL (k + 1 + 1 + 1) x.kids⟩ := rfl
theorem cnt_PNode (x : PNode) : cnt x = 3 + cntL x.kids := rfl
instance : MkB PNode := ⟨fun x => by
  have hbx : Bulk.bulk x = Bulk.bulk x.kind + Bulk.bulk x.n + Bulk.bulk x.s + Bulk.bulk x.kids + 1 := rfl
  have hbx_0 : Bulk.bulk x.kind = 1 := rfl
  have hbx_1 : Bulk.bulk x.n = 1 := rfl
  have hbx_2 : Bulk.bulk x.s = x.s.size + 1 := rfl
  have hbx_3 := cntL_bulk x.kids
  rw [cnt_PNode]
  omega⟩

theorem toPNode_own (nm : Nat) (x : PNode) (hx : Bulk.bulk x ≤ 1048576) : CallsH Try.prog 56 [av x] [] (ToPost nm x) := by
  have hb : Bulk.bulk x.kind + Bulk.bulk x.n + Bulk.bulk x.s + Bulk.bulk x.kids + 1 ≤ 1048576 := hx
  refine funH_laws_toPNode_H rfl ?_
  simp +contextual -dsimp only [↓SD, SU, SB, Nat.reduceAdd, Nat.reduceBEq, Nat.reduceEqDiff, Nat.reduceLeDiff, Nat.reduceLT, Nat.reduceSub, ↓reduceIte, zA, zI, zN, reduceCtorEq, Int.reduceToNat, zE, ir_laws_toPNode_H, rs_laws_toPNode_H, av_PNode]
  (repeat' (first | intro _ | refine And.intro ?_ ?_))
  refine aCallH_gen [] (toIntS_own (sub nm 0) x.kids (by omega)) (by simp +contextual -dsimp only [↓SD, SU, SB, Nat.reduceAdd, Nat.reduceBEq, Nat.reduceEqDiff, Nat.reduceLeDiff, Nat.reduceLT, Nat.reduceSub, ↓reduceIte, zA, zI, zN, reduceCtorEq, Int.reduceToNat, zE]) ?_
  rintro r hp' ⟨v0, rfl, rfl⟩ H0 hH0
  rw [hrest_no] at hH0
  have hold0 := old_get hH0
  have ho0_0 : hpLe H0 (oh (sub nm 0) v0 x.kids) := by rw [hH0]; exact hpLe_l (OVal.self _ _ _)
  have hr0_0 := hpLe_root ho0_0
  simp +contextual -dsimp only [↓SD, SU, SB, Nat.reduceAdd, Nat.reduceBEq, Nat.reduceEqDiff, Nat.reduceLeDiff, Nat.reduceLT, Nat.reduceSub, ↓reduceIte, zA, zI, zN, reduceCtorEq, Int.reduceToNat, zE, ov_list, low_beq, hold0, hr0_0]
  refine Goes.post (oh nm v0 x) ?_
  simp +contextual -dsimp only [↓SD, SU, SB, Nat.reduceAdd, Nat.reduceBEq, Nat.reduceEqDiff, Nat.reduceLeDiff, Nat.reduceLT, Nat.reduceSub, ↓reduceIte, zA, zI, zN, reduceCtorEq, Int.reduceToNat, zE, low_beq, hold0, false_and, hr0_0]
  refine ⟨by rw [oh_PNode]; exact (by repeat (first | exact ho0_0 | refine hpLe_low ?_ (by omega))), v0, ?_, rfl⟩
  rw [ov_PNode]

theorem toPNodeS_own (nm : Nat) (l : List PNode) (hx : Bulk.bulk l ≤ 1048576) : CallsH Try.prog 34 [.sl (l.map av)] [] (ToPost nm l) := by
  have hl := bulk_length l
  refine funH_laws_toPNodeS_H rfl ?_
  simp +contextual -dsimp only [↓SD, SU, SB, Nat.reduceAdd, Nat.reduceBEq, Nat.reduceEqDiff, Nat.reduceLeDiff, Nat.reduceLT, Nat.reduceSub, ↓reduceIte, zA, zI, zN, reduceCtorEq, Int.reduceToNat, zE, ir_laws_toPNodeS_H, rs_laws_toPNodeS_H, map_len]
  refine ⟨by omega, fun v => ?_⟩
  refine aLoop_of (X := Nat × (Nat → Nat)) (fun x => ⟨[(0, .sl (l.map av)), (3, .row 7 v l.length), (4, .int .i64 x.1)], (7, ⟨v, false, 69, 4, fillO nm x.2 l (AV.agg [.int .i64 0, .int .i64 0, .str (bs []), .nils]) x.1⟩) :: ohL nm x.2 0 (l.take x.1)⟩) (fun x => x.1 ≤ l.length) (fun x => l.length - x.1) (0, fun _ => 0) (Nat.zero_le _) (by simp +contextual -dsimp only [↓SD, SU, SB, Nat.reduceAdd, Nat.reduceBEq, Nat.reduceEqDiff, Nat.reduceLeDiff, Nat.reduceLT, Nat.reduceSub, ↓reduceIte, zA, zI, zN, reduceCtorEq, Int.reduceToNat, zE]) (by simp +contextual -dsimp only [↓SD, SU, SB, Nat.reduceAdd, Nat.reduceBEq, Nat.reduceEqDiff, Nat.reduceLeDiff, Nat.reduceLT, Nat.reduceSub, ↓reduceIte, zA, zI, zN, reduceCtorEq, Int.reduceToNat, zE, fillO_zero, List.take_zero, ohL_nil]) ?_
  rintro ⟨k, vs⟩ hk
  dsimp only at hk ⊢
  by_cases hlt : k < l.length
  · have e := getD_map av l k .top hlt
    have hbk : Bulk.bulk l[k] ≤ 1048576 := by have := bulk_mem (List.getElem_mem hlt); omega
    have e1 := fillO_len (nm := nm) (vs := vs) (AV.agg [.int .i64 0, .int .i64 0, .str (bs []), .nils]) hk
    have e2 := fillO_get (nm := nm) (vs := vs) (AV.agg [.int .i64 0, .int .i64 0, .str (bs []), .nils]) hlt .top
    obtain ⟨H, hH⟩ : ∃ H, H = ((7, ⟨v, false, 69, 4, fillO nm vs l (AV.agg [.int .i64 0, .int .i64 0, .str (bs []), .nils]) k⟩) :: ohL nm vs 0 (l.take k) : Hp) := ⟨_, rfl⟩
    have h7 : hget H 7 = some ⟨v, false, 69, 4, fillO nm vs l (AV.agg [.int .i64 0, .int .i64 0, .str (bs []), .nils]) k⟩ := by rw [hH]; exact hg_eq
    rw [← hH]
    simp +contextual -dsimp only [↓SD, SU, SB, Nat.reduceAdd, Nat.reduceBEq, Nat.reduceEqDiff, Nat.reduceLeDiff, Nat.reduceLT, Nat.reduceSub, ↓reduceIte, zA, zI, zN, reduceCtorEq, Int.reduceToNat, zE, map_len, hlt, e, av_PNode, h7]
    have C := toPNode_own (sub nm k) l[k] hbk
    rw [av_PNode] at C
    refine aCallH_gen [] C (by simp +contextual -dsimp only [↓SD, SU, SB, Nat.reduceAdd, Nat.reduceBEq, Nat.reduceEqDiff, Nat.reduceLeDiff, Nat.reduceLT, Nat.reduceSub, ↓reduceIte, zA, zI, zN, reduceCtorEq, Int.reduceToNat, zE]) ?_
    rintro r hp' ⟨v1, rfl, rfl⟩ H1 hH1
    have h71 : hget H1 7 = some ⟨v, false, 69, 4, fillO nm vs l (AV.agg [.int .i64 0, .int .i64 0, .str (bs []), .nils]) k⟩ := by
      rw [hH1, hrest_no, hg_app_r (oh_ne fun h' => by have := h'.ge; omega)]; exact h7
    have e3 := fillO_set (nm := nm) (vs := v1) (vs' := vs) (z := (AV.agg [.int .i64 0, .int .i64 0, .str (bs []), .nils])) hlt
    rw [ov_PNode] at e3
    simp +contextual -dsimp only [↓SD, SU, SB, Nat.reduceAdd, Nat.reduceBEq, Nat.reduceEqDiff, Nat.reduceLeDiff, Nat.reduceLT, Nat.reduceSub, ↓reduceIte, zA, zI, zN, reduceCtorEq, Int.reduceToNat, zE, map_len, hlt, e, av_PNode, ov_PNode, h71, e1, e2, e3]
    rw [hH] at hH1
    refine ⟨by omega, Goes.le ⟨(k + 1, glue (sub nm k) v1 vs), ⟨hlt, (by first | omega | (simp only; omega))⟩, rfl⟩ (by simp +contextual -dsimp only [↓SD, SU, SB, Nat.reduceAdd, Nat.reduceBEq, Nat.reduceEqDiff, Nat.reduceLeDiff, Nat.reduceLT, Nat.reduceSub, ↓reduceIte, zA, zI, zN, reduceCtorEq, Int.reduceToNat, zE, Int.natCast_add]) ?_⟩
    exact fill_le hlt (by omega) hH1
  · obtain rfl : k = l.length := by omega
    rw [List.take_length]
    have ef : fillO nm vs l (AV.agg [.int .i64 0, .int .i64 0, .str (bs []), .nils]) l.length = ovL nm vs 0 l := by simp [fillO]
    rw [ef]
    obtain ⟨H, hH⟩ : ∃ H, H = ((7, ⟨v, false, 69, 4, ovL nm vs 0 l⟩) :: ohL nm vs 0 l : Hp) := ⟨_, rfl⟩
    rw [← hH]
    simp +contextual -dsimp only [↓SD, SU, SB, Nat.reduceAdd, Nat.reduceBEq, Nat.reduceEqDiff, Nat.reduceLeDiff, Nat.reduceLT, Nat.reduceSub, ↓reduceIte, zA, zI, zN, reduceCtorEq, Int.reduceToNat, zE, map_len, Nat.lt_irrefl]
    rw [hH]
    refine Goes.ren 2 7 nm (v := v) (n := l.length) rfl hg_eq rfl fun v' => ?_
    obtain ⟨H', hH'⟩ : ∃ H', H' = ((nm, ⟨v', false, 69, 4, ovL nm vs 0 l⟩) :: hrest [7] ((7, ⟨v, false, 69, 4, ovL nm vs 0 l⟩) :: ohL nm vs 0 l) : Hp) := ⟨_, rfl⟩
    have hr : hget H' nm = some ⟨v', false, 69, 4, ovL nm vs 0 l⟩ := by rw [hH']; exact hg_eq
    have hle := full_le (α := PNode) (nm := nm) (j := 7) (l := l) (vs := vs) (by omega) hH'
    dsimp only
    rw [← hH']
    refine Goes.post (oh nm (glue nm (fun k => if k = nm then v' else vs k) vs) l) ?_
    simp +contextual -dsimp only [↓SD, SU, SB, Nat.reduceAdd, Nat.reduceBEq, Nat.reduceEqDiff, Nat.reduceLeDiff, Nat.reduceLT, Nat.reduceSub, ↓reduceIte, zA, zI, zN, reduceCtorEq, Int.reduceToNat, zE, hr]
    exact ⟨hle, _, (oh_full l).1.symm, rfl⟩

set_option maxHeartbeats 1000000 in
theorem markPNodeS_own (nm : Nat) (vs : Nat → Nat) (l : List PNode) (k : Int) (h0 : 1 ≤ k) (h1 : k + (Bulk.bulk l : Int) ≤ 4611686018427387904) : CallsH Try.prog 26 [ov nm vs l, .int .i64 k] (oh nm vs l) (MarkPost nm vs k l) := by
  refine funH_laws_markPNodeS rfl ?_
  simp +contextual -dsimp only [↓SD, SU, SB, Nat.reduceAdd, Nat.reduceBEq, Nat.reduceEqDiff, Nat.reduceLeDiff, Nat.reduceLT, Nat.reduceSub, ↓reduceIte, zA, zI, zN, reduceCtorEq, Int.reduceToNat, zE, Int.reduceEq, Int.reduceLT, Int.reduceLE, Int.reduceNeg, Int.reduceAdd, Int.reduceSub, ir_laws_markPNodeS, rs_laws_markPNodeS, ov_list]
  refine aLoop_of (X := Nat) (fun i => ⟨[(0, .row nm (vs nm) l.length), (1, .int .i64 (k + (cntL (l.take i) : Int))), (5, .int .i64 i)], oh nm vs (mkTo k l i)⟩) (fun i => i ≤ l.length) (fun i => l.length - i) 0 (Nat.zero_le _) (by simp +contextual -dsimp only [↓SD, SU, SB, Nat.reduceAdd, Nat.reduceBEq, Nat.reduceEqDiff, Nat.reduceLeDiff, Nat.reduceLT, Nat.reduceSub, ↓reduceIte, zA, zI, zN, reduceCtorEq, Int.reduceToNat, zE, Int.reduceEq, Int.reduceLT, Int.reduceLE, Int.reduceNeg, Int.reduceAdd, Int.reduceSub, List.take_zero, cntL_nil, Int.natCast_zero, Int.add_zero]) (by rw [mkTo_zero]; exact OVal.self _ _ _) ?_
  rintro i hi
  by_cases hlt : i < l.length
  · have hLi : i < (mkTo k l i).length := by rw [mkTo_len hi]; exact hlt
    have hLl : (mkTo k l i).length = l.length := mkTo_len hi
    have hgi := mkTo_get hlt hLi
    have hsf := mkTo_set (k := k) hlt
    have hroom := cntL_roomB hlt
    have htake := cntL_take hlt
    have hle := cntL_le l (i + 1)
    have e := ovL_get nm vs (mkTo k l i) hLi .top
    rw [hgi, ov_PNode] at e
    have hel := oh_elem (nm := nm) (vs := vs) hLi
    rw [hgi, oh_PNode] at hel
    have hr := oh_root nm vs (mkTo k l i)
    have hlen : (ovL nm vs 0 (mkTo k l i)).length = l.length := by rw [ovL_len, hLl]
    obtain ⟨x, hx⟩ : ∃ x, x = l[i] := ⟨_, rfl⟩
    obtain ⟨K, hK⟩ : ∃ K, K = k + (cntL (l.take i) : Int) := ⟨_, rfl⟩
    try rw [← hx] at e
    try rw [← hx] at hroom
    try rw [← hx] at htake
    try rw [← hx] at hel
    rw [← hx] at hsf
    rw [← hK] at hsf
    rw [lbox] at hr
    obtain ⟨E, hE⟩ : ∃ E, E = ovL nm vs 0 (mkTo k l i) := ⟨_, rfl⟩
    have hcount : cnt x = 3 + cntL x.kids := rfl
    rw [hcount] at htake
    have hbx : Bulk.bulk x = Bulk.bulk x.kind + Bulk.bulk x.n + Bulk.bulk x.s + Bulk.bulk x.kids + 1 := rfl
    have hbx_0 : Bulk.bulk x.kind = 1 := rfl
    have hbx_1 : Bulk.bulk x.n = 1 := rfl
    have hbx_2 : Bulk.bulk x.s = x.s.size + 1 := rfl
    have hbx_3 := cntL_bulk x.kids
    have hbl := bulk_length l
    have hKn : k + (cntL (l.take (i + 1)) : Int) = K + 1 + 1 + 1 + (cntL x.kids : Int) := by rw [htake]; omega
    have hKb : K + (Bulk.bulk x : Int) ≤ 4611686018427387904 := by omega
    have hK1 : 1 ≤ K := by omega
    have hmk : ov (sub nm i) vs (mkv K x) = AV.agg [.int .i64 (K), .int .i64 (K + 1), .str (markS (K + 1 + 1)), .row (sub (sub nm i) 0) (vs (sub (sub nm i) 0)) x.kids.length] := by rw [mk_PNode, ov_PNode]; simp only [mkL_len]
    have hus : ovL nm vs 0 ((mkTo k l i).set i (mkv K x)) = E.set i (AV.agg [.int .i64 (K), .int .i64 (K + 1), .str (markS (K + 1 + 1)), .row (sub (sub nm i) 0) (vs (sub (sub nm i) 0)) x.kids.length]) := by rw [ovL_set, hmk, ← hE]
    rw [← hE] at e hlen hr
    rw [← hK]
    have gs : ∀ a, (E.set i a).getD i .top = a := fun a => by rw [List.getD_eq_getElem?_getD, List.getElem?_set_self (by rw [hlen]; exact hlt)]; rfl
    have ls : ∀ a, (E.set i a).length = l.length := fun a => by rw [List.length_set, hlen]
    obtain ⟨H, hH⟩ : ∃ H, H = oh nm vs (mkTo k l i) := ⟨_, rfl⟩
    rw [← hH] at hr hel
    have hq : ∀ q, ¬ InT (sub nm i) q → q ≠ nm → hget H q = hget (oh nm vs (mkTo k l i)) q := fun q _ _ => by rw [hH]
    rw [show (AVal.n PNode) = 4 from rfl] at hr
    rw [← hH]
    clear hH
    have hl0 := hel
    have hk0 := hpLe_root hl0
    have hn0 : ¬ InT (sub (sub nm i) 0) nm := part_ne
    have hb0 : (nm == sub (sub nm i) 0) = false := part_beq
    simp +contextual -dsimp only [↓SD, SU, SB, Nat.reduceAdd, Nat.reduceBEq, Nat.reduceEqDiff, Nat.reduceLeDiff, Nat.reduceLT, Nat.reduceSub, ↓reduceIte, zA, zI, zN, reduceCtorEq, Int.reduceToNat, zE, Int.reduceEq, Int.reduceLT, Int.reduceLE, Int.reduceNeg, Int.reduceAdd, Int.reduceSub, hlt, hlen, e, gs, ls, List.set_set, ov_list, false_and, hr, hk0, hb0]
    repeat (refine And.intro (by omega) ?_)
    refine aCallK_of _ (markText_at (K + 1 + 1) (by omega) (by omega)) ?_
    simp +contextual -dsimp only [↓SD, SU, SB, Nat.reduceAdd, Nat.reduceBEq, Nat.reduceEqDiff, Nat.reduceLeDiff, Nat.reduceLT, Nat.reduceSub, ↓reduceIte, zA, zI, zN, reduceCtorEq, Int.reduceToNat, zE, Int.reduceEq, Int.reduceLT, Int.reduceLE, Int.reduceNeg, Int.reduceAdd, Int.reduceSub, hlt, hlen, e, gs, ls, List.set_set, ov_list, false_and, hr, hk0, hb0]
    repeat (refine And.intro (by omega) ?_)
    refine aCallH_gen (on (sub (sub nm i) 0) x.kids) (markIntS_own (sub (sub nm i) 0) vs x.kids _ (by omega) (by omega)) (hsel_on (by repeat (first | exact hl0 | refine hpLe_skip hn0 ?_))) ?_
    rintro r hp' ⟨rfl, rfl⟩ H0 hH0
    have hr0 := part_root hH0 hn0 hg_eq
    have hq0 := part_far (X := fun q => hget (oh nm vs (mkTo k l i)) q) hH0 (by repeat (first | exact hq | refine far_cons ?_))
    have hd0 := part_done hH0
    rw [cnt_list]
    simp +contextual -dsimp only [↓SD, SU, SB, Nat.reduceAdd, Nat.reduceBEq, Nat.reduceEqDiff, Nat.reduceLeDiff, Nat.reduceLT, Nat.reduceSub, ↓reduceIte, zA, zI, zN, reduceCtorEq, Int.reduceToNat, zE, Int.reduceEq, Int.reduceLT, Int.reduceLE, Int.reduceNeg, Int.reduceAdd, Int.reduceSub, hlt, hlen, e, gs, ls, List.set_set, ov_list, false_and, hr0, hb0]
    repeat (refine And.intro (by omega) ?_)
    refine Goes.le ⟨i + 1, ⟨hlt, (by first | omega | (simp only; omega))⟩, rfl⟩ (by simp +contextual -dsimp only [↓SD, SU, SB, Nat.reduceAdd, Nat.reduceBEq, Nat.reduceEqDiff, Nat.reduceLeDiff, Nat.reduceLT, Nat.reduceSub, ↓reduceIte, zA, zI, zN, reduceCtorEq, Int.reduceToNat, zE, Int.natCast_add, hKn]) ?_
    rw [← hsf]
    refine oh_upd hLi ?_ ?_ ?_
    · repeat (first | exact hq0 | refine far_cons ?_)
    · rw [lbox, hus]; first | exact hg_eq | exact hr0
    · rw [oh_PNode]; exact (by repeat (first | exact hd0 | refine hpLe_skip hn0 ?_))
  · obtain rfl : i = l.length := by omega
    rw [mkTo_full, cntL_full]
    have hr := oh_root nm vs (mkL k l)
    have hs := OVal.self nm vs (mkL k l)
    obtain ⟨H, hH⟩ : ∃ H, H = oh nm vs (mkL k l) := ⟨_, rfl⟩
    rw [← hH]
    simp +contextual -dsimp only [↓SD, SU, SB, Nat.reduceAdd, Nat.reduceBEq, Nat.reduceEqDiff, Nat.reduceLeDiff, Nat.reduceLT, Nat.reduceSub, ↓reduceIte, zA, zI, zN, reduceCtorEq, Int.reduceToNat, zE, Int.reduceEq, Int.reduceLT, Int.reduceLE, Int.reduceNeg, Int.reduceAdd, Int.reduceSub, Nat.lt_irrefl, map_len]
    refine Goes.post H ?_
    simp +contextual -dsimp only [↓SD, SU, SB, Nat.reduceAdd, Nat.reduceBEq, Nat.reduceEqDiff, Nat.reduceLeDiff, Nat.reduceLT, Nat.reduceSub, ↓reduceIte, zA, zI, zN, reduceCtorEq, Int.reduceToNat, zE]
    exact ⟨by rw [hH]; exact hs, rfl, by rw [hH]; rfl⟩


instance : OVal Pat where
  ty := 43
  ov nm vs x := .agg [ov (sub nm 0) vs x.nodes]
  oh nm vs x := oh (sub nm 0) vs x.nodes
  on nm x := on (sub nm 0) x.nodes
  names nm vs x := OVal.names _ _ _
  inn nm x k h := (OVal.inn _ _ _ h).up
  self nm vs x := OVal.self _ _ _
  vdep nm vs vs' x h := by
    obtain ⟨a0, b0⟩ := OVal.vdep (sub nm 0) vs vs' x.nodes (fun k hk => h k hk.up)
    simp only [a0, b0, and_self]
  lend nm vs x hp h := by
    have h0 := OVal.lend (sub nm 0) vs x.nodes hp h
    show AV.agg [(ov (sub nm 0) vs x.nodes).pur (frzL (on (sub nm 0) x.nodes) hp)] = av x
    rw [h0]; rfl
  dep nm vs x hp hp' h := by
    have h0 := OVal.dep (sub nm 0) vs x.nodes hp hp' (fun k hk => h k hk.up)
    show AV.agg [(ov (sub nm 0) vs x.nodes).pur hp] = AV.agg [(ov (sub nm 0) vs x.nodes).pur hp']
    rw [h0]
  free nm vs x p h := by exact OVal.free _ _ _ p h
  cfree nm vs x y hx := by
    simp only [AV.cells, List.mem_cons, List.not_mem_nil, or_false] at hx
    subst hx <;> rfl
  ok _ _ _ := rfl
  agg _ _ _ := rfl
  len _ _ _ := rfl
theorem ov_Pat (nm : Nat) (vs : Nat → Nat) (x : Pat) : ov nm vs x = .agg [.row (sub nm 0) (vs (sub nm 0)) x.nodes.length] := eqq rfl
theorem oh_Pat (nm : Nat) (vs : Nat → Nat) (x : Pat) : oh nm vs x = oh (sub nm 0) vs x.nodes := rfl

instance : Mk Pat := ⟨fun k x => ⟨mkL (k) x.nodes⟩, fun x => cntL x.nodes⟩
theorem mk_Pat (k : Int) (x : Pat) : mkv k x = ⟨mkL (k) x.nodes⟩ := rfl
theorem cnt_Pat (x : Pat) : cnt x = cntL x.nodes := rfl
instance : MkB Pat := ⟨fun x => by
  have hbx : Bulk.bulk x = Bulk.bulk x.nodes + 1 := rfl
  have hbx_0 := cntL_bulk x.nodes
  rw [cnt_Pat]
  omega⟩

theorem toPat_own (nm : Nat) (x : Pat) (hx : Bulk.bulk x ≤ 1048576) : CallsH Try.prog 17 [av x] [] (ToPost nm x) := by
  have hb : Bulk.bulk x.nodes + 1 ≤ 1048576 := hx
  refine funH_laws_toPat_H rfl ?_
  simp +contextual -dsimp only [↓SD, SU, SB, Nat.reduceAdd, Nat.reduceBEq, Nat.reduceEqDiff, Nat.reduceLeDiff, Nat.reduceLT, Nat.reduceSub, ↓reduceIte, zA, zI, zN, reduceCtorEq, Int.reduceToNat, zE, ir_laws_toPat_H, rs_laws_toPat_H, av_Pat]
  (repeat' (first | intro _ | refine And.intro ?_ ?_))
  refine aCallH_gen [] (toPNodeS_own (sub nm 0) x.nodes (by omega)) (by simp +contextual -dsimp only [↓SD, SU, SB, Nat.reduceAdd, Nat.reduceBEq, Nat.reduceEqDiff, Nat.reduceLeDiff, Nat.reduceLT, Nat.reduceSub, ↓reduceIte, zA, zI, zN, reduceCtorEq, Int.reduceToNat, zE]) ?_
  rintro r hp' ⟨v0, rfl, rfl⟩ H0 hH0
  rw [hrest_no] at hH0
  have hold0 := old_get hH0
  have ho0_0 : hpLe H0 (oh (sub nm 0) v0 x.nodes) := by rw [hH0]; exact hpLe_l (OVal.self _ _ _)
  have hr0_0 := hpLe_root ho0_0
  simp +contextual -dsimp only [↓SD, SU, SB, Nat.reduceAdd, Nat.reduceBEq, Nat.reduceEqDiff, Nat.reduceLeDiff, Nat.reduceLT, Nat.reduceSub, ↓reduceIte, zA, zI, zN, reduceCtorEq, Int.reduceToNat, zE, ov_list, low_beq, hold0, hr0_0]
  refine Goes.post (oh nm v0 x) ?_
  simp +contextual -dsimp only [↓SD, SU, SB, Nat.reduceAdd, Nat.reduceBEq, Nat.reduceEqDiff, Nat.reduceLeDiff, Nat.reduceLT, Nat.reduceSub, ↓reduceIte, zA, zI, zN, reduceCtorEq, Int.reduceToNat, zE, low_beq, hold0, false_and, hr0_0]
  refine ⟨by rw [oh_Pat]; exact (by repeat (first | exact ho0_0 | refine hpLe_low ?_ (by omega))), v0, ?_, rfl⟩
  rw [ov_Pat]

theorem toPatS_own (nm : Nat) (l : List Pat) (hx : Bulk.bulk l ≤ 1048576) : CallsH Try.prog 6 [.sl (l.map av)] [] (ToPost nm l) := by
  have hl := bulk_length l
  refine funH_laws_toPatS_H rfl ?_
  simp +contextual -dsimp only [↓SD, SU, SB, Nat.reduceAdd, Nat.reduceBEq, Nat.reduceEqDiff, Nat.reduceLeDiff, Nat.reduceLT, Nat.reduceSub, ↓reduceIte, zA, zI, zN, reduceCtorEq, Int.reduceToNat, zE, ir_laws_toPatS_H, rs_laws_toPatS_H, map_len]
  refine ⟨by omega, fun v => ?_⟩
  refine aLoop_of (X := Nat × (Nat → Nat)) (fun x => ⟨[(0, .sl (l.map av)), (3, .row 7 v l.length), (4, .int .i64 x.1)], (7, ⟨v, false, 43, 1, fillO nm x.2 l (AV.agg [.nils]) x.1⟩) :: ohL nm x.2 0 (l.take x.1)⟩) (fun x => x.1 ≤ l.length) (fun x => l.length - x.1) (0, fun _ => 0) (Nat.zero_le _) (by simp +contextual -dsimp only [↓SD, SU, SB, Nat.reduceAdd, Nat.reduceBEq, Nat.reduceEqDiff, Nat.reduceLeDiff, Nat.reduceLT, Nat.reduceSub, ↓reduceIte, zA, zI, zN, reduceCtorEq, Int.reduceToNat, zE]) (by simp +contextual -dsimp only [↓SD, SU, SB, Nat.reduceAdd, Nat.reduceBEq, Nat.reduceEqDiff, Nat.reduceLeDiff, Nat.reduceLT, Nat.reduceSub, ↓reduceIte, zA, zI, zN, reduceCtorEq, Int.reduceToNat, zE, fillO_zero, List.take_zero, ohL_nil]) ?_
  rintro ⟨k, vs⟩ hk
  dsimp only at hk ⊢
  by_cases hlt : k < l.length
  · have e := getD_map av l k .top hlt
    have hbk : Bulk.bulk l[k] ≤ 1048576 := by have := bulk_mem (List.getElem_mem hlt); omega
    have e1 := fillO_len (nm := nm) (vs := vs) (AV.agg [.nils]) hk
    have e2 := fillO_get (nm := nm) (vs := vs) (AV.agg [.nils]) hlt .top
    obtain ⟨H, hH⟩ : ∃ H, H = ((7, ⟨v, false, 43, 1, fillO nm vs l (AV.agg [.nils]) k⟩) :: ohL nm vs 0 (l.take k) : Hp) := ⟨_, rfl⟩
    have h7 : hget H 7 = some ⟨v, false, 43, 1, fillO nm vs l (AV.agg [.nils]) k⟩ := by rw [hH]; exact hg_eq
    rw [← hH]
    simp +contextual -dsimp only [↓SD, SU, SB, Nat.reduceAdd, Nat.reduceBEq, Nat.reduceEqDiff, Nat.reduceLeDiff, Nat.reduceLT, Nat.reduceSub, ↓reduceIte, zA, zI, zN, reduceCtorEq, Int.reduceToNat, zE, map_len, hlt, e, av_Pat, h7]
    have C := toPat_own (sub nm k) l[k] hbk
    rw [av_Pat] at C
    refine aCallH_gen [] C (by simp +contextual -dsimp only [↓SD, SU, SB, Nat.reduceAdd, Nat.reduceBEq, Nat.reduceEqDiff, Nat.reduceLeDiff, Nat.reduceLT, Nat.reduceSub, ↓reduceIte, zA, zI, zN, reduceCtorEq, Int.reduceToNat, zE]) ?_
    rintro r hp' ⟨v1, rfl, rfl⟩ H1 hH1
    have h71 : hget H1 7 = some ⟨v, false, 43, 1, fillO nm vs l (AV.agg [.nils]) k⟩ := by
      rw [hH1, hrest_no, hg_app_r (oh_ne fun h' => by have := h'.ge; omega)]; exact h7
    have e3 := fillO_set (nm := nm) (vs := v1) (vs' := vs) (z := (AV.agg [.nils])) hlt
    rw [ov_Pat] at e3
    simp +contextual -dsimp only [↓SD, SU, SB, Nat.reduceAdd, Nat.reduceBEq, Nat.reduceEqDiff, Nat.reduceLeDiff, Nat.reduceLT, Nat.reduceSub, ↓reduceIte, zA, zI, zN, reduceCtorEq, Int.reduceToNat, zE, map_len, hlt, e, av_Pat, ov_Pat, h71, e1, e2, e3]
    rw [hH] at hH1
    refine ⟨by omega, Goes.le ⟨(k + 1, glue (sub nm k) v1 vs), ⟨hlt, (by first | omega | (simp only; omega))⟩, rfl⟩ (by simp +contextual -dsimp only [↓SD, SU, SB, Nat.reduceAdd, Nat.reduceBEq, Nat.reduceEqDiff, Nat.reduceLeDiff, Nat.reduceLT, Nat.reduceSub, ↓reduceIte, zA, zI, zN, reduceCtorEq, Int.reduceToNat, zE, Int.natCast_add]) ?_⟩
    exact fill_le hlt (by omega) hH1
  · obtain rfl : k = l.length := by omega
    rw [List.take_length]
    have ef : fillO nm vs l (AV.agg [.nils]) l.length = ovL nm vs 0 l := by simp [fillO]
    rw [ef]
    obtain ⟨H, hH⟩ : ∃ H, H = ((7, ⟨v, false, 43, 1, ovL nm vs 0 l⟩) :: ohL nm vs 0 l : Hp) := ⟨_, rfl⟩
    rw [← hH]
    simp +contextual -dsimp only [↓SD, SU, SB, Nat.reduceAdd, Nat.reduceBEq, Nat.reduceEqDiff, Nat.reduceLeDiff, Nat.reduceLT, Nat.reduceSub, ↓reduceIte, zA, zI, zN, reduceCtorEq, Int.reduceToNat, zE, map_len, Nat.lt_irrefl]
    rw [hH]
    refine Goes.ren 2 7 nm (v := v) (n := l.length) rfl hg_eq rfl fun v' => ?_
    obtain ⟨H', hH'⟩ : ∃ H', H' = ((nm, ⟨v', false, 43, 1, ovL nm vs 0 l⟩) :: hrest [7] ((7, ⟨v, false, 43, 1, ovL nm vs 0 l⟩) :: ohL nm vs 0 l) : Hp) := ⟨_, rfl⟩
    have hr : hget H' nm = some ⟨v', false, 43, 1, ovL nm vs 0 l⟩ := by rw [hH']; exact hg_eq
    have hle := full_le (α := Pat) (nm := nm) (j := 7) (l := l) (vs := vs) (by omega) hH'
    dsimp only
    rw [← hH']
    refine Goes.post (oh nm (glue nm (fun k => if k = nm then v' else vs k) vs) l) ?_
    simp +contextual -dsimp only [↓SD, SU, SB, Nat.reduceAdd, Nat.reduceBEq, Nat.reduceEqDiff, Nat.reduceLeDiff, Nat.reduceLT, Nat.reduceSub, ↓reduceIte, zA, zI, zN, reduceCtorEq, Int.reduceToNat, zE, hr]
    exact ⟨hle, _, (oh_full l).1.symm, rfl⟩

set_option maxHeartbeats 1000000 in
theorem markPatS_own (nm : Nat) (vs : Nat → Nat) (l : List Pat) (k : Int) (h0 : 1 ≤ k) (h1 : k + (Bulk.bulk l : Int) ≤ 4611686018427387904) : CallsH Try.prog 10 [ov nm vs l, .int .i64 k] (oh nm vs l) (MarkPost nm vs k l) := by
  refine funH_laws_markPatS rfl ?_
  simp +contextual -dsimp only [↓SD, SU, SB, Nat.reduceAdd, Nat.reduceBEq, Nat.reduceEqDiff, Nat.reduceLeDiff, Nat.reduceLT, Nat.reduceSub, ↓reduceIte, zA, zI, zN, reduceCtorEq, Int.reduceToNat, zE, Int.reduceEq, Int.reduceLT, Int.reduceLE, Int.reduceNeg, Int.reduceAdd, Int.reduceSub, ir_laws_markPatS, rs_laws_markPatS, ov_list]
  refine aLoop_of (X := Nat) (fun i => ⟨[(0, .row nm (vs nm) l.length), (1, .int .i64 (k + (cntL (l.take i) : Int))), (5, .int .i64 i)], oh nm vs (mkTo k l i)⟩) (fun i => i ≤ l.length) (fun i => l.length - i) 0 (Nat.zero_le _) (by simp +contextual -dsimp only [↓SD, SU, SB, Nat.reduceAdd, Nat.reduceBEq, Nat.reduceEqDiff, Nat.reduceLeDiff, Nat.reduceLT, Nat.reduceSub, ↓reduceIte, zA, zI, zN, reduceCtorEq, Int.reduceToNat, zE, Int.reduceEq, Int.reduceLT, Int.reduceLE, Int.reduceNeg, Int.reduceAdd, Int.reduceSub, List.take_zero, cntL_nil, Int.natCast_zero, Int.add_zero]) (by rw [mkTo_zero]; exact OVal.self _ _ _) ?_
  rintro i hi
  by_cases hlt : i < l.length
  · have hLi : i < (mkTo k l i).length := by rw [mkTo_len hi]; exact hlt
    have hLl : (mkTo k l i).length = l.length := mkTo_len hi
    have hgi := mkTo_get hlt hLi
    have hsf := mkTo_set (k := k) hlt
    have hroom := cntL_roomB hlt
    have htake := cntL_take hlt
    have hle := cntL_le l (i + 1)
    have e := ovL_get nm vs (mkTo k l i) hLi .top
    rw [hgi, ov_Pat] at e
    have hel := oh_elem (nm := nm) (vs := vs) hLi
    rw [hgi, oh_Pat] at hel
    have hr := oh_root nm vs (mkTo k l i)
    have hlen : (ovL nm vs 0 (mkTo k l i)).length = l.length := by rw [ovL_len, hLl]
    obtain ⟨x, hx⟩ : ∃ x, x = l[i] := ⟨_, rfl⟩
    obtain ⟨K, hK⟩ : ∃ K, K = k + (cntL (l.take i) : Int) := ⟨_, rfl⟩
    try rw [← hx] at e
    try rw [← hx] at hroom
    try rw [← hx] at htake
    try rw [← hx] at hel
    rw [← hx] at hsf
    rw [← hK] at hsf
    rw [lbox] at hr
    obtain ⟨E, hE⟩ : ∃ E, E = ovL nm vs 0 (mkTo k l i) := ⟨_, rfl⟩
    have hcount : cnt x = cntL x.nodes := rfl
    rw [hcount] at htake
    have hbx : Bulk.bulk x = Bulk.bulk x.nodes + 1 := rfl
    have hbx_0 := cntL_bulk x.nodes
    have hbl := bulk_length l
    have hKn : k + (cntL (l.take (i + 1)) : Int) = K + (cntL x.nodes : Int) := by rw [htake]; omega
    have hKb : K + (Bulk.bulk x : Int) ≤ 4611686018427387904 := by omega
    have hK1 : 1 ≤ K := by omega
    have hmk : ov (sub nm i) vs (mkv K x) = AV.agg [.row (sub (sub nm i) 0) (vs (sub (sub nm i) 0)) x.nodes.length] := by rw [mk_Pat, ov_Pat]; simp only [mkL_len]
    have hus : ovL nm vs 0 ((mkTo k l i).set i (mkv K x)) = E.set i (AV.agg [.row (sub (sub nm i) 0) (vs (sub (sub nm i) 0)) x.nodes.length]) := by rw [ovL_set, hmk, ← hE]
    rw [← hE] at e hlen hr
    rw [← hK]
    have gs : ∀ a, (E.set i a).getD i .top = a := fun a => by rw [List.getD_eq_getElem?_getD, List.getElem?_set_self (by rw [hlen]; exact hlt)]; rfl
    have ls : ∀ a, (E.set i a).length = l.length := fun a => by rw [List.length_set, hlen]
    obtain ⟨H, hH⟩ : ∃ H, H = oh nm vs (mkTo k l i) := ⟨_, rfl⟩
    rw [← hH] at hr hel
    have hq : ∀ q, ¬ InT (sub nm i) q → q ≠ nm → hget H q = hget (oh nm vs (mkTo k l i)) q := fun q _ _ => by rw [hH]
    rw [show (AVal.n Pat) = 1 from rfl] at hr
    rw [← hH]
    clear hH
    have hl0 := hel
    have hk0 := hpLe_root hl0
    have hn0 : ¬ InT (sub (sub nm i) 0) nm := part_ne
    have hb0 : (nm == sub (sub nm i) 0) = false := part_beq
    simp +contextual -dsimp only [↓SD, SU, SB, Nat.reduceAdd, Nat.reduceBEq, Nat.reduceEqDiff, Nat.reduceLeDiff, Nat.reduceLT, Nat.reduceSub, ↓reduceIte, zA, zI, zN, reduceCtorEq, Int.reduceToNat, zE, Int.reduceEq, Int.reduceLT, Int.reduceLE, Int.reduceNeg, Int.reduceAdd, Int.reduceSub, hlt, hlen, e, gs, ls, List.set_set, ov_list, false_and, hr, hk0, hb0]
    repeat (refine And.intro (by omega) ?_)
    refine aCallH_gen (on (sub (sub nm i) 0) x.nodes) (markPNodeS_own (sub (sub nm i) 0) vs x.nodes _ (by omega) (by omega)) (hsel_on (by repeat (first | exact hl0 | refine hpLe_skip hn0 ?_))) ?_
    rintro r hp' ⟨rfl, rfl⟩ H0 hH0
    have hr0 := part_root hH0 hn0 hr
    have hq0 := part_far (X := fun q => hget (oh nm vs (mkTo k l i)) q) hH0 (by repeat (first | exact hq | refine far_cons ?_))
    have hd0 := part_done hH0
    rw [cnt_list]
    simp +contextual -dsimp only [↓SD, SU, SB, Nat.reduceAdd, Nat.reduceBEq, Nat.reduceEqDiff, Nat.reduceLeDiff, Nat.reduceLT, Nat.reduceSub, ↓reduceIte, zA, zI, zN, reduceCtorEq, Int.reduceToNat, zE, Int.reduceEq, Int.reduceLT, Int.reduceLE, Int.reduceNeg, Int.reduceAdd, Int.reduceSub, hlt, hlen, e, gs, ls, List.set_set, ov_list, false_and, hr0, hb0]
    repeat (refine And.intro (by omega) ?_)
    refine Goes.le ⟨i + 1, ⟨hlt, (by first | omega | (simp only; omega))⟩, rfl⟩ (by simp +contextual -dsimp only [↓SD, SU, SB, Nat.reduceAdd, Nat.reduceBEq, Nat.reduceEqDiff, Nat.reduceLeDiff, Nat.reduceLT, Nat.reduceSub, ↓reduceIte, zA, zI, zN, reduceCtorEq, Int.reduceToNat, zE, Int.natCast_add, hKn]) ?_
    rw [← hsf]
    refine oh_upd hLi ?_ ?_ ?_
    · repeat (first | exact hq0 | refine far_cons ?_)
    · rw [lbox, hus, set_same (by rw [hlen]; exact hlt) e]; exact hr0
    · rw [oh_Pat]; exact (by repeat (first | exact hd0 | refine hpLe_skip hn0 ?_))
  · obtain rfl : i = l.length := by omega
    rw [mkTo_full, cntL_full]
    have hr := oh_root nm vs (mkL k l)
    have hs := OVal.self nm vs (mkL k l)
    obtain ⟨H, hH⟩ : ∃ H, H = oh nm vs (mkL k l) := ⟨_, rfl⟩
    rw [← hH]
    simp +contextual -dsimp only [↓SD, SU, SB, Nat.reduceAdd, Nat.reduceBEq, Nat.reduceEqDiff, Nat.reduceLeDiff, Nat.reduceLT, Nat.reduceSub, ↓reduceIte, zA, zI, zN, reduceCtorEq, Int.reduceToNat, zE, Int.reduceEq, Int.reduceLT, Int.reduceLE, Int.reduceNeg, Int.reduceAdd, Int.reduceSub, Nat.lt_irrefl, map_len]
    refine Goes.post H ?_
    simp +contextual -dsimp only [↓SD, SU, SB, Nat.reduceAdd, Nat.reduceBEq, Nat.reduceEqDiff, Nat.reduceLeDiff, Nat.reduceLT, Nat.reduceSub, ↓reduceIte, zA, zI, zN, reduceCtorEq, Int.reduceToNat, zE]
    exact ⟨by rw [hH]; exact hs, rfl, by rw [hH]; rfl⟩




end Go.Proofs.Ytohalepkikjinaa
