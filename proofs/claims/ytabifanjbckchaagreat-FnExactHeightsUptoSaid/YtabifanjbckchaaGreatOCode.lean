/-
  Ins, Code IN ROWS OF THEIR OWN: copies, marks, by abstract texts. Conditions: none. Printed by genown.py.
-/
import Derived.Test.YtabifanjbckchaaGreatOPat
import Derived.Test.YtabifanjbckchaaGreatPackG
import Derived.Test.YtabifanjbckchaaGreatIrOCode
set_option linter.unusedVariables false
set_option linter.unusedSimpArgs false
set_option maxRecDepth 100000
namespace Go.Proofs.YtabifanjbckchaaGreat
open Go.RowKit Go.Proofs.YtabifanjbckchaaGreat.Av Go.Proofs.YtabifanjbckchaaGreat.Ml
open Go.Proofs.YtabifanjbckchaaGreat.Av.AVal (av)
open OVal (ov oh on)
open Mk (mkv cnt)

instance : OVal Ins := flatOV 74 (fun y x hx => by
  rw [av_Ins] at hx
  simp only [AV.cells, List.mem_cons, List.not_mem_nil, or_false] at hx
  rcases hx with rfl | rfl | rfl | rfl <;> rfl)

instance : Mk Ins := ⟨fun k x => ⟨k, k + 1, k + 1 + 1, markS (k + 1 + 1 + 1)⟩, fun x => 4⟩
theorem mk_Ins (k : Int) (x : Ins) : mkv k x = ⟨k, k + 1, k + 1 + 1, markS (k + 1 + 1 + 1)⟩ := rfl
theorem cnt_Ins (x : Ins) : cnt x = 4 := rfl
instance : MkB Ins := ⟨fun x => by
  have hbx : Bulk.bulk x = Bulk.bulk x.op + Bulk.bulk x.a + Bulk.bulk x.b + Bulk.bulk x.s + 1 := rfl
  have hbx_0 : Bulk.bulk x.op = 1 := rfl
  have hbx_1 : Bulk.bulk x.a = 1 := rfl
  have hbx_2 : Bulk.bulk x.b = 1 := rfl
  have hbx_3 : Bulk.bulk x.s = x.s.size + 1 := rfl
  rw [cnt_Ins]
  omega⟩


theorem toInsS_own (nm : Nat) (l : List Ins) (hx : Bulk.bulk l ≤ 1048576) : CallsH Tryz.prog 21 [.sl (l.map av)] [] (ToPost nm l) := by
  have hl := bulk_length l
  refine funH_laws_toInsS_H rfl ?_
  simp +contextual -dsimp only [↓SD, SU, SB, Nat.reduceAdd, Nat.reduceBEq, Nat.reduceEqDiff, Nat.reduceLeDiff, Nat.reduceLT, Nat.reduceSub, ↓reduceIte, zA, zI, zN, reduceCtorEq, Int.reduceToNat, zE, ir_laws_toInsS_H, rs_laws_toInsS_H, map_len]
  refine ⟨by omega, fun v => ?_⟩
  refine aLoop_of (X := Nat × (Nat → Nat)) (fun x => ⟨[(0, .sl (l.map av)), (3, .row 7 v l.length), (4, .int .i64 x.1)], (7, ⟨v, false, 74, 4, fillL l (AV.agg [.int .i64 0, .int .i64 0, .int .i64 0, .str (bs [])]) x.1⟩) :: []⟩) (fun x => x.1 ≤ l.length) (fun x => l.length - x.1) (0, fun _ => 0) (Nat.zero_le _) (by simp +contextual -dsimp only [↓SD, SU, SB, Nat.reduceAdd, Nat.reduceBEq, Nat.reduceEqDiff, Nat.reduceLeDiff, Nat.reduceLT, Nat.reduceSub, ↓reduceIte, zA, zI, zN, reduceCtorEq, Int.reduceToNat, zE]) (by simp +contextual -dsimp only [↓SD, SU, SB, Nat.reduceAdd, Nat.reduceBEq, Nat.reduceEqDiff, Nat.reduceLeDiff, Nat.reduceLT, Nat.reduceSub, ↓reduceIte, zA, zI, zN, reduceCtorEq, Int.reduceToNat, zE, fillL_zero]) ?_
  rintro ⟨k, vs⟩ hk
  dsimp only at hk ⊢
  by_cases hlt : k < l.length
  · have e := getD_map av l k .top hlt
    have hbk : Bulk.bulk l[k] ≤ 1048576 := by have := bulk_mem (List.getElem_mem hlt); omega
    have e1 := fillL_len (AV.agg [.int .i64 0, .int .i64 0, .int .i64 0, .str (bs [])]) hk
    have e2 := fillL_get (AV.agg [.int .i64 0, .int .i64 0, .int .i64 0, .str (bs [])]) hlt .top
    have e3 := fillL_set (z := (AV.agg [.int .i64 0, .int .i64 0, .int .i64 0, .str (bs [])])) hlt rfl
    rw [av_Ins] at e3
    simp +contextual -dsimp only [↓SD, SU, SB, Nat.reduceAdd, Nat.reduceBEq, Nat.reduceEqDiff, Nat.reduceLeDiff, Nat.reduceLT, Nat.reduceSub, ↓reduceIte, zA, zI, zN, reduceCtorEq, Int.reduceToNat, zE, map_len, hlt, e, av_Ins]
    have C := toIns_ok l[k] hbk
    rw [av_Ins] at C
    refine aCallK_of _ C ?_
    simp +contextual -dsimp only [↓SD, SU, SB, Nat.reduceAdd, Nat.reduceBEq, Nat.reduceEqDiff, Nat.reduceLeDiff, Nat.reduceLT, Nat.reduceSub, ↓reduceIte, zA, zI, zN, reduceCtorEq, Int.reduceToNat, zE, map_len, hlt, e, av_Ins, e1, e2, e3]
    refine ⟨by omega, Goes.le ⟨(k + 1, vs), ⟨hlt, (by first | omega | (simp only; omega))⟩, rfl⟩ (by simp +contextual -dsimp only [↓SD, SU, SB, Nat.reduceAdd, Nat.reduceBEq, Nat.reduceEqDiff, Nat.reduceLeDiff, Nat.reduceLT, Nat.reduceSub, ↓reduceIte, zA, zI, zN, reduceCtorEq, Int.reduceToNat, zE, Int.natCast_add]) (by simp +contextual -dsimp only [↓SD, SU, SB, Nat.reduceAdd, Nat.reduceBEq, Nat.reduceEqDiff, Nat.reduceLeDiff, Nat.reduceLT, Nat.reduceSub, ↓reduceIte, zA, zI, zN, reduceCtorEq, Int.reduceToNat, zE, e2, e3])⟩
  · obtain rfl : k = l.length := by omega
    simp +contextual -dsimp only [↓SD, SU, SB, Nat.reduceAdd, Nat.reduceBEq, Nat.reduceEqDiff, Nat.reduceLeDiff, Nat.reduceLT, Nat.reduceSub, ↓reduceIte, zA, zI, zN, reduceCtorEq, Int.reduceToNat, zE, map_len, Nat.lt_irrefl, fillL_full]
    refine Goes.ren 2 7 nm (v := v) (n := l.length) rfl hg_eq rfl fun v' => ?_
    refine Goes.post (oh nm (fun _ => v') l) ?_
    rw [oh_flat (fun _ _ _ => rfl) (fun _ _ _ => rfl)]
    simp +contextual -dsimp only [↓SD, SU, SB, Nat.reduceAdd, Nat.reduceBEq, Nat.reduceEqDiff, Nat.reduceLeDiff, Nat.reduceLT, Nat.reduceSub, ↓reduceIte, zA, zI, zN, reduceCtorEq, Int.reduceToNat, zE, hg_eq, hpLe_cons, hpLe_nil]
    exact ⟨rfl, _, rfl, (oh_flat (fun _ _ _ => rfl) (fun _ _ _ => rfl) nm (fun _ => v') l).symm⟩

set_option maxHeartbeats 1000000 in
theorem markInsS_own (nm : Nat) (vs : Nat → Nat) (l : List Ins) (k : Int) (h0 : 1 ≤ k) (h1 : k + (Bulk.bulk l : Int) ≤ 4611686018427387904) : CallsH Tryz.prog 27 [ov nm vs l, .int .i64 k] (oh nm vs l) (MarkPost nm vs k l) := by
  refine funH_laws_markInsS rfl ?_
  simp +contextual -dsimp only [↓SD, SU, SB, Nat.reduceAdd, Nat.reduceBEq, Nat.reduceEqDiff, Nat.reduceLeDiff, Nat.reduceLT, Nat.reduceSub, ↓reduceIte, zA, zI, zN, reduceCtorEq, Int.reduceToNat, zE, Int.reduceEq, Int.reduceLT, Int.reduceLE, Int.reduceNeg, Int.reduceAdd, Int.reduceSub, ir_laws_markInsS, rs_laws_markInsS, ov_list]
  refine aLoop_of (X := Nat) (fun i => ⟨[(0, .row nm (vs nm) l.length), (1, .int .i64 (k + (cntL (l.take i) : Int))), (5, .int .i64 i)], oh nm vs (mkTo k l i)⟩) (fun i => i ≤ l.length) (fun i => l.length - i) 0 (Nat.zero_le _) (by simp +contextual -dsimp only [↓SD, SU, SB, Nat.reduceAdd, Nat.reduceBEq, Nat.reduceEqDiff, Nat.reduceLeDiff, Nat.reduceLT, Nat.reduceSub, ↓reduceIte, zA, zI, zN, reduceCtorEq, Int.reduceToNat, zE, Int.reduceEq, Int.reduceLT, Int.reduceLE, Int.reduceNeg, Int.reduceAdd, Int.reduceSub, List.take_zero, cntL_nil, Int.natCast_zero, Int.add_zero]) (by rw [mkTo_zero]; exact OVal.self _ _ _) ?_
  rintro i hi
  by_cases hlt : i < l.length
  · have hLi : i < (mkTo k l i).length := by rw [mkTo_len hi]; exact hlt
    have hLl : (mkTo k l i).length = l.length := mkTo_len hi
    have hgi := mkTo_get hlt hLi
    have hsf := mkTo_set (k := k) hlt
    have hroom := cntL_roomB hlt
    have htake := cntL_take hlt
    have hle := cntL_le l (i + 1)
    have e := ovL_get nm vs (mkTo k l i) hLi .top
    rw [hgi, show ∀ y : Ins, ov (sub nm i) vs y = av y from fun _ => rfl, av_Ins] at e
    have hr := oh_root nm vs (mkTo k l i)
    have hlen : (ovL nm vs 0 (mkTo k l i)).length = l.length := by rw [ovL_len, hLl]
    obtain ⟨x, hx⟩ : ∃ x, x = l[i] := ⟨_, rfl⟩
    obtain ⟨K, hK⟩ : ∃ K, K = k + (cntL (l.take i) : Int) := ⟨_, rfl⟩
    try rw [← hx] at e
    try rw [← hx] at hroom
    try rw [← hx] at htake
    rw [← hx] at hsf
    rw [← hK] at hsf
    rw [lbox] at hr
    obtain ⟨E, hE⟩ : ∃ E, E = ovL nm vs 0 (mkTo k l i) := ⟨_, rfl⟩
    have hcount : cnt x = 4 := rfl
    rw [hcount] at htake
    have hbx : Bulk.bulk x = Bulk.bulk x.op + Bulk.bulk x.a + Bulk.bulk x.b + Bulk.bulk x.s + 1 := rfl
    have hbx_0 : Bulk.bulk x.op = 1 := rfl
    have hbx_1 : Bulk.bulk x.a = 1 := rfl
    have hbx_2 : Bulk.bulk x.b = 1 := rfl
    have hbx_3 : Bulk.bulk x.s = x.s.size + 1 := rfl
    have hbl := bulk_length l
    have hKn : k + (cntL (l.take (i + 1)) : Int) = K + 1 + 1 + 1 + 1 := by rw [htake]; omega
    have hKb : K + (Bulk.bulk x : Int) ≤ 4611686018427387904 := by omega
    have hK1 : 1 ≤ K := by omega
    have hmk : ov (sub nm i) vs (mkv K x) = AV.agg [.int .i64 (K), .int .i64 (K + 1), .int .i64 (K + 1 + 1), .str (markS (K + 1 + 1 + 1))] := by rw [show ∀ y : Ins, ov (sub nm i) vs y = av y from fun _ => rfl, mk_Ins, av_Ins]
    have hus : ovL nm vs 0 ((mkTo k l i).set i (mkv K x)) = E.set i (AV.agg [.int .i64 (K), .int .i64 (K + 1), .int .i64 (K + 1 + 1), .str (markS (K + 1 + 1 + 1))]) := by rw [ovL_set, hmk, ← hE]
    rw [← hE] at e hlen hr
    rw [← hK]
    have gs : ∀ a, (E.set i a).getD i .top = a := fun a => by rw [List.getD_eq_getElem?_getD, List.getElem?_set_self (by rw [hlen]; exact hlt)]; rfl
    have ls : ∀ a, (E.set i a).length = l.length := fun a => by rw [List.length_set, hlen]
    obtain ⟨H, hH⟩ : ∃ H, H = oh nm vs (mkTo k l i) := ⟨_, rfl⟩
    rw [← hH] at hr
    have hq : ∀ q, ¬ InT (sub nm i) q → q ≠ nm → hget H q = hget (oh nm vs (mkTo k l i)) q := fun q _ _ => by rw [hH]
    rw [show (AVal.n Ins) = 4 from rfl] at hr
    rw [← hH]
    clear hH
    simp +contextual -dsimp only [↓SD, SU, SB, Nat.reduceAdd, Nat.reduceBEq, Nat.reduceEqDiff, Nat.reduceLeDiff, Nat.reduceLT, Nat.reduceSub, ↓reduceIte, zA, zI, zN, reduceCtorEq, Int.reduceToNat, zE, Int.reduceEq, Int.reduceLT, Int.reduceLE, Int.reduceNeg, Int.reduceAdd, Int.reduceSub, hlt, hlen, e, gs, ls, List.set_set, ov_list, false_and, hr]
    repeat (refine And.intro (by omega) ?_)
    refine aCallK_of _ (markText_at (K + 1 + 1 + 1) (by omega) (by omega)) ?_
    simp +contextual -dsimp only [↓SD, SU, SB, Nat.reduceAdd, Nat.reduceBEq, Nat.reduceEqDiff, Nat.reduceLeDiff, Nat.reduceLT, Nat.reduceSub, ↓reduceIte, zA, zI, zN, reduceCtorEq, Int.reduceToNat, zE, Int.reduceEq, Int.reduceLT, Int.reduceLE, Int.reduceNeg, Int.reduceAdd, Int.reduceSub, hlt, hlen, e, gs, ls, List.set_set, ov_list, false_and, hr]
    repeat (refine And.intro (by omega) ?_)
    refine Goes.le ⟨i + 1, ⟨hlt, (by first | omega | (simp only; omega))⟩, rfl⟩ (by simp +contextual -dsimp only [↓SD, SU, SB, Nat.reduceAdd, Nat.reduceBEq, Nat.reduceEqDiff, Nat.reduceLeDiff, Nat.reduceLT, Nat.reduceSub, ↓reduceIte, zA, zI, zN, reduceCtorEq, Int.reduceToNat, zE, Int.natCast_add, hKn]) ?_
    rw [← hsf]
    refine oh_upd hLi ?_ ?_ ?_
    · repeat (first | exact hq | refine far_cons ?_)
    · rw [lbox, hus]; first | exact hg_eq | exact hr
    · exact trivial
  · obtain rfl : i = l.length := by omega
    rw [mkTo_full, cntL_full]
    have hr := oh_root nm vs (mkL k l)
    have hs := OVal.self nm vs (mkL k l)
    obtain ⟨H, hH⟩ : ∃ H, H = oh nm vs (mkL k l) := ⟨_, rfl⟩
    rw [← hH]
    simp +contextual -dsimp only [↓SD, SU, SB, Nat.reduceAdd, Nat.reduceBEq, Nat.reduceEqDiff, Nat.reduceLeDiff, Nat.reduceLT, Nat.reduceSub, ↓reduceIte, zA, zI, zN, reduceCtorEq, Int.reduceToNat, zE, Int.reduceEq, Int.reduceLT, Int.reduceLE, Int.reduceNeg, Int.reduceAdd, Int.reduceSub, Nat.lt_irrefl, map_len]
    refine Goes.post H ?_
    simp +contextual -dsimp only [↓SD, SU, SB, Nat.reduceAdd, Nat.reduceBEq, Nat.reduceEqDiff, Nat.reduceLeDiff, Nat.reduceLT, Nat.reduceSub, ↓reduceIte, zA, zI, zN, reduceCtorEq, Int.reduceToNat, zE]
    exact ⟨by rw [hH]; exact hs, rfl, by rw [hH]; rfl⟩


instance : OVal Code where
  ty := 33
  ov nm vs x := .agg [ov (sub nm 0) vs x.ins, ov (sub nm 1) vs x.pats]
  oh nm vs x := oh (sub nm 0) vs x.ins ++ oh (sub nm 1) vs x.pats
  on nm x := on (sub nm 0) x.ins ++ on (sub nm 1) x.pats
  names nm vs x := by simp only [List.map_append, OVal.names]
  inn nm x k h := by rcases List.mem_append.1 h with h | h <;> exact (OVal.inn _ _ _ h).up
  self nm vs x := self2 (OVal.self _ _ _) (OVal.self _ _ _) fun p hp q hq e => by
    have h1 := OVal.inh hp
    have h2 := OVal.inh hq
    rw [e] at h2
    have := h1.sib h2
    omega
  vdep nm vs vs' x h := by
    obtain ⟨a0, b0⟩ := OVal.vdep (sub nm 0) vs vs' x.ins (fun k hk => h k hk.up)
    obtain ⟨a1, b1⟩ := OVal.vdep (sub nm 1) vs vs' x.pats (fun k hk => h k hk.up)
    simp only [a0, b0, a1, b1, and_self]
  lend nm vs x hp h := by
    rw [hpLe_app] at h
    have h0 := OVal.lend (sub nm 0) vs x.ins hp h.1
    have h1 := OVal.lend (sub nm 1) vs x.pats (frzL (on (sub nm 0) x.ins) hp) (hpLe_frz (fun p hp => on_out (sib_ne (by omega) (OVal.inh hp))) h.2)
    rw [← frzL_app] at h1
    have d0 : (ov (sub nm 0) vs x.ins).pur (frzL (on (sub nm 0) x.ins ++ on (sub nm 1) x.pats) hp) = (ov (sub nm 0) vs x.ins).pur (frzL (on (sub nm 0) x.ins) hp) := OVal.dep _ _ _ _ _ fun k hk => by
      rw [frzL_app, hget_frzL_out (on_out (sib_ne (by omega) hk))]
    rw [← d0] at h0
    show AV.agg [(ov (sub nm 0) vs x.ins).pur (frzL (on (sub nm 0) x.ins ++ on (sub nm 1) x.pats) hp), (ov (sub nm 1) vs x.pats).pur (frzL (on (sub nm 0) x.ins ++ on (sub nm 1) x.pats) hp)] = av x
    rw [h0, h1]; rfl
  dep nm vs x hp hp' h := by
    have h0 := OVal.dep (sub nm 0) vs x.ins hp hp' (fun k hk => h k hk.up)
    have h1 := OVal.dep (sub nm 1) vs x.pats hp hp' (fun k hk => h k hk.up)
    show AV.agg [(ov (sub nm 0) vs x.ins).pur hp, (ov (sub nm 1) vs x.pats).pur hp] = AV.agg [(ov (sub nm 0) vs x.ins).pur hp', (ov (sub nm 1) vs x.pats).pur hp']
    rw [h0, h1]
  free nm vs x p h := by rcases List.mem_append.1 h with h | h <;> exact OVal.free _ _ _ p h
  cfree nm vs x y hx := by
    simp only [AV.cells, List.mem_cons, List.not_mem_nil, or_false] at hx
    rcases hx with rfl | rfl <;> rfl
  ok _ _ _ := rfl
  agg _ _ _ := rfl
  len _ _ _ := rfl
theorem ov_Code (nm : Nat) (vs : Nat → Nat) (x : Code) : ov nm vs x = .agg [.row (sub nm 0) (vs (sub nm 0)) x.ins.length, .row (sub nm 1) (vs (sub nm 1)) x.pats.length] := eqq rfl
theorem oh_Code (nm : Nat) (vs : Nat → Nat) (x : Code) : oh nm vs x = oh (sub nm 0) vs x.ins ++ oh (sub nm 1) vs x.pats := rfl

instance : Mk Code := ⟨fun k x => ⟨mkL (k) x.ins, mkL (k + (cntL x.ins : Int)) x.pats⟩, fun x => cntL x.ins + cntL x.pats⟩
theorem mk_Code (k : Int) (x : Code) : mkv k x = ⟨mkL (k) x.ins, mkL (k + (cntL x.ins : Int)) x.pats⟩ := rfl
theorem cnt_Code (x : Code) : cnt x = cntL x.ins + cntL x.pats := rfl
instance : MkB Code := ⟨fun x => by
  have hbx : Bulk.bulk x = Bulk.bulk x.ins + Bulk.bulk x.pats + 1 := rfl
  have hbx_0 := cntL_bulk x.ins
  have hbx_1 := cntL_bulk x.pats
  rw [cnt_Code]
  omega⟩

theorem toCode_own (nm : Nat) (x : Code) (hx : Bulk.bulk x ≤ 1048576) : CallsH Tryz.prog 7 [av x] [] (ToPost nm x) := by
  have hb : Bulk.bulk x.ins + Bulk.bulk x.pats + 1 ≤ 1048576 := hx
  refine funH_laws_toCode_H rfl ?_
  simp +contextual -dsimp only [↓SD, SU, SB, Nat.reduceAdd, Nat.reduceBEq, Nat.reduceEqDiff, Nat.reduceLeDiff, Nat.reduceLT, Nat.reduceSub, ↓reduceIte, zA, zI, zN, reduceCtorEq, Int.reduceToNat, zE, ir_laws_toCode_H, rs_laws_toCode_H, av_Code]
  (repeat' (first | intro _ | refine And.intro ?_ ?_))
  refine aCallH_gen [] (toInsS_own (sub nm 0) x.ins (by omega)) (by simp +contextual -dsimp only [↓SD, SU, SB, Nat.reduceAdd, Nat.reduceBEq, Nat.reduceEqDiff, Nat.reduceLeDiff, Nat.reduceLT, Nat.reduceSub, ↓reduceIte, zA, zI, zN, reduceCtorEq, Int.reduceToNat, zE]) ?_
  rintro r hp' ⟨v0, rfl, rfl⟩ H0 hH0
  rw [hrest_no] at hH0
  have hold0 := old_get hH0
  have ho0_0 : hpLe H0 (oh (sub nm 0) v0 x.ins) := by rw [hH0]; exact hpLe_l (OVal.self _ _ _)
  have hr0_0 := hpLe_root ho0_0
  simp +contextual -dsimp only [↓SD, SU, SB, Nat.reduceAdd, Nat.reduceBEq, Nat.reduceEqDiff, Nat.reduceLeDiff, Nat.reduceLT, Nat.reduceSub, ↓reduceIte, zA, zI, zN, reduceCtorEq, Int.reduceToNat, zE, ov_list, low_beq, hold0, hr0_0]
  refine aCallH_gen [] (toPatS_own (sub nm 1) x.pats (by omega)) (by simp +contextual -dsimp only [↓SD, SU, SB, Nat.reduceAdd, Nat.reduceBEq, Nat.reduceEqDiff, Nat.reduceLeDiff, Nat.reduceLT, Nat.reduceSub, ↓reduceIte, zA, zI, zN, reduceCtorEq, Int.reduceToNat, zE]) ?_
  rintro r hp' ⟨v1, rfl, rfl⟩ H1 hH1
  rw [hrest_no] at hH1
  have hold1 := old_get hH1
  have ho1_1 : hpLe H1 (oh (sub nm 1) v1 x.pats) := by rw [hH1]; exact hpLe_l (OVal.self _ _ _)
  have hr1_1 := hpLe_root ho1_1
  have ho1_0 : hpLe H1 (oh (sub nm 0) v0 x.ins) := hpLe_iff.2 fun p hp => by rw [hH1, hg_app_r (oh_ne (sib_ne (by omega) (OVal.inh hp)))]; exact hpLe_iff.1 (by repeat (first | exact ho0_0 | refine hpLe_low ?_ (by omega))) p hp
  have hr1_0 := hpLe_root ho1_0
  simp +contextual -dsimp only [↓SD, SU, SB, Nat.reduceAdd, Nat.reduceBEq, Nat.reduceEqDiff, Nat.reduceLeDiff, Nat.reduceLT, Nat.reduceSub, ↓reduceIte, zA, zI, zN, reduceCtorEq, Int.reduceToNat, zE, ov_list, low_beq, hold0, hold1, hr1_0, hr1_1]
  have hne : ∀ k, InT (sub nm 1) k → ¬ InT (sub nm 0) k := fun k h => sib_ne (by omega) h
  have he : oh nm (glue (sub nm 0) v0 v1) x = oh (sub nm 0) v0 x.ins ++ oh (sub nm 1) v1 x.pats := by rw [oh_Code, oh_glue, oh_glue' v0 v1 _ hne]
  refine Goes.post (oh nm (glue (sub nm 0) v0 v1) x) ?_
  simp +contextual -dsimp only [↓SD, SU, SB, Nat.reduceAdd, Nat.reduceBEq, Nat.reduceEqDiff, Nat.reduceLeDiff, Nat.reduceLT, Nat.reduceSub, ↓reduceIte, zA, zI, zN, reduceCtorEq, Int.reduceToNat, zE, low_beq, hold1, hold0, false_and, hr1_0, hr1_1]
  refine ⟨?_, _, ?_, rfl⟩
  · rw [he, hpLe_app]
    exact ⟨(by repeat (first | exact ho1_0 | refine hpLe_low ?_ (by omega))), (by repeat (first | exact ho1_1 | refine hpLe_low ?_ (by omega)))⟩
  · rw [ov_Code, glue_in .root, glue_out (hne _ .root)]

theorem markCode_own (nm : Nat) (vs : Nat → Nat) (x : Code) (k : Int) (h0 : 1 ≤ k) (h1 : k + (Bulk.bulk x : Int) ≤ 4611686018427387904) : CallsH Tryz.prog 11 [ov nm vs x, .int .i64 k] (oh nm vs x) (MarkPost nm vs k x) := by
  have hbx : Bulk.bulk x = Bulk.bulk x.ins + Bulk.bulk x.pats + 1 := rfl
  have hbx_0 := cntL_bulk x.ins
  have hbx_1 := cntL_bulk x.pats
  obtain ⟨H, hH⟩ : ∃ H, H = oh nm vs x := ⟨_, rfl⟩
  have hs : hpLe H (oh nm vs x) := by rw [hH]; exact OVal.self nm vs x
  rw [← hH]
  rw [oh_Code, hpLe_app] at hs
  refine funH_laws_markCode rfl ?_
  have hl0 := hs.1
  have hk0 := hpLe_root hl0
  have hl1 := hs.2
  have hk1 := hpLe_root hl1
  simp +contextual -dsimp only [↓SD, SU, SB, Nat.reduceAdd, Nat.reduceBEq, Nat.reduceEqDiff, Nat.reduceLeDiff, Nat.reduceLT, Nat.reduceSub, ↓reduceIte, zA, zI, zN, reduceCtorEq, Int.reduceToNat, zE, Int.reduceEq, Int.reduceLT, Int.reduceLE, Int.reduceNeg, Int.reduceAdd, Int.reduceSub, ir_laws_markCode, rs_laws_markCode, ov_Code, false_and, hk0, hk1]
  refine aCallH_gen (on (sub nm 0) x.ins) (markInsS_own (sub nm 0) vs x.ins _ (by omega) (by omega)) (hsel_on hl0) ?_
  rintro r hp' ⟨rfl, rfl⟩ H0 hH0
  have hd0 := part_done hH0
  have hl1_0 := part_other hH0 (fun k h => sib_ne (by omega) h) hl1
  have hk1_0 := hpLe_root hl1_0
  rw [cnt_list]
  simp +contextual -dsimp only [↓SD, SU, SB, Nat.reduceAdd, Nat.reduceBEq, Nat.reduceEqDiff, Nat.reduceLeDiff, Nat.reduceLT, Nat.reduceSub, ↓reduceIte, zA, zI, zN, reduceCtorEq, Int.reduceToNat, zE, Int.reduceEq, Int.reduceLT, Int.reduceLE, Int.reduceNeg, Int.reduceAdd, Int.reduceSub, ov_Code, false_and, hk1_0]
  refine aCallH_gen (on (sub nm 1) x.pats) (markPatS_own (sub nm 1) vs x.pats _ (by omega) (by omega)) (hsel_on hl1_0) ?_
  rintro r hp' ⟨rfl, rfl⟩ H1 hH1
  have hd1 := part_done hH1
  have hd0_1 := part_other hH1 (fun k h => sib_ne (by omega) h) hd0
  rw [cnt_list]
  simp +contextual -dsimp only [↓SD, SU, SB, Nat.reduceAdd, Nat.reduceBEq, Nat.reduceEqDiff, Nat.reduceLeDiff, Nat.reduceLT, Nat.reduceSub, ↓reduceIte, zA, zI, zN, reduceCtorEq, Int.reduceToNat, zE, Int.reduceEq, Int.reduceLT, Int.reduceLE, Int.reduceNeg, Int.reduceAdd, Int.reduceSub, ov_Code, false_and]
  refine Goes.post (oh nm vs (mkv k x)) ?_
  simp +contextual -dsimp only [↓SD, SU, SB, Nat.reduceAdd, Nat.reduceBEq, Nat.reduceEqDiff, Nat.reduceLeDiff, Nat.reduceLT, Nat.reduceSub, ↓reduceIte, zA, zI, zN, reduceCtorEq, Int.reduceToNat, zE]
  refine ⟨by rw [oh_Code]; exact hpLe_app.2 ⟨hd0_1, hd1⟩, ?_, rfl⟩
  rw [cnt_Code]; exact congrArg _ (by omega)


end Go.Proofs.YtabifanjbckchaaGreat
