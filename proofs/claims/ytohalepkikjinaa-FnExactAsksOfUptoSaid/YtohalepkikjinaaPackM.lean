/-
  THE GROUND OF DATA, in one text. Conditions: none.
-/
import Derived.Test.YtohalepkikjinaaPackO
import Derived.Test.YtohalepkikjinaaPackG
import Derived.Test.YtohalepkikjinaaIrOInt
import Derived.Test.YtohalepkikjinaaIrOAsk

set_option linter.unusedVariables false
set_option linter.unusedSimpArgs false
set_option maxRecDepth 100000
namespace Go.Proofs.Ytohalepkikjinaa
open Go.RowKit Go.Proofs.Ytohalepkikjinaa.Av Go.Proofs.Ytohalepkikjinaa.Ml
open Go.Proofs.Ytohalepkikjinaa.Av.AVal (av)
open OVal (ov oh on)
open Mk (mkv cnt)

theorem toIntS_own (nm : Nat) (l : List Int) (hx : Bulk.bulk l ≤ 1048576) : CallsH Try.prog 69 [.sl (l.map av)] [] (ToPost nm l) := by
  have hl := bulk_length l
  refine funH_laws_toIntS_H rfl ?_
  simp +contextual -dsimp only [↓SD, SU, SB, Nat.reduceAdd, Nat.reduceBEq, Nat.reduceEqDiff, Nat.reduceLeDiff, Nat.reduceLT, Nat.reduceSub, ↓reduceIte, zA, zI, zN, reduceCtorEq, Int.reduceToNat, zE, ir_laws_toIntS_H, rs_laws_toIntS_H, map_len]
  refine ⟨by omega, fun v => ?_⟩
  refine aLoop_of (X := Nat × (Nat → Nat)) (fun x => ⟨[(0, .sl (l.map av)), (3, .row 7 v l.length), (4, .int .i64 x.1)], (7, ⟨v, false, 3, 1, fillL l (AV.int .i64 0) x.1⟩) :: []⟩) (fun x => x.1 ≤ l.length) (fun x => l.length - x.1) (0, fun _ => 0) (Nat.zero_le _) (by simp +contextual -dsimp only [↓SD, SU, SB, Nat.reduceAdd, Nat.reduceBEq, Nat.reduceEqDiff, Nat.reduceLeDiff, Nat.reduceLT, Nat.reduceSub, ↓reduceIte, zA, zI, zN, reduceCtorEq, Int.reduceToNat, zE]) (by simp +contextual -dsimp only [↓SD, SU, SB, Nat.reduceAdd, Nat.reduceBEq, Nat.reduceEqDiff, Nat.reduceLeDiff, Nat.reduceLT, Nat.reduceSub, ↓reduceIte, zA, zI, zN, reduceCtorEq, Int.reduceToNat, zE, fillL_zero]) ?_
  rintro ⟨k, vs⟩ hk
  dsimp only at hk ⊢
  by_cases hlt : k < l.length
  · have e := getD_map av l k .top hlt
    have hbk : Bulk.bulk l[k] ≤ 1048576 := by have := bulk_mem (List.getElem_mem hlt); omega
    have e1 := fillL_len (AV.int .i64 0) hk
    have e2 := fillL_get (AV.int .i64 0) hlt .top
    have e3 := fillL_set (z := (AV.int .i64 0)) hlt rfl
    rw [av_int] at e3
    simp +contextual -dsimp only [↓SD, SU, SB, Nat.reduceAdd, Nat.reduceBEq, Nat.reduceEqDiff, Nat.reduceLeDiff, Nat.reduceLT, Nat.reduceSub, ↓reduceIte, zA, zI, zN, reduceCtorEq, Int.reduceToNat, zE, map_len, hlt, e, av_int, e1, e2, e3]
    refine ⟨by omega, Goes.le ⟨(k + 1, vs), ⟨hlt, (by first | omega | (simp only; omega))⟩, rfl⟩ (by simp +contextual -dsimp only [↓SD, SU, SB, Nat.reduceAdd, Nat.reduceBEq, Nat.reduceEqDiff, Nat.reduceLeDiff, Nat.reduceLT, Nat.reduceSub, ↓reduceIte, zA, zI, zN, reduceCtorEq, Int.reduceToNat, zE, Int.natCast_add]) (by simp +contextual -dsimp only [↓SD, SU, SB, Nat.reduceAdd, Nat.reduceBEq, Nat.reduceEqDiff, Nat.reduceLeDiff, Nat.reduceLT, Nat.reduceSub, ↓reduceIte, zA, zI, zN, reduceCtorEq, Int.reduceToNat, zE, e2, e3])⟩
  · obtain rfl : k = l.length := by omega
    simp +contextual -dsimp only [↓SD, SU, SB, Nat.reduceAdd, Nat.reduceBEq, Nat.reduceEqDiff, Nat.reduceLeDiff, Nat.reduceLT, Nat.reduceSub, ↓reduceIte, zA, zI, zN, reduceCtorEq, Int.reduceToNat, zE, map_len, Nat.lt_irrefl, fillL_full]
    refine Goes.ren 2 7 nm (v := v) (n := l.length) rfl hg_eq rfl fun v' => ?_
    refine Goes.post (oh nm (fun _ => v') l) ?_
    rw [oh_flat (fun _ _ _ => rfl) (fun _ _ _ => rfl)]
    simp +contextual -dsimp only [↓SD, SU, SB, Nat.reduceAdd, Nat.reduceBEq, Nat.reduceEqDiff, Nat.reduceLeDiff, Nat.reduceLT, Nat.reduceSub, ↓reduceIte, zA, zI, zN, reduceCtorEq, Int.reduceToNat, zE, hg_eq, hpLe_cons, hpLe_nil]
    exact ⟨rfl, _, rfl, (oh_flat (fun _ _ _ => rfl) (fun _ _ _ => rfl) nm (fun _ => v') l).symm⟩

set_option maxHeartbeats 1000000 in
theorem markIntS_own (nm : Nat) (vs : Nat → Nat) (l : List Int) (k : Int) (h0 : 1 ≤ k) (h1 : k + (Bulk.bulk l : Int) ≤ 4611686018427387904) : CallsH Try.prog 49 [ov nm vs l, .int .i64 k] (oh nm vs l) (MarkPost nm vs k l) := by
  refine funH_laws_markIntS rfl ?_
  simp +contextual -dsimp only [↓SD, SU, SB, Nat.reduceAdd, Nat.reduceBEq, Nat.reduceEqDiff, Nat.reduceLeDiff, Nat.reduceLT, Nat.reduceSub, ↓reduceIte, zA, zI, zN, reduceCtorEq, Int.reduceToNat, zE, Int.reduceEq, Int.reduceLT, Int.reduceLE, Int.reduceNeg, Int.reduceAdd, Int.reduceSub, ir_laws_markIntS, rs_laws_markIntS, ov_list]
  refine aLoop_of (X := Nat) (fun i => ⟨[(0, .row nm (vs nm) l.length), (1, .int .i64 (k + (cntL (l.take i) : Int))), (5, .int .i64 i)], oh nm vs (mkTo k l i)⟩) (fun i => i ≤ l.length) (fun i => l.length - i) 0 (Nat.zero_le _) (by simp +contextual -dsimp only [↓SD, SU, SB, Nat.reduceAdd, Nat.reduceBEq, Nat.reduceEqDiff, Nat.reduceLeDiff, Nat.reduceLT, Nat.reduceSub, ↓reduceIte, zA, zI, zN, reduceCtorEq, Int.reduceToNat, zE, Int.reduceEq, Int.reduceLT, Int.reduceLE, Int.reduceNeg, Int.reduceAdd, Int.reduceSub, List.take_zero, cntL_nil, Int.natCast_zero, Int.add_zero]) (by rw [mkTo_zero]; exact OVal.self _ _ _) ?_
  rintro i hi
  by_cases hlt : i < l.length
  · have hLi : i < (mkTo k l i).length := by rw [mkTo_len hi]; exact hlt
    have hLl : (mkTo k l i).length = l.length := mkTo_len hi
    have hgi := mkTo_get hlt hLi
    have hsf := mkTo_set (k := k) hlt
    have hroom := cntL_roomB hlt
    have htake := cntL_take hlt
    have hle := cntL_le l (i + 1)
    have e := ovL_get nm vs (mkTo k l i) hLi .top
    rw [hgi] at e
    have hr := oh_root nm vs (mkTo k l i)
    rw [show ∀ x : Int, ov (sub nm i) vs x = av x from fun _ => rfl, av_int] at e
    have hlen : (ovL nm vs 0 (mkTo k l i)).length = l.length := by rw [ovL_len, hLl]
    obtain ⟨x, hx⟩ : ∃ x, x = l[i] := ⟨_, rfl⟩
    obtain ⟨K, hK⟩ : ∃ K, K = k + (cntL (l.take i) : Int) := ⟨_, rfl⟩
    try rw [← hx] at e
    try rw [← hx] at hroom
    try rw [← hx] at htake
    rw [← hx] at hsf
    rw [← hK] at hsf
    rw [lbox] at hr
    obtain ⟨E, hE⟩ : ∃ E, E = ovL nm vs 0 (mkTo k l i) := ⟨_, rfl⟩
    have hcount : cnt x = 1 := rfl
    rw [hcount] at htake
    have hbx : Bulk.bulk x = 1 := rfl
    have hbl := bulk_length l
    have hKn : k + (cntL (l.take (i + 1)) : Int) = K + 1 := by rw [htake]; omega
    have hKb : K + (Bulk.bulk x : Int) ≤ 4611686018427387904 := by omega
    have hK1 : 1 ≤ K := by omega
    have hmk : ov (sub nm i) vs (mkv K x) = AV.int .i64 K := by rfl
    have hus : ovL nm vs 0 ((mkTo k l i).set i (mkv K x)) = E.set i (AV.int .i64 K) := by rw [ovL_set, hmk, ← hE]
    rw [← hE] at e hlen hr
    rw [← hK]
    have gs : ∀ a, (E.set i a).getD i .top = a := fun a => by rw [List.getD_eq_getElem?_getD, List.getElem?_set_self (by rw [hlen]; exact hlt)]; rfl
    have ls : ∀ a, (E.set i a).length = l.length := fun a => by rw [List.length_set, hlen]
    obtain ⟨H, hH⟩ : ∃ H, H = oh nm vs (mkTo k l i) := ⟨_, rfl⟩
    rw [← hH] at hr
    have hq : ∀ q, ¬ InT (sub nm i) q → q ≠ nm → hget H q = hget (oh nm vs (mkTo k l i)) q := fun q _ _ => by rw [hH]
    rw [show (AVal.n Int) = 1 from rfl] at hr
    rw [← hH]
    clear hH
    simp +contextual -dsimp only [↓SD, SU, SB, Nat.reduceAdd, Nat.reduceBEq, Nat.reduceEqDiff, Nat.reduceLeDiff, Nat.reduceLT, Nat.reduceSub, ↓reduceIte, zA, zI, zN, reduceCtorEq, Int.reduceToNat, zE, Int.reduceEq, Int.reduceLT, Int.reduceLE, Int.reduceNeg, Int.reduceAdd, Int.reduceSub, hlt, hlen, e, gs, ls, List.set_set, ov_list, hr]
    repeat (refine And.intro (by omega) ?_)
    refine Goes.le ⟨i + 1, ⟨hlt, (by first | omega | (simp only; omega))⟩, rfl⟩ (by simp +contextual -dsimp only [↓SD, SU, SB, Nat.reduceAdd, Nat.reduceBEq, Nat.reduceEqDiff, Nat.reduceLeDiff, Nat.reduceLT, Nat.reduceSub, ↓reduceIte, zA, zI, zN, reduceCtorEq, Int.reduceToNat, zE, Int.natCast_add, hKn]) ?_
    rw [← hsf]
    refine oh_upd hLi ?_ ?_ ?_
    · repeat (first | exact hq | refine far_cons ?_)
    · rw [lbox, hus]; first | exact hg_eq | exact hr
    · exact trivial
  · obtain rfl : i = l.length := by omega
    rw [mkTo_full, cntL_full]
    have hr := oh_root nm vs (mkL k l)
    have hs := OVal.self nm vs (mkL k l)
    obtain ⟨H, hH⟩ : ∃ H, H = oh nm vs (mkL k l) := ⟨_, rfl⟩
    rw [← hH]
    simp +contextual -dsimp only [↓SD, SU, SB, Nat.reduceAdd, Nat.reduceBEq, Nat.reduceEqDiff, Nat.reduceLeDiff, Nat.reduceLT, Nat.reduceSub, ↓reduceIte, zA, zI, zN, reduceCtorEq, Int.reduceToNat, zE, Int.reduceEq, Int.reduceLT, Int.reduceLE, Int.reduceNeg, Int.reduceAdd, Int.reduceSub, Nat.lt_irrefl, map_len]
    refine Goes.post H ?_
    simp +contextual -dsimp only [↓SD, SU, SB, Nat.reduceAdd, Nat.reduceBEq, Nat.reduceEqDiff, Nat.reduceLeDiff, Nat.reduceLT, Nat.reduceSub, ↓reduceIte, zA, zI, zN, reduceCtorEq, Int.reduceToNat, zE]
    exact ⟨by rw [hH]; exact hs, rfl, by rw [hH]; rfl⟩

set_option maxHeartbeats 1000000 in
theorem heldIntS_own (l : List Int) (k : Int) (h0 : 1 ≤ k) (h1 : k + (Bulk.bulk l : Int) ≤ 4611686018427387904) : CallsF Try.prog 50 [.sl ((mkL k l).map av), .int .i64 k] (.int .i64 (k + (cntL l : Int))) := by
  refine fun_laws_heldIntS rfl (by simp; exact ⟨lav_clean _, pint _⟩) (pint _) ?_
  simp +contextual -dsimp only [↓SD, SU, SB, Nat.reduceAdd, Nat.reduceBEq, Nat.reduceEqDiff, Nat.reduceLeDiff, Nat.reduceLT, Nat.reduceSub, ↓reduceIte, zA, zI, zN, reduceCtorEq, Int.reduceToNat, zE, Int.reduceEq, Int.reduceLT, Int.reduceLE, Int.reduceNeg, Int.reduceAdd, Int.reduceSub, ir_laws_heldIntS, rs_laws_heldIntS, map_len, mkL_len]
  refine aLoop_of (X := Nat) (fun i => ⟨[(0, .sl ((mkL k l).map av)), (1, .int .i64 (k + (cntL (l.take i) : Int))), (5, .int .i64 i)], []⟩) (fun i => i ≤ l.length) (fun i => l.length - i) 0 (Nat.zero_le _) (by simp +contextual -dsimp only [↓SD, SU, SB, Nat.reduceAdd, Nat.reduceBEq, Nat.reduceEqDiff, Nat.reduceLeDiff, Nat.reduceLT, Nat.reduceSub, ↓reduceIte, zA, zI, zN, reduceCtorEq, Int.reduceToNat, zE, Int.reduceEq, Int.reduceLT, Int.reduceLE, Int.reduceNeg, Int.reduceAdd, Int.reduceSub, List.take_zero, cntL_nil, Int.natCast_zero, Int.add_zero]) trivial ?_
  rintro i hi
  by_cases hlt : i < l.length
  · have hroom := cntL_roomB hlt
    have htake := cntL_take hlt
    have e := getD_map av (mkL k l) i .top (by rw [mkL_len]; exact hlt)
    rw [mkL_get k l i hlt] at e
    rw [show (mkv (k + (cntL (l.take i) : Int)) l[i] : Int) = k + (cntL (l.take i) : Int) from rfl, av_int] at e
    obtain ⟨x, hx⟩ : ∃ x, x = l[i] := ⟨_, rfl⟩
    obtain ⟨K, hK⟩ : ∃ K, K = k + (cntL (l.take i) : Int) := ⟨_, rfl⟩
    rw [← hx] at hroom htake
    rw [← hK] at e ⊢
    have hcount : cnt x = 1 := rfl
    rw [hcount] at htake
    have hbx : Bulk.bulk x = 1 := rfl
    have hbl := bulk_length l
    have hKn : k + (cntL (l.take (i + 1)) : Int) = K + 1 := by rw [htake]; omega
    have hKb : K + (Bulk.bulk x : Int) ≤ 4611686018427387904 := by omega
    have hK1 : 1 ≤ K := by omega
    simp +contextual -dsimp only [↓SD, SU, SB, Nat.reduceAdd, Nat.reduceBEq, Nat.reduceEqDiff, Nat.reduceLeDiff, Nat.reduceLT, Nat.reduceSub, ↓reduceIte, zA, zI, zN, reduceCtorEq, Int.reduceToNat, zE, Int.reduceEq, Int.reduceLT, Int.reduceLE, Int.reduceNeg, Int.reduceAdd, Int.reduceSub, hlt, map_len, mkL_len, e]
    repeat (refine And.intro (by omega) ?_)
    exact Goes.le ⟨i + 1, ⟨hlt, (by first | omega | (simp only; omega))⟩, rfl⟩ (by simp +contextual -dsimp only [↓SD, SU, SB, Nat.reduceAdd, Nat.reduceBEq, Nat.reduceEqDiff, Nat.reduceLeDiff, Nat.reduceLT, Nat.reduceSub, ↓reduceIte, zA, zI, zN, reduceCtorEq, Int.reduceToNat, zE, Int.natCast_add, hKn]) trivial
  · obtain rfl : i = l.length := by omega
    rw [cntL_full]
    simp +contextual -dsimp only [↓SD, SU, SB, Nat.reduceAdd, Nat.reduceBEq, Nat.reduceEqDiff, Nat.reduceLeDiff, Nat.reduceLT, Nat.reduceSub, ↓reduceIte, zA, zI, zN, reduceCtorEq, Int.reduceToNat, zE, Int.reduceEq, Int.reduceLT, Int.reduceLE, Int.reduceNeg, Int.reduceAdd, Int.reduceSub, Nat.lt_irrefl, map_len, mkL_len]

end Go.Proofs.Ytohalepkikjinaa


set_option linter.unusedVariables false
set_option linter.unusedSimpArgs false
set_option maxRecDepth 100000
namespace Go.Proofs.Ytohalepkikjinaa
open Go.RowKit Go.Proofs.Ytohalepkikjinaa.Av Go.Proofs.Ytohalepkikjinaa.Ml
open Go.Proofs.Ytohalepkikjinaa.Av.AVal (av)
open OVal (ov oh on)
open Mk (mkv cnt)

instance : OVal Ask where
  ty := 75
  ov nm vs x := .agg [.int .i64 x.arm, ov (sub nm 0) vs x.path, .int .i64 x.kind, .int .i64 x.n, .str x.s, .bool x.has, .int .i64 x.yes, .int .i64 x.no]
  oh nm vs x := oh (sub nm 0) vs x.path
  on nm x := on (sub nm 0) x.path
  names nm vs x := OVal.names _ _ _
  inn nm x k h := (OVal.inn _ _ _ h).up
  self nm vs x := OVal.self _ _ _
  vdep nm vs vs' x h := by
    obtain ⟨a0, b0⟩ := OVal.vdep (sub nm 0) vs vs' x.path (fun k hk => h k hk.up)
    simp only [a0, b0, and_self]
  lend nm vs x hp h := by
    have h0 := OVal.lend (sub nm 0) vs x.path hp h
    show AV.agg [.int .i64 x.arm, (ov (sub nm 0) vs x.path).pur (frzL (on (sub nm 0) x.path) hp), .int .i64 x.kind, .int .i64 x.n, .str x.s, .bool x.has, .int .i64 x.yes, .int .i64 x.no] = av x
    rw [h0]; rfl
  dep nm vs x hp hp' h := by
    have h0 := OVal.dep (sub nm 0) vs x.path hp hp' (fun k hk => h k hk.up)
    show AV.agg [.int .i64 x.arm, (ov (sub nm 0) vs x.path).pur hp, .int .i64 x.kind, .int .i64 x.n, .str x.s, .bool x.has, .int .i64 x.yes, .int .i64 x.no] = AV.agg [.int .i64 x.arm, (ov (sub nm 0) vs x.path).pur hp', .int .i64 x.kind, .int .i64 x.n, .str x.s, .bool x.has, .int .i64 x.yes, .int .i64 x.no]
    rw [h0]
  free nm vs x p h := by exact OVal.free _ _ _ p h
  cfree nm vs x y hx := by
    simp only [AV.cells, List.mem_cons, List.not_mem_nil, or_false] at hx
    rcases hx with rfl | rfl | rfl | rfl | rfl | rfl | rfl | rfl <;> rfl
  ok _ _ _ := rfl
  agg _ _ _ := rfl
  len _ _ _ := rfl
theorem ov_Ask (nm : Nat) (vs : Nat → Nat) (x : Ask) : ov nm vs x = .agg [.int .i64 x.arm, .row (sub nm 0) (vs (sub nm 0)) x.path.length, .int .i64 x.kind, .int .i64 x.n, .str x.s, .bool x.has, .int .i64 x.yes, .int .i64 x.no] := eqq rfl
theorem oh_Ask (nm : Nat) (vs : Nat → Nat) (x : Ask) : oh nm vs x = oh (sub nm 0) vs x.path := rfl

instance : Mk Ask := ⟨fun k x => ⟨k, mkL (k + 1) x.path, k + 1 + (cntL x.path : Int), k + 1 + (cntL x.path : Int) + 1, markS (k + 1 + (cntL x.path : Int) + 1 + 1), decide ((k + 1 + (cntL x.path : Int) + 1 + 1 + 1).tmod 3 = 0), k + 1 + (cntL x.path : Int) + 1 + 1 + 1 + 1, k + 1 + (cntL x.path : Int) + 1 + 1 + 1 + 1 + 1⟩, fun x => 7 + cntL x.path⟩
theorem mk_Ask (k : Int) (x : Ask) : mkv k x = ⟨k, mkL (k + 1) x.path, k + 1 + (cntL x.path : Int), k + 1 + (cntL x.path : Int) + 1, markS (k + 1 + (cntL x.path : Int) + 1 + 1), decide ((k + 1 + (cntL x.path : Int) + 1 + 1 + 1).tmod 3 = 0), k + 1 + (cntL x.path : Int) + 1 + 1 + 1 + 1, k + 1 + (cntL x.path : Int) + 1 + 1 + 1 + 1 + 1⟩ := rfl
theorem cnt_Ask (x : Ask) : cnt x = 7 + cntL x.path := rfl
instance : MkB Ask := ⟨fun x => by
  have hbx : Bulk.bulk x = Bulk.bulk x.arm + Bulk.bulk x.path + Bulk.bulk x.kind + Bulk.bulk x.n + Bulk.bulk x.s + Bulk.bulk x.has + Bulk.bulk x.yes + Bulk.bulk x.no + 1 := rfl
  have hbx_0 : Bulk.bulk x.arm = 1 := rfl
  have hbx_1 := cntL_bulk x.path
  have hbx_2 : Bulk.bulk x.kind = 1 := rfl
  have hbx_3 : Bulk.bulk x.n = 1 := rfl
  have hbx_4 : Bulk.bulk x.s = x.s.size + 1 := rfl
  have hbx_5 : Bulk.bulk x.has = 1 := rfl
  have hbx_6 : Bulk.bulk x.yes = 1 := rfl
  have hbx_7 : Bulk.bulk x.no = 1 := rfl
  rw [cnt_Ask]
  omega⟩



set_option maxHeartbeats 1000000 in
theorem markAskS_own (nm : Nat) (vs : Nat → Nat) (l : List Ask) (k : Int) (h0 : 1 ≤ k) (h1 : k + (Bulk.bulk l : Int) ≤ 4611686018427387904) : CallsH Try.prog 27 [ov nm vs l, .int .i64 k] (oh nm vs l) (MarkPost nm vs k l) := by
  refine funH_laws_markAskS rfl ?_
  simp +contextual -dsimp only [↓SD, SU, SB, Nat.reduceAdd, Nat.reduceBEq, Nat.reduceEqDiff, Nat.reduceLeDiff, Nat.reduceLT, Nat.reduceSub, ↓reduceIte, zA, zI, zN, reduceCtorEq, Int.reduceToNat, zE, Int.reduceEq, Int.reduceLT, Int.reduceLE, Int.reduceNeg, Int.reduceAdd, Int.reduceSub, ir_laws_markAskS, rs_laws_markAskS, ov_list]
  refine aLoop_of (X := Nat) (fun i => ⟨[(0, .row nm (vs nm) l.length), (1, .int .i64 (k + (cntL (l.take i) : Int))), (5, .int .i64 i)], oh nm vs (mkTo k l i)⟩) (fun i => i ≤ l.length) (fun i => l.length - i) 0 (Nat.zero_le _) (by simp +contextual -dsimp only [↓SD, SU, SB, Nat.reduceAdd, Nat.reduceBEq, Nat.reduceEqDiff, Nat.reduceLeDiff, Nat.reduceLT, Nat.reduceSub, ↓reduceIte, zA, zI, zN, reduceCtorEq, Int.reduceToNat, zE, Int.reduceEq, Int.reduceLT, Int.reduceLE, Int.reduceNeg, Int.reduceAdd, Int.reduceSub, List.take_zero, cntL_nil, Int.natCast_zero, Int.add_zero]) (by rw [mkTo_zero]; exact OVal.self _ _ _) ?_
  rintro i hi
  by_cases hlt : i < l.length
  · have hLi : i < (mkTo k l i).length := by rw [mkTo_len hi]; exact hlt
    have hLl : (mkTo k l i).length = l.length := mkTo_len hi
    have hgi := mkTo_get hlt hLi
    have hsf := mkTo_set (k := k) hlt
    have hroom := cntL_roomB hlt
    have htake := cntL_take hlt
    have hle := cntL_le l (i + 1)
    have e := ovL_get nm vs (mkTo k l i) hLi .top
    rw [hgi, ov_Ask] at e
    have hel := oh_elem (nm := nm) (vs := vs) hLi
    rw [hgi, oh_Ask] at hel
    have hr := oh_root nm vs (mkTo k l i)
    have hlen : (ovL nm vs 0 (mkTo k l i)).length = l.length := by rw [ovL_len, hLl]
    obtain ⟨x, hx⟩ : ∃ x, x = l[i] := ⟨_, rfl⟩
    obtain ⟨K, hK⟩ : ∃ K, K = k + (cntL (l.take i) : Int) := ⟨_, rfl⟩
    try rw [← hx] at e
    try rw [← hx] at hroom
    try rw [← hx] at htake
    try rw [← hx] at hel
    rw [← hx] at hsf
    rw [← hK] at hsf
    rw [lbox] at hr
    obtain ⟨E, hE⟩ : ∃ E, E = ovL nm vs 0 (mkTo k l i) := ⟨_, rfl⟩
    have hcount : cnt x = 7 + cntL x.path := rfl
    rw [hcount] at htake
    have hbx : Bulk.bulk x = Bulk.bulk x.arm + Bulk.bulk x.path + Bulk.bulk x.kind + Bulk.bulk x.n + Bulk.bulk x.s + Bulk.bulk x.has + Bulk.bulk x.yes + Bulk.bulk x.no + 1 := rfl
    have hbx_0 : Bulk.bulk x.arm = 1 := rfl
    have hbx_1 := cntL_bulk x.path
    have hbx_2 : Bulk.bulk x.kind = 1 := rfl
    have hbx_3 : Bulk.bulk x.n = 1 := rfl
    have hbx_4 : Bulk.bulk x.s = x.s.size + 1 := rfl
    have hbx_5 : Bulk.bulk x.has = 1 := rfl
    have hbx_6 : Bulk.bulk x.yes = 1 := rfl
    have hbx_7 : Bulk.bulk x.no = 1 := rfl
    have hbl := bulk_length l
    have hKn : k + (cntL (l.take (i + 1)) : Int) = K + 1 + (cntL x.path : Int) + 1 + 1 + 1 + 1 + 1 + 1 := by rw [htake]; omega
    have hKb : K + (Bulk.bulk x : Int) ≤ 4611686018427387904 := by omega
    have hK1 : 1 ≤ K := by omega
    have htm0 : 0 ≤ (K + 1 + (cntL x.path : Int) + 1 + 1 + 1).tmod 3 ∧ (K + 1 + (cntL x.path : Int) + 1 + 1 + 1).tmod 3 ≤ 2 := by rw [Int.tmod_eq_emod_of_nonneg (by omega)]; omega
    have hmk : ov (sub nm i) vs (mkv K x) = AV.agg [.int .i64 (K), .row (sub (sub nm i) 0) (vs (sub (sub nm i) 0)) x.path.length, .int .i64 (K + 1 + (cntL x.path : Int)), .int .i64 (K + 1 + (cntL x.path : Int) + 1), .str (markS (K + 1 + (cntL x.path : Int) + 1 + 1)), .bool (decide ((K + 1 + (cntL x.path : Int) + 1 + 1 + 1).tmod 3 = 0)), .int .i64 (K + 1 + (cntL x.path : Int) + 1 + 1 + 1 + 1), .int .i64 (K + 1 + (cntL x.path : Int) + 1 + 1 + 1 + 1 + 1)] := by rw [mk_Ask, ov_Ask]; simp only [mkL_len]
    have hus : ovL nm vs 0 ((mkTo k l i).set i (mkv K x)) = E.set i (AV.agg [.int .i64 (K), .row (sub (sub nm i) 0) (vs (sub (sub nm i) 0)) x.path.length, .int .i64 (K + 1 + (cntL x.path : Int)), .int .i64 (K + 1 + (cntL x.path : Int) + 1), .str (markS (K + 1 + (cntL x.path : Int) + 1 + 1)), .bool (decide ((K + 1 + (cntL x.path : Int) + 1 + 1 + 1).tmod 3 = 0)), .int .i64 (K + 1 + (cntL x.path : Int) + 1 + 1 + 1 + 1), .int .i64 (K + 1 + (cntL x.path : Int) + 1 + 1 + 1 + 1 + 1)]) := by rw [ovL_set, hmk, ← hE]
    rw [← hE] at e hlen hr
    rw [← hK]
    have gs : ∀ a, (E.set i a).getD i .top = a := fun a => by rw [List.getD_eq_getElem?_getD, List.getElem?_set_self (by rw [hlen]; exact hlt)]; rfl
    have ls : ∀ a, (E.set i a).length = l.length := fun a => by rw [List.length_set, hlen]
    obtain ⟨H, hH⟩ : ∃ H, H = oh nm vs (mkTo k l i) := ⟨_, rfl⟩
    rw [← hH] at hr hel
    have hq : ∀ q, ¬ InT (sub nm i) q → q ≠ nm → hget H q = hget (oh nm vs (mkTo k l i)) q := fun q _ _ => by rw [hH]
    rw [show (AVal.n Ask) = 8 from rfl] at hr
    rw [← hH]
    clear hH
    have hl0 := hel
    have hk0 := hpLe_root hl0
    have hn0 : ¬ InT (sub (sub nm i) 0) nm := part_ne
    have hb0 : (nm == sub (sub nm i) 0) = false := part_beq
    simp +contextual -dsimp only [↓SD, SU, SB, Nat.reduceAdd, Nat.reduceBEq, Nat.reduceEqDiff, Nat.reduceLeDiff, Nat.reduceLT, Nat.reduceSub, ↓reduceIte, zA, zI, zN, reduceCtorEq, Int.reduceToNat, zE, Int.reduceEq, Int.reduceLT, Int.reduceLE, Int.reduceNeg, Int.reduceAdd, Int.reduceSub, hlt, hlen, e, gs, ls, List.set_set, ov_list, false_and, hr, hk0, hb0]
    repeat (refine And.intro (by omega) ?_)
    refine aCallH_gen (on (sub (sub nm i) 0) x.path) (markIntS_own (sub (sub nm i) 0) vs x.path _ (by omega) (by omega)) (hsel_on (by repeat (first | exact hl0 | refine hpLe_skip hn0 ?_))) ?_
    rintro r hp' ⟨rfl, rfl⟩ H0 hH0
    have hr0 := part_root hH0 hn0 hg_eq
    have hq0 := part_far (X := fun q => hget (oh nm vs (mkTo k l i)) q) hH0 (by repeat (first | exact hq | refine far_cons ?_))
    have hd0 := part_done hH0
    rw [cnt_list]
    simp +contextual -dsimp only [↓SD, SU, SB, Nat.reduceAdd, Nat.reduceBEq, Nat.reduceEqDiff, Nat.reduceLeDiff, Nat.reduceLT, Nat.reduceSub, ↓reduceIte, zA, zI, zN, reduceCtorEq, Int.reduceToNat, zE, Int.reduceEq, Int.reduceLT, Int.reduceLE, Int.reduceNeg, Int.reduceAdd, Int.reduceSub, hlt, hlen, e, gs, ls, List.set_set, ov_list, false_and, hr0, hb0]
    repeat (refine And.intro (by omega) ?_)
    refine aCallK_of _ (markText_at (K + 1 + (cntL x.path : Int) + 1 + 1) (by omega) (by omega)) ?_
    simp +contextual -dsimp only [↓SD, SU, SB, Nat.reduceAdd, Nat.reduceBEq, Nat.reduceEqDiff, Nat.reduceLeDiff, Nat.reduceLT, Nat.reduceSub, ↓reduceIte, zA, zI, zN, reduceCtorEq, Int.reduceToNat, zE, Int.reduceEq, Int.reduceLT, Int.reduceLE, Int.reduceNeg, Int.reduceAdd, Int.reduceSub, hlt, hlen, e, gs, ls, List.set_set, ov_list, false_and, hr0, hb0]
    repeat (refine And.intro (by omega) ?_)
    refine Goes.le ⟨i + 1, ⟨hlt, (by first | omega | (simp only; omega))⟩, rfl⟩ (by simp +contextual -dsimp only [↓SD, SU, SB, Nat.reduceAdd, Nat.reduceBEq, Nat.reduceEqDiff, Nat.reduceLeDiff, Nat.reduceLT, Nat.reduceSub, ↓reduceIte, zA, zI, zN, reduceCtorEq, Int.reduceToNat, zE, Int.natCast_add, hKn]) ?_
    rw [← hsf]
    refine oh_upd hLi ?_ ?_ ?_
    · repeat (first | exact hq0 | refine far_cons ?_)
    · rw [lbox, hus]; first | exact hg_eq | exact hr0
    · rw [oh_Ask]; exact (by repeat (first | exact hd0 | refine hpLe_skip hn0 ?_))
  · obtain rfl : i = l.length := by omega
    rw [mkTo_full, cntL_full]
    have hr := oh_root nm vs (mkL k l)
    have hs := OVal.self nm vs (mkL k l)
    obtain ⟨H, hH⟩ : ∃ H, H = oh nm vs (mkL k l) := ⟨_, rfl⟩
    rw [← hH]
    simp +contextual -dsimp only [↓SD, SU, SB, Nat.reduceAdd, Nat.reduceBEq, Nat.reduceEqDiff, Nat.reduceLeDiff, Nat.reduceLT, Nat.reduceSub, ↓reduceIte, zA, zI, zN, reduceCtorEq, Int.reduceToNat, zE, Int.reduceEq, Int.reduceLT, Int.reduceLE, Int.reduceNeg, Int.reduceAdd, Int.reduceSub, Nat.lt_irrefl, map_len]
    refine Goes.post H ?_
    simp +contextual -dsimp only [↓SD, SU, SB, Nat.reduceAdd, Nat.reduceBEq, Nat.reduceEqDiff, Nat.reduceLeDiff, Nat.reduceLT, Nat.reduceSub, ↓reduceIte, zA, zI, zN, reduceCtorEq, Int.reduceToNat, zE]
    exact ⟨by rw [hH]; exact hs, rfl, by rw [hH]; rfl⟩

set_option maxHeartbeats 1000000 in
theorem heldAskS_own (l : List Ask) (k : Int) (h0 : 1 ≤ k) (h1 : k + (Bulk.bulk l : Int) ≤ 4611686018427387904) : CallsF Try.prog 28 [.sl ((mkL k l).map av), .int .i64 k] (.int .i64 (k + (cntL l : Int))) := by
  refine fun_laws_heldAskS rfl (by simp; exact ⟨lav_clean _, pint _⟩) (pint _) ?_
  simp +contextual -dsimp only [↓SD, SU, SB, Nat.reduceAdd, Nat.reduceBEq, Nat.reduceEqDiff, Nat.reduceLeDiff, Nat.reduceLT, Nat.reduceSub, ↓reduceIte, zA, zI, zN, reduceCtorEq, Int.reduceToNat, zE, Int.reduceEq, Int.reduceLT, Int.reduceLE, Int.reduceNeg, Int.reduceAdd, Int.reduceSub, ir_laws_heldAskS, rs_laws_heldAskS, map_len, mkL_len]
  refine aLoop_of (X := Nat) (fun i => ⟨[(0, .sl ((mkL k l).map av)), (1, .int .i64 (k + (cntL (l.take i) : Int))), (5, .int .i64 i)], []⟩) (fun i => i ≤ l.length) (fun i => l.length - i) 0 (Nat.zero_le _) (by simp +contextual -dsimp only [↓SD, SU, SB, Nat.reduceAdd, Nat.reduceBEq, Nat.reduceEqDiff, Nat.reduceLeDiff, Nat.reduceLT, Nat.reduceSub, ↓reduceIte, zA, zI, zN, reduceCtorEq, Int.reduceToNat, zE, Int.reduceEq, Int.reduceLT, Int.reduceLE, Int.reduceNeg, Int.reduceAdd, Int.reduceSub, List.take_zero, cntL_nil, Int.natCast_zero, Int.add_zero]) trivial ?_
  rintro i hi
  by_cases hlt : i < l.length
  · have hroom := cntL_roomB hlt
    have htake := cntL_take hlt
    have e := getD_map av (mkL k l) i .top (by rw [mkL_len]; exact hlt)
    rw [mkL_get k l i hlt] at e
    rw [mk_Ask, av_Ask] at e
    obtain ⟨x, hx⟩ : ∃ x, x = l[i] := ⟨_, rfl⟩
    obtain ⟨K, hK⟩ : ∃ K, K = k + (cntL (l.take i) : Int) := ⟨_, rfl⟩
    rw [← hx] at hroom htake e
    rw [← hK] at e ⊢
    have hcount : cnt x = 7 + cntL x.path := rfl
    rw [hcount] at htake
    have hbx : Bulk.bulk x = Bulk.bulk x.arm + Bulk.bulk x.path + Bulk.bulk x.kind + Bulk.bulk x.n + Bulk.bulk x.s + Bulk.bulk x.has + Bulk.bulk x.yes + Bulk.bulk x.no + 1 := rfl
    have hbx_0 : Bulk.bulk x.arm = 1 := rfl
    have hbx_1 := cntL_bulk x.path
    have hbx_2 : Bulk.bulk x.kind = 1 := rfl
    have hbx_3 : Bulk.bulk x.n = 1 := rfl
    have hbx_4 : Bulk.bulk x.s = x.s.size + 1 := rfl
    have hbx_5 : Bulk.bulk x.has = 1 := rfl
    have hbx_6 : Bulk.bulk x.yes = 1 := rfl
    have hbx_7 : Bulk.bulk x.no = 1 := rfl
    have hbl := bulk_length l
    have hKn : k + (cntL (l.take (i + 1)) : Int) = K + 1 + (cntL x.path : Int) + 1 + 1 + 1 + 1 + 1 + 1 := by rw [htake]; omega
    have hKb : K + (Bulk.bulk x : Int) ≤ 4611686018427387904 := by omega
    have hK1 : 1 ≤ K := by omega
    have htm0 : 0 ≤ (K + 1 + (cntL x.path : Int) + 1 + 1 + 1).tmod 3 ∧ (K + 1 + (cntL x.path : Int) + 1 + 1 + 1).tmod 3 ≤ 2 := by rw [Int.tmod_eq_emod_of_nonneg (by omega)]; omega
    simp +contextual -dsimp only [↓SD, SU, SB, Nat.reduceAdd, Nat.reduceBEq, Nat.reduceEqDiff, Nat.reduceLeDiff, Nat.reduceLT, Nat.reduceSub, ↓reduceIte, zA, zI, zN, reduceCtorEq, Int.reduceToNat, zE, Int.reduceEq, Int.reduceLT, Int.reduceLE, Int.reduceNeg, Int.reduceAdd, Int.reduceSub, hlt, map_len, mkL_len, beq_self_eq_true, e]
    repeat (refine And.intro (by omega) ?_)
    refine aCallK_of _ (heldIntS_own x.path (K + 1) (by omega) (by omega)) ?_
    have g0 : ¬ K + 1 + (cntL x.path : Int) < 0 := by omega
    simp +contextual -dsimp only [↓SD, SU, SB, Nat.reduceAdd, Nat.reduceBEq, Nat.reduceEqDiff, Nat.reduceLeDiff, Nat.reduceLT, Nat.reduceSub, ↓reduceIte, zA, zI, zN, reduceCtorEq, Int.reduceToNat, zE, Int.reduceEq, Int.reduceLT, Int.reduceLE, Int.reduceNeg, Int.reduceAdd, Int.reduceSub, hlt, map_len, mkL_len, beq_self_eq_true, e, g0]
    repeat (refine And.intro (by omega) ?_)
    refine aCallK_of _ (markText_at (K + 1 + (cntL x.path : Int) + 1 + 1) (by omega) (by omega)) ?_
    simp +contextual -dsimp only [↓SD, SU, SB, Nat.reduceAdd, Nat.reduceBEq, Nat.reduceEqDiff, Nat.reduceLeDiff, Nat.reduceLT, Nat.reduceSub, ↓reduceIte, zA, zI, zN, reduceCtorEq, Int.reduceToNat, zE, Int.reduceEq, Int.reduceLT, Int.reduceLE, Int.reduceNeg, Int.reduceAdd, Int.reduceSub, hlt, map_len, mkL_len, beq_self_eq_true, e, g0]
    repeat (refine And.intro (by omega) ?_)
    exact Goes.le ⟨i + 1, ⟨hlt, (by first | omega | (simp only; omega))⟩, rfl⟩ (by simp +contextual -dsimp only [↓SD, SU, SB, Nat.reduceAdd, Nat.reduceBEq, Nat.reduceEqDiff, Nat.reduceLeDiff, Nat.reduceLT, Nat.reduceSub, ↓reduceIte, zA, zI, zN, reduceCtorEq, Int.reduceToNat, zE, Int.natCast_add, hKn]) trivial
  · obtain rfl : i = l.length := by omega
    rw [cntL_full]
    simp +contextual -dsimp only [↓SD, SU, SB, Nat.reduceAdd, Nat.reduceBEq, Nat.reduceEqDiff, Nat.reduceLeDiff, Nat.reduceLT, Nat.reduceSub, ↓reduceIte, zA, zI, zN, reduceCtorEq, Int.reduceToNat, zE, Int.reduceEq, Int.reduceLT, Int.reduceLE, Int.reduceNeg, Int.reduceAdd, Int.reduceSub, Nat.lt_irrefl, map_len, mkL_len]

instance : OVal Asks where
  ty := 26
  ov nm vs x := .agg [ov (sub nm 0) vs x.nodes]
  oh nm vs x := oh (sub nm 0) vs x.nodes
  on nm x := on (sub nm 0) x.nodes
  names nm vs x := OVal.names _ _ _
  inn nm x k h := (OVal.inn _ _ _ h).up
  self nm vs x := OVal.self _ _ _
  vdep nm vs vs' x h := by
    obtain ⟨a0, b0⟩ := OVal.vdep (sub nm 0) vs vs' x.nodes (fun k hk => h k hk.up)
    simp only [a0, b0, and_self]
  lend nm vs x hp h := by
    have h0 := OVal.lend (sub nm 0) vs x.nodes hp h
    show AV.agg [(ov (sub nm 0) vs x.nodes).pur (frzL (on (sub nm 0) x.nodes) hp)] = av x
    rw [h0]; rfl
  dep nm vs x hp hp' h := by
    have h0 := OVal.dep (sub nm 0) vs x.nodes hp hp' (fun k hk => h k hk.up)
    show AV.agg [(ov (sub nm 0) vs x.nodes).pur hp] = AV.agg [(ov (sub nm 0) vs x.nodes).pur hp']
    rw [h0]
  free nm vs x p h := by exact OVal.free _ _ _ p h
  cfree nm vs x y hx := by
    simp only [AV.cells, List.mem_cons, List.not_mem_nil, or_false] at hx
    subst hx <;> rfl
  ok _ _ _ := rfl
  agg _ _ _ := rfl
  len _ _ _ := rfl
theorem ov_Asks (nm : Nat) (vs : Nat → Nat) (x : Asks) : ov nm vs x = .agg [.row (sub nm 0) (vs (sub nm 0)) x.nodes.length] := eqq rfl
theorem oh_Asks (nm : Nat) (vs : Nat → Nat) (x : Asks) : oh nm vs x = oh (sub nm 0) vs x.nodes := rfl

instance : Mk Asks := ⟨fun k x => ⟨mkL (k) x.nodes⟩, fun x => cntL x.nodes⟩
theorem mk_Asks (k : Int) (x : Asks) : mkv k x = ⟨mkL (k) x.nodes⟩ := rfl
theorem cnt_Asks (x : Asks) : cnt x = cntL x.nodes := rfl
instance : MkB Asks := ⟨fun x => by
  have hbx : Bulk.bulk x = Bulk.bulk x.nodes + 1 := rfl
  have hbx_0 := cntL_bulk x.nodes
  rw [cnt_Asks]
  omega⟩


theorem markAsks_own (nm : Nat) (vs : Nat → Nat) (x : Asks) (k : Int) (h0 : 1 ≤ k) (h1 : k + (Bulk.bulk x : Int) ≤ 4611686018427387904) : CallsH Try.prog 11 [ov nm vs x, .int .i64 k] (oh nm vs x) (MarkPost nm vs k x) := by
  have hbx : Bulk.bulk x = Bulk.bulk x.nodes + 1 := rfl
  have hbx_0 := cntL_bulk x.nodes
  obtain ⟨H, hH⟩ : ∃ H, H = oh nm vs x := ⟨_, rfl⟩
  have hs : hpLe H (oh nm vs x) := by rw [hH]; exact OVal.self nm vs x
  rw [← hH]
  rw [oh_Asks] at hs
  refine funH_laws_markAsks rfl ?_
  have hl0 := hs
  have hk0 := hpLe_root hl0
  simp +contextual -dsimp only [↓SD, SU, SB, Nat.reduceAdd, Nat.reduceBEq, Nat.reduceEqDiff, Nat.reduceLeDiff, Nat.reduceLT, Nat.reduceSub, ↓reduceIte, zA, zI, zN, reduceCtorEq, Int.reduceToNat, zE, Int.reduceEq, Int.reduceLT, Int.reduceLE, Int.reduceNeg, Int.reduceAdd, Int.reduceSub, ir_laws_markAsks, rs_laws_markAsks, ov_Asks, false_and, hk0]
  refine aCallH_gen (on (sub nm 0) x.nodes) (markAskS_own (sub nm 0) vs x.nodes _ (by omega) (by omega)) (hsel_on hl0) ?_
  rintro r hp' ⟨rfl, rfl⟩ H0 hH0
  have hd0 := part_done hH0
  rw [cnt_list]
  simp +contextual -dsimp only [↓SD, SU, SB, Nat.reduceAdd, Nat.reduceBEq, Nat.reduceEqDiff, Nat.reduceLeDiff, Nat.reduceLT, Nat.reduceSub, ↓reduceIte, zA, zI, zN, reduceCtorEq, Int.reduceToNat, zE, Int.reduceEq, Int.reduceLT, Int.reduceLE, Int.reduceNeg, Int.reduceAdd, Int.reduceSub, ov_Asks, false_and]
  refine Goes.post (oh nm vs (mkv k x)) ?_
  simp +contextual -dsimp only [↓SD, SU, SB, Nat.reduceAdd, Nat.reduceBEq, Nat.reduceEqDiff, Nat.reduceLeDiff, Nat.reduceLT, Nat.reduceSub, ↓reduceIte, zA, zI, zN, reduceCtorEq, Int.reduceToNat, zE]
  refine ⟨by rw [oh_Asks]; exact hd0, ?_, rfl⟩
  rw [cnt_Asks]

theorem heldAsks_own (x : Asks) (k : Int) (h0 : 1 ≤ k) (h1 : k + (Bulk.bulk x : Int) ≤ 4611686018427387904) : CallsF Try.prog 12 [av (mkv k x), .int .i64 k] (.int .i64 (k + (cnt x : Int))) := by
  have hbx : Bulk.bulk x = Bulk.bulk x.nodes + 1 := rfl
  have hbx_0 := cntL_bulk x.nodes
  rw [cnt_Asks]
  refine fun_laws_heldAsks rfl (by simp; exact ⟨AVal.clean _, pint _⟩) (pint _) ?_
  simp +contextual -dsimp only [↓SD, SU, SB, Nat.reduceAdd, Nat.reduceBEq, Nat.reduceEqDiff, Nat.reduceLeDiff, Nat.reduceLT, Nat.reduceSub, ↓reduceIte, zA, zI, zN, reduceCtorEq, Int.reduceToNat, zE, Int.reduceEq, Int.reduceLT, Int.reduceLE, Int.reduceNeg, Int.reduceAdd, Int.reduceSub, ir_laws_heldAsks, rs_laws_heldAsks, mk_Asks, av_Asks]
  refine aCallK_of _ (heldAskS_own x.nodes (k) (by omega) (by omega)) ?_
  have g0 : ¬ k + (cntL x.nodes : Int) < 0 := by omega
  simp +contextual -dsimp only [↓SD, SU, SB, Nat.reduceAdd, Nat.reduceBEq, Nat.reduceEqDiff, Nat.reduceLeDiff, Nat.reduceLT, Nat.reduceSub, ↓reduceIte, zA, zI, zN, reduceCtorEq, Int.reduceToNat, zE, Int.reduceEq, Int.reduceLT, Int.reduceLE, Int.reduceNeg, Int.reduceAdd, Int.reduceSub, mk_Asks, av_Asks, g0]

end Go.Proofs.Ytohalepkikjinaa
