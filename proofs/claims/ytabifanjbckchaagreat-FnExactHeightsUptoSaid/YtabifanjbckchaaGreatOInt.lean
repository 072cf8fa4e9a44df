/-
  int IN ROWS OF THEIR OWN: copies, marks, by abstract texts. Conditions: none. Printed by genown.py.
-/
import Derived.Test.YtabifanjbckchaaGreatPackO
import Derived.Test.YtabifanjbckchaaGreatPackG
import Derived.Test.YtabifanjbckchaaGreatIrOInt
set_option linter.unusedVariables false
set_option linter.unusedSimpArgs false
set_option maxRecDepth 100000
namespace Go.Proofs.YtabifanjbckchaaGreat
open Go.RowKit Go.Proofs.YtabifanjbckchaaGreat.Av Go.Proofs.YtabifanjbckchaaGreat.Ml
open Go.Proofs.YtabifanjbckchaaGreat.Av.AVal (av)
open OVal (ov oh on)
open Mk (mkv cnt)

theorem toIntS_own (nm : Nat) (l : List Int) (hx : Bulk.bulk l ≤ 1048576) : CallsH Tryz.prog 100 [.sl (l.map av)] [] (ToPost nm l) := by
  have hl := bulk_length l
  refine funH_laws_toIntS_H rfl ?_
  simp +contextual -dsimp only [↓SD, SU, SB, Nat.reduceAdd, Nat.reduceBEq, Nat.reduceEqDiff, Nat.reduceLeDiff, Nat.reduceLT, Nat.reduceSub, ↓reduceIte, zA, zI, zN, reduceCtorEq, Int.reduceToNat, zE, ir_laws_toIntS_H, rs_laws_toIntS_H, map_len]
  refine ⟨by omega, fun v => ?_⟩
  refine aLoop_of (X := Nat × (Nat → Nat)) (fun x => ⟨[(0, .sl (l.map av)), (3, .row 7 v l.length), (4, .int .i64 x.1)], (7, ⟨v, false, 3, 1, fillL l (AV.int .i64 0) x.1⟩) :: []⟩) (fun x => x.1 ≤ l.length) (fun x => l.length - x.1) (0, fun _ => 0) (Nat.zero_le _) (by simp +contextual -dsimp only [↓SD, SU, SB, Nat.reduceAdd, Nat.reduceBEq, Nat.reduceEqDiff, Nat.reduceLeDiff, Nat.reduceLT, Nat.reduceSub, ↓reduceIte, zA, zI, zN, reduceCtorEq, Int.reduceToNat, zE]) (by simp +contextual -dsimp only [↓SD, SU, SB, Nat.reduceAdd, Nat.reduceBEq, Nat.reduceEqDiff, Nat.reduceLeDiff, Nat.reduceLT, Nat.reduceSub, ↓reduceIte, zA, zI, zN, reduceCtorEq, Int.reduceToNat, zE, fillL_zero]) ?_
  rintro ⟨k, vs⟩ hk
  dsimp only at hk ⊢
  by_cases hlt : k < l.length
  · have e := getD_map av l k .top hlt
    have hbk : Bulk.bulk l[k] ≤ 1048576 := by have := bulk_mem (List.getElem_mem hlt); omega
    have e1 := fillL_len (AV.int .i64 0) hk
    have e2 := fillL_get (AV.int .i64 0) hlt .top
    have e3 := fillL_set (z := (AV.int .i64 0)) hlt rfl
    rw [av_int] at e3
    simp +contextual -dsimp only [↓SD, SU, SB, Nat.reduceAdd, Nat.reduceBEq, Nat.reduceEqDiff, Nat.reduceLeDiff, Nat.reduceLT, Nat.reduceSub, ↓reduceIte, zA, zI, zN, reduceCtorEq, Int.reduceToNat, zE, map_len, hlt, e, av_int, e1, e2, e3]
    refine ⟨by omega, Goes.le ⟨(k + 1, vs), ⟨hlt, (by first | omega | (simp only; omega))⟩, rfl⟩ (by simp +contextual -dsimp only [↓SD, SU, SB, Nat.reduceAdd, Nat.reduceBEq, Nat.reduceEqDiff, Nat.reduceLeDiff, Nat.reduceLT, Nat.reduceSub, ↓reduceIte, zA, zI, zN, reduceCtorEq, Int.reduceToNat, zE, Int.natCast_add]) (by simp +contextual -dsimp only [↓SD, SU, SB, Nat.reduceAdd, Nat.reduceBEq, Nat.reduceEqDiff, Nat.reduceLeDiff, Nat.reduceLT, Nat.reduceSub, ↓reduceIte, zA, zI, zN, reduceCtorEq, Int.reduceToNat, zE, e2, e3])⟩
  · obtain rfl : k = l.length := by omega
    simp +contextual -dsimp only [↓SD, SU, SB, Nat.reduceAdd, Nat.reduceBEq, Nat.reduceEqDiff, Nat.reduceLeDiff, Nat.reduceLT, Nat.reduceSub, ↓reduceIte, zA, zI, zN, reduceCtorEq, Int.reduceToNat, zE, map_len, Nat.lt_irrefl, fillL_full]
    refine Goes.ren 2 7 nm (v := v) (n := l.length) rfl hg_eq rfl fun v' => ?_
    refine Goes.post (oh nm (fun _ => v') l) ?_
    rw [oh_flat (fun _ _ _ => rfl) (fun _ _ _ => rfl)]
    simp +contextual -dsimp only [↓SD, SU, SB, Nat.reduceAdd, Nat.reduceBEq, Nat.reduceEqDiff, Nat.reduceLeDiff, Nat.reduceLT, Nat.reduceSub, ↓reduceIte, zA, zI, zN, reduceCtorEq, Int.reduceToNat, zE, hg_eq, hpLe_cons, hpLe_nil]
    exact ⟨rfl, _, rfl, (oh_flat (fun _ _ _ => rfl) (fun _ _ _ => rfl) nm (fun _ => v') l).symm⟩

set_option maxHeartbeats 1000000 in
theorem markIntS_own (nm : Nat) (vs : Nat → Nat) (l : List Int) (k : Int) (h0 : 1 ≤ k) (h1 : k + (Bulk.bulk l : Int) ≤ 4611686018427387904) : CallsH Tryz.prog 12 [ov nm vs l, .int .i64 k] (oh nm vs l) (MarkPost nm vs k l) := by
  refine funH_laws_markIntS rfl ?_
  simp +contextual -dsimp only [↓SD, SU, SB, Nat.reduceAdd, Nat.reduceBEq, Nat.reduceEqDiff, Nat.reduceLeDiff, Nat.reduceLT, Nat.reduceSub, ↓reduceIte, zA, zI, zN, reduceCtorEq, Int.reduceToNat, zE, Int.reduceEq, Int.reduceLT, Int.reduceLE, Int.reduceNeg, Int.reduceAdd, Int.reduceSub, ir_laws_markIntS, rs_laws_markIntS, ov_list]
  refine aLoop_of (X := Nat) (fun i => ⟨[(0, .row nm (vs nm) l.length), (1, .int .i64 (k + (cntL (l.take i) : Int))), (5, .int .i64 i)], oh nm vs (mkTo k l i)⟩) (fun i => i ≤ l.length) (fun i => l.length - i) 0 (Nat.zero_le _) (by simp +contextual -dsimp only [↓SD, SU, SB, Nat.reduceAdd, Nat.reduceBEq, Nat.reduceEqDiff, Nat.reduceLeDiff, Nat.reduceLT, Nat.reduceSub, ↓reduceIte, zA, zI, zN, reduceCtorEq, Int.reduceToNat, zE, Int.reduceEq, Int.reduceLT, Int.reduceLE, Int.reduceNeg, Int.reduceAdd, Int.reduceSub, List.take_zero, cntL_nil, Int.natCast_zero, Int.add_zero]) (by rw [mkTo_zero]; exact OVal.self _ _ _) ?_
  rintro i hi
  by_cases hlt : i < l.length
  · have hLi : i < (mkTo k l i).length := by rw [mkTo_len hi]; exact hlt
    have hLl : (mkTo k l i).length = l.length := mkTo_len hi
    have hgi := mkTo_get hlt hLi
    have hsf := mkTo_set (k := k) hlt
    have hroom := cntL_roomB hlt
    have htake := cntL_take hlt
    have hle := cntL_le l (i + 1)
    have e := ovL_get nm vs (mkTo k l i) hLi .top
    rw [hgi] at e
    have hr := oh_root nm vs (mkTo k l i)
    rw [show ∀ x : Int, ov (sub nm i) vs x = av x from fun _ => rfl, av_int] at e
    have hlen : (ovL nm vs 0 (mkTo k l i)).length = l.length := by rw [ovL_len, hLl]
    obtain ⟨x, hx⟩ : ∃ x, x = l[i] := ⟨_, rfl⟩
    obtain ⟨K, hK⟩ : ∃ K, K = k + (cntL (l.take i) : Int) := ⟨_, rfl⟩
    try rw [← hx] at e
    try rw [← hx] at hroom
    try rw [← hx] at htake
    rw [← hx] at hsf
    rw [← hK] at hsf
    rw [lbox] at hr
    obtain ⟨E, hE⟩ : ∃ E, E = ovL nm vs 0 (mkTo k l i) := ⟨_, rfl⟩
    have hcount : cnt x = 1 := rfl
    rw [hcount] at htake
    have hbx : Bulk.bulk x = 1 := rfl
    have hbl := bulk_length l
    have hKn : k + (cntL (l.take (i + 1)) : Int) = K + 1 := by rw [htake]; omega
    have hKb : K + (Bulk.bulk x : Int) ≤ 4611686018427387904 := by omega
    have hK1 : 1 ≤ K := by omega
    have hmk : ov (sub nm i) vs (mkv K x) = AV.int .i64 K := by rfl
    have hus : ovL nm vs 0 ((mkTo k l i).set i (mkv K x)) = E.set i (AV.int .i64 K) := by rw [ovL_set, hmk, ← hE]
    rw [← hE] at e hlen hr
    rw [← hK]
    have gs : ∀ a, (E.set i a).getD i .top = a := fun a => by rw [List.getD_eq_getElem?_getD, List.getElem?_set_self (by rw [hlen]; exact hlt)]; rfl
    have ls : ∀ a, (E.set i a).length = l.length := fun a => by rw [List.length_set, hlen]
    obtain ⟨H, hH⟩ : ∃ H, H = oh nm vs (mkTo k l i) := ⟨_, rfl⟩
    rw [← hH] at hr
    have hq : ∀ q, ¬ InT (sub nm i) q → q ≠ nm → hget H q = hget (oh nm vs (mkTo k l i)) q := fun q _ _ => by rw [hH]
    rw [show (AVal.n Int) = 1 from rfl] at hr
    rw [← hH]
    clear hH
    simp +contextual -dsimp only [↓SD, SU, SB, Nat.reduceAdd, Nat.reduceBEq, Nat.reduceEqDiff, Nat.reduceLeDiff, Nat.reduceLT, Nat.reduceSub, ↓reduceIte, zA, zI, zN, reduceCtorEq, Int.reduceToNat, zE, Int.reduceEq, Int.reduceLT, Int.reduceLE, Int.reduceNeg, Int.reduceAdd, Int.reduceSub, hlt, hlen, e, gs, ls, List.set_set, ov_list, hr]
    repeat (refine And.intro (by omega) ?_)
    refine Goes.le ⟨i + 1, ⟨hlt, (by first | omega | (simp only; omega))⟩, rfl⟩ (by simp +contextual -dsimp only [↓SD, SU, SB, Nat.reduceAdd, Nat.reduceBEq, Nat.reduceEqDiff, Nat.reduceLeDiff, Nat.reduceLT, Nat.reduceSub, ↓reduceIte, zA, zI, zN, reduceCtorEq, Int.reduceToNat, zE, Int.natCast_add, hKn]) ?_
    rw [← hsf]
    refine oh_upd hLi ?_ ?_ ?_
    · repeat (first | exact hq | refine far_cons ?_)
    · rw [lbox, hus]; first | exact hg_eq | exact hr
    · exact trivial
  · obtain rfl : i = l.length := by omega
    rw [mkTo_full, cntL_full]
    have hr := oh_root nm vs (mkL k l)
    have hs := OVal.self nm vs (mkL k l)
    obtain ⟨H, hH⟩ : ∃ H, H = oh nm vs (mkL k l) := ⟨_, rfl⟩
    rw [← hH]
    simp +contextual -dsimp only [↓SD, SU, SB, Nat.reduceAdd, Nat.reduceBEq, Nat.reduceEqDiff, Nat.reduceLeDiff, Nat.reduceLT, Nat.reduceSub, ↓reduceIte, zA, zI, zN, reduceCtorEq, Int.reduceToNat, zE, Int.reduceEq, Int.reduceLT, Int.reduceLE, Int.reduceNeg, Int.reduceAdd, Int.reduceSub, Nat.lt_irrefl, map_len]
    refine Goes.post H ?_
    simp +contextual -dsimp only [↓SD, SU, SB, Nat.reduceAdd, Nat.reduceBEq, Nat.reduceEqDiff, Nat.reduceLeDiff, Nat.reduceLT, Nat.reduceSub, ↓reduceIte, zA, zI, zN, reduceCtorEq, Int.reduceToNat, zE]
    exact ⟨by rw [hH]; exact hs, rfl, by rw [hH]; rfl⟩

set_option maxHeartbeats 1000000 in
theorem heldIntS_own (l : List Int) (k : Int) (h0 : 1 ≤ k) (h1 : k + (Bulk.bulk l : Int) ≤ 4611686018427387904) : CallsF Tryz.prog 13 [.sl ((mkL k l).map av), .int .i64 k] (.int .i64 (k + (cntL l : Int))) := by
  refine fun_laws_heldIntS rfl (by simp; exact ⟨lav_clean _, pint _⟩) (pint _) ?_
  simp +contextual -dsimp only [↓SD, SU, SB, Nat.reduceAdd, Nat.reduceBEq, Nat.reduceEqDiff, Nat.reduceLeDiff, Nat.reduceLT, Nat.reduceSub, ↓reduceIte, zA, zI, zN, reduceCtorEq, Int.reduceToNat, zE, Int.reduceEq, Int.reduceLT, Int.reduceLE, Int.reduceNeg, Int.reduceAdd, Int.reduceSub, ir_laws_heldIntS, rs_laws_heldIntS, map_len, mkL_len]
  refine aLoop_of (X := Nat) (fun i => ⟨[(0, .sl ((mkL k l).map av)), (1, .int .i64 (k + (cntL (l.take i) : Int))), (5, .int .i64 i)], []⟩) (fun i => i ≤ l.length) (fun i => l.length - i) 0 (Nat.zero_le _) (by simp +contextual -dsimp only [↓SD, SU, SB, Nat.reduceAdd, Nat.reduceBEq, Nat.reduceEqDiff, Nat.reduceLeDiff, Nat.reduceLT, Nat.reduceSub, ↓reduceIte, zA, zI, zN, reduceCtorEq, Int.reduceToNat, zE, Int.reduceEq, Int.reduceLT, Int.reduceLE, Int.reduceNeg, Int.reduceAdd, Int.reduceSub, List.take_zero, cntL_nil, Int.natCast_zero, Int.add_zero]) trivial ?_
  rintro i hi
  by_cases hlt : i < l.length
  · have hroom := cntL_roomB hlt
    have htake := cntL_take hlt
    have e := getD_map av (mkL k l) i .top (by rw [mkL_len]; exact hlt)
    rw [mkL_get k l i hlt] at e
    rw [show (mkv (k + (cntL (l.take i) : Int)) l[i] : Int) = k + (cntL (l.take i) : Int) from rfl, av_int] at e
    obtain ⟨x, hx⟩ : ∃ x, x = l[i] := ⟨_, rfl⟩
    obtain ⟨K, hK⟩ : ∃ K, K = k + (cntL (l.take i) : Int) := ⟨_, rfl⟩
    rw [← hx] at hroom htake
    rw [← hK] at e ⊢
    have hcount : cnt x = 1 := rfl
    rw [hcount] at htake
    have hbx : Bulk.bulk x = 1 := rfl
    have hbl := bulk_length l
    have hKn : k + (cntL (l.take (i + 1)) : Int) = K + 1 := by rw [htake]; omega
    have hKb : K + (Bulk.bulk x : Int) ≤ 4611686018427387904 := by omega
    have hK1 : 1 ≤ K := by omega
    simp +contextual -dsimp only [↓SD, SU, SB, Nat.reduceAdd, Nat.reduceBEq, Nat.reduceEqDiff, Nat.reduceLeDiff, Nat.reduceLT, Nat.reduceSub, ↓reduceIte, zA, zI, zN, reduceCtorEq, Int.reduceToNat, zE, Int.reduceEq, Int.reduceLT, Int.reduceLE, Int.reduceNeg, Int.reduceAdd, Int.reduceSub, hlt, map_len, mkL_len, e]
    repeat (refine And.intro (by omega) ?_)
    exact Goes.le ⟨i + 1, ⟨hlt, (by first | omega | (simp only; omega))⟩, rfl⟩ (by simp +contextual -dsimp only [↓SD, SU, SB, Nat.reduceAdd, Nat.reduceBEq, Nat.reduceEqDiff, Nat.reduceLeDiff, Nat.reduceLT, Nat.reduceSub, ↓reduceIte, zA, zI, zN, reduceCtorEq, Int.reduceToNat, zE, Int.natCast_add, hKn]) trivial
  · obtain rfl : i = l.length := by omega
    rw [cntL_full]
    simp +contextual -dsimp only [↓SD, SU, SB, Nat.reduceAdd, Nat.reduceBEq, Nat.reduceEqDiff, Nat.reduceLeDiff, Nat.reduceLT, Nat.reduceSub, ↓reduceIte, zA, zI, zN, reduceCtorEq, Int.reduceToNat, zE, Int.reduceEq, Int.reduceLT, Int.reduceLE, Int.reduceNeg, Int.reduceAdd, Int.reduceSub, Nat.lt_irrefl, map_len, mkL_len]

end Go.Proofs.YtabifanjbckchaaGreat
