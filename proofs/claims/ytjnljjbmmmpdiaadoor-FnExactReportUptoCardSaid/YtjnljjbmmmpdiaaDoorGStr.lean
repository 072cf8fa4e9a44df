/-
 List ByteArray BY ABSTRACT TEXTS: as abstract values, copies, comparisons, sizes. Conditions: none. Printed by genav.py.
-/
import Derived.Test.YtjnljjbmmmpdiaaDoorAvRep
import Derived.Test.YtjnljjbmmmpdiaaDoorDStr
import Derived.Test.YtjnljjbmmmpdiaaDoorIrGStr
set_option linter.unusedVariables false
set_option linter.unusedSimpArgs false
set_option maxRecDepth 100000
namespace Go.Proofs.YtjnljjbmmmpdiaaDoor
open Go.RowKit Go.Proofs.YtjnljjbmmmpdiaaDoor.Av Go.Proofs.YtjnljjbmmmpdiaaDoor.Ml
open Go.Proofs.YtjnljjbmmmpdiaaDoor.Av.AVal (av)

theorem szStringS_ok (l : List ByteArray) (n : Int) (hx : Bulk.bulk l ≤ 1048576) (h1 : -1 ≤ n) (h2 : n ≤ 1048576) : SzOk 9 [.sl (l.map av), .int .i64 n] := by
 have hl := bulk_length l
 refine funH_laws_szStringS rfl ?_
 simp +contextual -dsimp only [↓SD, SU, SB, simprocAttr, ir_laws_szStringS, rs_laws_szStringS, map_len]
 refine ⟨by omega, fun h => ?_, fun h => ?_⟩
 ·refine Goes.post [] ?_; simp +contextual -dsimp only [↓SD, SU, SB, simprocAttr, rs_laws_szStringS]; exact ⟨_, rfl, rfl, by omega, by omega⟩
 refine aLoop_of (X := Nat × Int) (fun x => ⟨[(0, .sl (l.map av)), (1, .int .i64 x.2), (5, .int .i64 x.1)], []⟩) (fun x => x.1 ≤ l.length ∧ 0 ≤ x.2 ∧ x.2 ≤ 1048576) (fun x => l.length - x.1) (0, n - l.length) ⟨Nat.zero_le _, by simp only; omega, by simp only; omega⟩ (by simp +contextual -dsimp only [↓SD, SU, SB, simprocAttr]) trivial ?_
 rintro ⟨k, m⟩ ⟨hk, hm0, hm1⟩
 simp only at hk hm0 hm1
 by_cases hlt : k < l.length
 ·have e := getD_map av l k .top hlt
  have hbk : Bulk.bulk l[k] ≤ 1048576 := by have := bulk_mem (List.getElem_mem hlt); omega
  have es : Bulk.bulk l[k] = l[k].size + 1 := rfl
  simp +contextual -dsimp only [↓SD, SU, SB, simprocAttr, map_len, hlt, e, av_str]
  (repeat' (first | intro _ | refine And.intro ?_ ?_))
  all_goals first | omega | (refine Goes.post [] ?_; simp +contextual -dsimp only [↓SD, SU, SB, simprocAttr, rs_laws_szStringS]; exact ⟨_, rfl, rfl, by omega, by omega⟩) | exact Goes.le ⟨(k + 1, m - (l[k].size : Int)), ⟨⟨hlt, by simp only; omega, by simp only; omega⟩, (by first | omega | (simp only; omega))⟩, rfl⟩ (by simp +contextual -dsimp only [↓SD, SU, SB, simprocAttr, Int.natCast_add]) trivial
 ·obtain rfl : k = l.length := by omega
  simp +contextual -dsimp only [↓SD, SU, SB, simprocAttr, map_len, Nat.lt_irrefl]
  refine Goes.post [] ?_
  simp +contextual -dsimp only [↓SD, SU, SB, simprocAttr, rs_laws_szStringS]
  exact ⟨_, rfl, rfl, by omega, by omega⟩

theorem toStringS_ok (l : List ByteArray) (hx : Bulk.bulk l ≤ 1048576) : CallsF Tryd.prog 12 [.sl (l.map av)] (.sl (l.map av)) := by
 have hl := bulk_length l
 refine fun_laws_toStringS rfl (by simp; exact lav_clean l) (lav_clean l) ?_
 simp +contextual -dsimp only [↓SD, SU, SB, simprocAttr, ir_laws_toStringS, rs_laws_toStringS, map_len]
 refine ⟨by omega, fun v => ?_⟩
 refine aLoop_of (X := Nat) (fun k => ⟨[(0, .sl (l.map av)), (3, .row 7 v l.length), (4, .int .i64 k)], [(7, ⟨v, false, 9, 1, fillL l (AV.str (bs [])) k⟩)]⟩) (fun k => k ≤ l.length) (fun k => l.length - k) 0 (Nat.zero_le _) (by simp +contextual -dsimp only [↓SD, SU, SB, simprocAttr]) (by simp +contextual -dsimp only [↓SD, SU, SB, simprocAttr, fillL_zero]) ?_
 intro k hk
 by_cases hlt : k < l.length
 ·have e := getD_map av l k .top hlt
  have e1 := fillL_len (AV.str (bs [])) hk
  have e2 := fillL_get (AV.str (bs [])) hlt .top
  have e3 := fillL_set (z := (AV.str (bs []))) hlt rfl
  have hbk : Bulk.bulk l[k] ≤ 1048576 := by have := bulk_mem (List.getElem_mem hlt); omega
  rw [av_str] at e3
  simp +contextual -dsimp only [↓SD, SU, SB, simprocAttr, map_len, hlt, e, av_str, e1, e2, e3]
  refine ⟨by omega, aRound (k + 1) hlt (by first | omega | (simp only; omega)) (by simp +contextual -dsimp only [↓SD, SU, SB, simprocAttr, Int.natCast_add]) (by simp +contextual -dsimp only [↓SD, SU, SB, simprocAttr])⟩
 ·obtain rfl : k = l.length := by omega
  have e1 := fillL_len (AV.str (bs [])) hk
  simp +contextual -dsimp only [↓SD, SU, SB, simprocAttr, map_len, Nat.lt_irrefl, fillL_full, map_nop, List.take_length]
  try simp [List.take_of_length_le]

theorem eqStringS_ok (l : List ByteArray) (hx : Bulk.bulk l ≤ 1048576) : CallsF Tryd.prog 18 [.sl (l.map av), .sl (l.map av)] (.bool true) := by
 have hl := bulk_length l
 refine fun_laws_eqStringS rfl (by simp; exact lav_clean l) (AvPure.bool _) ?_
 simp +contextual -dsimp only [↓SD, SU, SB, simprocAttr, ir_laws_eqStringS, rs_laws_eqStringS, map_len]
 refine aLoop_of (X := Nat) (fun k => ⟨[(0, .sl (l.map av)), (1, .sl (l.map av)), (5, .int .i64 k)], []⟩) (fun k => k ≤ l.length) (fun k => l.length - k) 0 (Nat.zero_le _) (by simp +contextual -dsimp only [↓SD, SU, SB, simprocAttr]) trivial ?_
 intro k hk
 by_cases hlt : k < l.length
 ·have e := getD_map av l k .top hlt
  have hbk : Bulk.bulk l[k] ≤ 1048576 := by have := bulk_mem (List.getElem_mem hlt); omega
  simp +contextual -dsimp only [↓SD, SU, SB, simprocAttr, map_len, hlt, e, av_str]
  exact ⟨by omega, aRound (k + 1) hlt (by first | omega | (simp only; omega)) (by simp +contextual -dsimp only [↓SD, SU, SB, simprocAttr, Int.natCast_add]) trivial⟩
 ·obtain rfl : k = l.length := by omega
  simp +contextual -dsimp only [↓SD, SU, SB, simprocAttr, map_len, Nat.lt_irrefl]

end Go.Proofs.YtjnljjbmmmpdiaaDoor
