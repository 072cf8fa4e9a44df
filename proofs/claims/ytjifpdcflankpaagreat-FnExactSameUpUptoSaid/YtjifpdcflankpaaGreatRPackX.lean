/-
 THE GROUND OF DATA, in one text. Conditions: none.
-/
import Derived.Test.YtjifpdcflankpaaGreatRPackN
import Derived.Test.YtjifpdcflankpaaGreatRPackC
import Derived.Test.YtjifpdcflankpaaGreatRIrC
import Derived.Test.YtjifpdcflankpaaGreatRPackW
import Derived.Test.YtjifpdcflankpaaGreatRPackR
import Derived.Test.YtjifpdcflankpaaGreatRPackP
import Derived.Test.YtjifpdcflankpaaGreatRPackT

set_option linter.unusedVariables false
set_option linter.unusedSimpArgs false
set_option maxRecDepth 100000

namespace Go.Proofs.YtjifpdcflankpaaGreat
open Go.RowKit Go.Proofs.YtjifpdcflankpaaGreat.Av Go.Proofs.YtjifpdcflankpaaGreat.Ml
open Go.Proofs.YtjifpdcflankpaaGreat.Av.AVal (av)

def k0 (k : Int) : Bool := decide (0 ≤ k)
end Go.Proofs.YtjifpdcflankpaaGreat

namespace Go.Proofs.YtjifpdcflankpaaGreat
open Go.RowKit Go.Proofs.YtjifpdcflankpaaGreat.Av Go.Proofs.YtjifpdcflankpaaGreat.Ml
open Go.Proofs.YtjifpdcflankpaaGreat.Av.AVal (av)

set_option maxHeartbeats 4000000 in
theorem l15SamePat_ok (l m : List PNode) (hl : Bulk.bulk l ≤ 4294967296) (hm : Bulk.bulk m ≤ 4294967296) : CallsF Tryz.prog 89 [.agg [.sl (l.map av)], .agg [.sl (m.map av)]] (.bool (decide (l = m))) := by
 refine ir_spec_l15SamePat.F rfl (by simp; exact ⟨AvPure.agg (by simp; exact lav_clean l), AvPure.agg (by simp; exact lav_clean m)⟩) (AvPure.bool _) ?_
 have hll := bulk_length l
 have hml := bulk_length m
 by_cases hln : l.length = m.length
 ·have hln2 : (l.length : Int) = m.length := by omega
  simp +contextual -dsimp (maxSteps := 2000000) only [↓SD, SU, SB, simprocAttr, ir_spec_l15SamePat, map_len, hln]
  refine aLoop_of (X := Nat) (fun j => ⟨[(2, .obj [.sl (l.map av)]), (3, .obj [.sl (m.map av)]), (18, .int .i64 m.length), (19, .int .i64 j)], []⟩) (fun j => j ≤ l.length ∧ l.take j = m.take j) (fun j => l.length - j) 0 ⟨Nat.zero_le _, rfl⟩ (by simp +contextual -dsimp only [↓SD, SU, SB, simprocAttr]) trivial ?_
  rintro j ⟨hj, hq⟩
  by_cases hlt : j < l.length
  ·have hlt2 : j < m.length := by omega
   have e1 := getD_map av l j .top hlt
   have e2 := getD_map av m j .top hlt2
   have hst : l[j] = m[j] → l.take (j + 1) = m.take (j + 1) := fun e => by rw [List.take_succ_eq_append_getElem hlt, List.take_succ_eq_append_getElem hlt2, hq, e]
   have hno : ¬ (l[j] = m[j]) → decide (l = m) = false := fun e => decide_eq_false fun h => e (by simp only [h])
   have hb1 := (pnode_small hl j hlt).1
   have hb2 := (pnode_small hm j hlt2).1
   generalize l[j] = x at *
   generalize m[j] = y at *
   obtain ⟨a, b, d, ks⟩ := x
   obtain ⟨a', b', d', ks'⟩ := y
   simp only [PNode.mk.injEq] at hst hno hb1 hb2
   rw [av_PNode] at e1 e2
   simp only at e1 e2
   by_cases ha : a = a'
   ·subst ha
    by_cases hb : b = b'
    ·subst hb
     by_cases hd : d = d'
     ·subst hd
      by_cases hlks : ks.length = ks'.length
      ·have hlks2 : (ks.length : Int) = ks'.length := by omega
       simp +contextual -dsimp (maxSteps := 2000000) only [↓SD, SU, SB, simprocAttr, map_len, hlt, hlt2, e1, e2, hlks]
       intro v6 v7
       rw [← hlks]
       refine aLoop_of (X := Nat) (fun k => ⟨[(2, .obj [.sl (l.map av)]), (3, .obj [.sl (m.map av)]), (6, .ptr 6 v6 0 0), (7, .ptr 7 v7 0 0), (18, .int .i64 m.length), (19, .int .i64 j), (62, .int .i64 ks.length), (63, .int .i64 k)], [(6, ⟨v6, false, 94, 4, [.agg [.int .i64 a, .int .i64 b, .str d, .sl (ks.map av)]]⟩), (7, ⟨v7, false, 94, 4, [.agg [.int .i64 a, .int .i64 b, .str d, .sl (ks'.map av)]]⟩)]⟩) (fun k => k ≤ ks.length ∧ ks.take k = ks'.take k) (fun k => ks.length - k) 0 ⟨Nat.zero_le _, rfl⟩ (by simp +contextual -dsimp only [↓SD, SU, SB, simprocAttr]) (by simp +contextual -dsimp only [↓SD, SU, SB, simprocAttr]) ?_
       rintro k ⟨hk, hqk⟩
       by_cases hlk : k < ks.length
       ·have e3 := getD_map av ks k .top hlk
        have hlk2 : k < ks'.length := by omega
        have e4 := getD_map av ks' k .top hlk2
        have hst : ks[k] = ks'[k] → ks.take (k + 1) = ks'.take (k + 1) := fun e => by rw [List.take_succ_eq_append_getElem hlk, List.take_succ_eq_append_getElem hlk2, hqk, e]
        have hnk : ks[k] ≠ ks'[k] → ks ≠ ks' := fun e h => e (by simp only [h])
        generalize ks[k] = p at *
        generalize ks'[k] = q at *
        by_cases hpq : p = q
        ·subst hpq
         simp +contextual -dsimp (maxSteps := 2000000) only [↓SD, SU, SB, simprocAttr, map_len, hlk, hlk2, e3, e4, av_int]
         exact ⟨by omega, Goes.le ⟨k + 1, ⟨⟨hlk, hst rfl⟩, (by first | omega | (simp only; omega))⟩, rfl⟩ (by simp +contextual -dsimp only [↓SD, SU, SB, simprocAttr, Int.natCast_add]) (by simp +contextual -dsimp only [↓SD, SU, SB, simprocAttr])⟩
        ·have hs := hno (fun h => hnk hpq h.2.2.2)
         simp +contextual -dsimp (maxSteps := 2000000) only [↓SD, SU, SB, simprocAttr, map_len, hlk, hlk2, e3, e4, av_int, hpq, hs]
       ·obtain rfl : k = ks.length := by omega
        rw [List.take_length, hlks, List.take_length] at hqk
        subst hqk
        simp +contextual -dsimp (maxSteps := 2000000) only [↓SD, SU, SB, simprocAttr, map_len, Nat.lt_irrefl]
        exact ⟨by omega, Goes.le ⟨j + 1, ⟨⟨hlt, hst ⟨rfl, rfl, rfl, rfl⟩⟩, (by first | omega | (simp only; omega))⟩, rfl⟩ (by simp +contextual -dsimp only [↓SD, SU, SB, simprocAttr, Int.natCast_add]) trivial⟩
      ·have hs := hno (fun h => hlks (by rw [h.2.2.2]))
       have hlks2 : ¬ (ks.length : Int) = ks'.length := by omega
       simp +contextual -dsimp (maxSteps := 2000000) only [↓SD, SU, SB, simprocAttr, map_len, hlt, hlt2, e1, e2, hlks, hlks2, hs]
     ·have hs := hno (fun h => hd h.2.2.1)
      simp +contextual -dsimp (maxSteps := 2000000) only [↓SD, SU, SB, simprocAttr, map_len, hlt, hlt2, e1, e2, hd, hs]
    ·have hs := hno (fun h => hb h.2.1)
     simp +contextual -dsimp (maxSteps := 2000000) only [↓SD, SU, SB, simprocAttr, map_len, hlt, hlt2, e1, e2, hb, hs]
   ·have hs := hno (fun h => ha h.1)
    simp +contextual -dsimp (maxSteps := 2000000) only [↓SD, SU, SB, simprocAttr, map_len, hlt, hlt2, e1, e2, ha, hs]
  ·obtain rfl : j = l.length := by omega
   have hs : decide (l = m) = true := decide_eq_true (by rw [List.take_length, hln, List.take_length] at hq; exact hq)
   simp +contextual -dsimp (maxSteps := 2000000) only [↓SD, SU, SB, simprocAttr, map_len, hln, Nat.lt_irrefl, hs]
 ·have hs : decide (l = m) = false := decide_eq_false fun h => hln (by rw [h])
  have hln2 : ¬ (l.length : Int) = m.length := by omega
  simp +contextual -dsimp (maxSteps := 2000000) only [↓SD, SU, SB, simprocAttr, ir_spec_l15SamePat, map_len, hln, hln2, hs]
set_option maxHeartbeats 4000000 in
theorem l15Same2_ok (ts us : List TypeD) (l m : List Node) (P Q : ByteArray) (hP : CallsF Tryz.prog 90 [.agg [.sl (ts.map av), .sl [.agg [.int .i64 12, .int .i64 0, .int .i64 0, .str (bs []), .nils, .nils]]]] (.str P)) (hQ : CallsF Tryz.prog 90 [.agg [.sl (us.map av), .sl [.agg [.int .i64 12, .int .i64 0, .int .i64 0, .str (bs []), .nils, .nils]]]] (.str Q)) (hl : Bulk.bulk l ≤ 4294967296) (hm : Bulk.bulk m ≤ 4294967296) :
  CallsF Tryz.prog 41 [.agg [.sl (ts.map av), .sl (l.map av)], .agg [.sl (us.map av), .sl (m.map av)]] (.bool (decide (ts.length = us.length) && (decide (l = m) && decide (P = Q)))) := by
 refine ir_spec_l15Same.F rfl (by simp; exact ⟨AvPure.agg (by simp; exact ⟨lav_clean ts, lav_clean l⟩), AvPure.agg (by simp; exact ⟨lav_clean us, lav_clean m⟩)⟩) (AvPure.bool _) ?_
 have hll := bulk_length l
 have hml := bulk_length m
 by_cases hln0 : l.length = m.length
 case neg =>
  have hs : decide (l = m) = false := decide_eq_false fun h => hln0 (by rw [h])
  have hln2 : ¬ (l.length : Int) = m.length := by omega
  simp +contextual -dsimp (maxSteps := 2000000) only [↓SD, SU, SB, simprocAttr, ir_spec_l15Same, map_len, hln0, hln2, hs]
 by_cases hts : ts.length = us.length
 case neg =>
  have hs : decide (ts.length = us.length) = false := decide_eq_false hts
  have hts2 : ¬ (ts.length : Int) = us.length := by omega
  have hln2 : (l.length : Int) = m.length := by omega
  simp +contextual -dsimp (maxSteps := 2000000) only [↓SD, SU, SB, simprocAttr, ir_spec_l15Same, map_len, hln0, hts, hts2, hs]
 rw [decide_eq_true hts, Bool.true_and]
 have hR1 : ¬ (l = m) → (decide (l = m) && decide (P = Q)) = false := fun h => by rw [decide_eq_false h, Bool.false_and]
 have hR2 : l = m → (decide (l = m) && decide (P = Q)) = decide (P = Q) := fun h => by rw [decide_eq_true h, Bool.true_and]
 generalize (decide (l = m) && decide (P = Q)) = R at *
 by_cases hln : l.length = m.length
 ·have hln2 : (l.length : Int) = m.length := by omega
  simp +contextual -dsimp (maxSteps := 2000000) only [↓SD, SU, SB, simprocAttr, ir_spec_l15Same, map_len, hln, hts]
  refine aLoop_of (X := Nat) (fun j => ⟨[(2, .obj [.sl (ts.map av), .sl (l.map av)]), (3, .obj [.sl (us.map av), .sl (m.map av)]), (29, .int .i64 m.length), (30, .int .i64 j)], []⟩) (fun j => j ≤ l.length ∧ l.take j = m.take j) (fun j => l.length - j) 0 ⟨Nat.zero_le _, rfl⟩ (by simp +contextual -dsimp only [↓SD, SU, SB, simprocAttr]) trivial ?_
  rintro j ⟨hj, hq⟩
  by_cases hlt : j < l.length
  ·have hlt2 : j < m.length := by omega
   have e1 := getD_map av l j .top hlt
   have e2 := getD_map av m j .top hlt2
   have hst : l[j] = m[j] → l.take (j + 1) = m.take (j + 1) := fun e => by rw [List.take_succ_eq_append_getElem hlt, List.take_succ_eq_append_getElem hlt2, hq, e]
   have hno : ¬ (l[j] = m[j]) → R = false := fun e => hR1 fun h => e (by simp only [h])
   have hb1 := bulk_mem (List.getElem_mem hlt)
   have hb2 := bulk_mem (List.getElem_mem hlt2)
   generalize l[j] = x at *
   generalize m[j] = y at *
   obtain ⟨a, b, d, s, ks, ps⟩ := x
   obtain ⟨a', b', d', s', ks', ps'⟩ := y
   have hb3 : Bulk.bulk (⟨a, b, d, s, ks, ps⟩ : Node) = Bulk.bulk a + Bulk.bulk b + Bulk.bulk d + Bulk.bulk s + Bulk.bulk ks + Bulk.bulk ps + 1 := rfl
   have hb4 : Bulk.bulk (⟨a', b', d', s', ks', ps'⟩ : Node) = Bulk.bulk a' + Bulk.bulk b' + Bulk.bulk d' + Bulk.bulk s' + Bulk.bulk ks' + Bulk.bulk ps' + 1 := rfl
   have hb5 := bulk_length ks
   have hb6 := bulk_length ps
   simp only [Node.mk.injEq] at hst hno
   rw [av_Node] at e1 e2
   simp only at e1 e2
   by_cases ha : a = a'
   ·subst ha
    by_cases hb : b = b'
    ·subst hb
     by_cases hd : d = d'
     ·subst hd
      by_cases hss : s = s'
      ·subst hss
       by_cases hlks : ks.length = ks'.length
       ·have hlks2 : (ks.length : Int) = ks'.length := by omega
        by_cases hlps : ps.length = ps'.length
        ·have hlps2 : (ps.length : Int) = ps'.length := by omega
         simp +contextual -dsimp (maxSteps := 2000000) only [↓SD, SU, SB, simprocAttr, map_len, hlt, hlt2, e1, e2, hlks, hlps]
         intro v6 v7
         rw [← hlks]
         refine aLoop_of (X := Nat) (fun k => ⟨[(2, .obj [.sl (ts.map av), .sl (l.map av)]), (3, .obj [.sl (us.map av), .sl (m.map av)]), (6, .ptr 6 v6 0 0), (7, .ptr 7 v7 0 0), (29, .int .i64 m.length), (30, .int .i64 j), (89, .int .i64 ks.length), (90, .int .i64 k)], [(6, ⟨v6, false, 44, 6, [.agg [.int .i64 a, .int .i64 b, .int .i64 d, .str s, .sl (ks.map av), .sl (ps.map av)]]⟩), (7, ⟨v7, false, 44, 6, [.agg [.int .i64 a, .int .i64 b, .int .i64 d, .str s, .sl (ks'.map av), .sl (ps'.map av)]]⟩)]⟩) (fun k => k ≤ ks.length ∧ ks.take k = ks'.take k) (fun k => ks.length - k) 0 ⟨Nat.zero_le _, rfl⟩ (by simp +contextual -dsimp only [↓SD, SU, SB, simprocAttr]) (by simp +contextual -dsimp only [↓SD, SU, SB, simprocAttr]) ?_
         rintro k ⟨hk, hqk⟩
         by_cases hlk : k < ks.length
         ·have e3 := getD_map av ks k .top hlk
          have hlk2 : k < ks'.length := by omega
          have e4 := getD_map av ks' k .top hlk2
          have hst : ks[k] = ks'[k] → ks.take (k + 1) = ks'.take (k + 1) := fun e => by rw [List.take_succ_eq_append_getElem hlk, List.take_succ_eq_append_getElem hlk2, hqk, e]
          have hnk : ks[k] ≠ ks'[k] → ks ≠ ks' := fun e h => e (by simp only [h])
          generalize ks[k] = p at *
          generalize ks'[k] = q at *
          by_cases hpq : p = q
          ·subst hpq
           simp +contextual -dsimp (maxSteps := 2000000) only [↓SD, SU, SB, simprocAttr, map_len, hlk, hlk2, e3, e4, av_int]
           exact ⟨by omega, Goes.le ⟨k + 1, ⟨⟨hlk, hst rfl⟩, (by first | omega | (simp only; omega))⟩, rfl⟩ (by simp +contextual -dsimp only [↓SD, SU, SB, simprocAttr, Int.natCast_add]) (by simp +contextual -dsimp only [↓SD, SU, SB, simprocAttr])⟩
          ·have hs := hno (fun h => hnk hpq h.2.2.2.2.1)
           simp +contextual -dsimp (maxSteps := 2000000) only [↓SD, SU, SB, simprocAttr, map_len, hlk, hlk2, e3, e4, av_int, hpq, hs]
         ·obtain rfl : k = ks.length := by omega
          rw [List.take_length, hlks, List.take_length] at hqk
          subst hqk
          simp +contextual -dsimp (maxSteps := 2000000) only [↓SD, SU, SB, simprocAttr, map_len, Nat.lt_irrefl, hlps]
          rw [← hlps]
          refine aLoop_of (X := Nat) (fun k => ⟨[(2, .obj [.sl (ts.map av), .sl (l.map av)]), (3, .obj [.sl (us.map av), .sl (m.map av)]), (6, .ptr 6 v6 0 0), (7, .ptr 7 v7 0 0), (29, .int .i64 m.length), (30, .int .i64 j), (107, .int .i64 ps.length), (108, .int .i64 k)], [(6, ⟨v6, false, 44, 6, [.agg [.int .i64 a, .int .i64 b, .int .i64 d, .str s, .sl (ks.map av), .sl (ps.map av)]]⟩), (7, ⟨v7, false, 44, 6, [.agg [.int .i64 a, .int .i64 b, .int .i64 d, .str s, .sl (ks.map av), .sl (ps'.map av)]]⟩)]⟩) (fun k => k ≤ ps.length ∧ ps.take k = ps'.take k) (fun k => ps.length - k) 0 ⟨Nat.zero_le _, rfl⟩ (by simp +contextual -dsimp only [↓SD, SU, SB, simprocAttr]) (by simp +contextual -dsimp only [↓SD, SU, SB, simprocAttr]) ?_
          rintro k ⟨hk, hqk⟩
          by_cases hlk : k < ps.length
          ·have e3 := getD_map av ps k .top hlk
           have hlk2 : k < ps'.length := by omega
           have e4 := getD_map av ps' k .top hlk2
           have hst2 : ps[k] = ps'[k] → ps.take (k + 1) = ps'.take (k + 1) := fun e => by rw [List.take_succ_eq_append_getElem hlk, List.take_succ_eq_append_getElem hlk2, hqk, e]
           have hnk : ps[k] ≠ ps'[k] → ps ≠ ps' := fun e h => e (by simp only [h])
           have hq1 := bulk_mem (List.getElem_mem hlk)
           have hq2 := bulk_mem (List.getElem_mem hlk2)
           generalize ps[k] = p at *
           generalize ps'[k] = q at *
           obtain ⟨p⟩ := p
           obtain ⟨q⟩ := q
           have hq3 : Bulk.bulk (⟨p⟩ : Pat) = Bulk.bulk p + 1 := rfl
           have hq4 : Bulk.bulk (⟨q⟩ : Pat) = Bulk.bulk q + 1 := rfl
           have C := l15SamePat_ok p q (by omega) (by omega)
           rw [av_Pat] at e3 e4
           simp only at e3 e4
           by_cases hpq : p = q
           ·subst hpq
            rw [decide_eq_true (p := p = p) rfl] at C
            simp +contextual -dsimp (maxSteps := 2000000) only [↓SD, SU, SB, simprocAttr, map_len, hlk, hlk2, e3, e4, av_Pat]
            refine aCallK_of _ C ?_
            simp +contextual -dsimp (maxSteps := 2000000) only [↓SD, SU, SB, simprocAttr]
            exact ⟨by omega, Goes.le ⟨k + 1, ⟨⟨hlk, hst2 rfl⟩, (by first | omega | (simp only; omega))⟩, rfl⟩ (by simp +contextual -dsimp only [↓SD, SU, SB, simprocAttr, Int.natCast_add]) (by simp +contextual -dsimp only [↓SD, SU, SB, simprocAttr])⟩
           ·rw [decide_eq_false hpq] at C
            have hs := hno (fun h => hnk (fun e => hpq (Pat.mk.inj e)) h.2.2.2.2.2)
            simp +contextual -dsimp (maxSteps := 2000000) only [↓SD, SU, SB, simprocAttr, map_len, hlk, hlk2, e3, e4, av_Pat]
            refine aCallK_of _ C ?_
            simp +contextual -dsimp (maxSteps := 2000000) only [↓SD, SU, SB, simprocAttr, hs]
          ·obtain rfl : k = ps.length := by omega
           rw [List.take_length, hlps, List.take_length] at hqk
           subst hqk
           simp +contextual -dsimp (maxSteps := 2000000) only [↓SD, SU, SB, simprocAttr, map_len, Nat.lt_irrefl]
           exact ⟨by omega, Goes.le ⟨j + 1, ⟨⟨hlt, hst ⟨rfl, rfl, rfl, rfl, rfl, rfl⟩⟩, (by first | omega | (simp only; omega))⟩, rfl⟩ (by simp +contextual -dsimp only [↓SD, SU, SB, simprocAttr, Int.natCast_add]) trivial⟩
        ·have hs := hno (fun h => hlps (by rw [h.2.2.2.2.2]))
         have hlps2 : ¬ (ps.length : Int) = ps'.length := by omega
         simp +contextual -dsimp (maxSteps := 2000000) only [↓SD, SU, SB, simprocAttr, map_len, hlt, hlt2, e1, e2, hlks, hlps, hlps2, hs]
       ·have hs := hno (fun h => hlks (by rw [h.2.2.2.2.1]))
        have hlks2 : ¬ (ks.length : Int) = ks'.length := by omega
        simp +contextual -dsimp (maxSteps := 2000000) only [↓SD, SU, SB, simprocAttr, map_len, hlt, hlt2, e1, e2, hlks, hlks2, hs]
      ·have hs := hno (fun h => hss h.2.2.2.1)
       simp +contextual -dsimp (maxSteps := 2000000) only [↓SD, SU, SB, simprocAttr, map_len, hlt, hlt2, e1, e2, hss, hs]
     ·have hs := hno (fun h => hd h.2.2.1)
      simp +contextual -dsimp (maxSteps := 2000000) only [↓SD, SU, SB, simprocAttr, map_len, hlt, hlt2, e1, e2, hd, hs]
    ·have hs := hno (fun h => hb h.2.1)
     simp +contextual -dsimp (maxSteps := 2000000) only [↓SD, SU, SB, simprocAttr, map_len, hlt, hlt2, e1, e2, hb, hs]
   ·have hs := hno (fun h => ha h.1)
    simp +contextual -dsimp (maxSteps := 2000000) only [↓SD, SU, SB, simprocAttr, map_len, hlt, hlt2, e1, e2, ha, hs]
  ·obtain rfl : j = l.length := by omega
   have hs : R = decide (P = Q) := hR2 (by rw [List.take_length, hln, List.take_length] at hq; exact hq)
   simp +contextual -dsimp (maxSteps := 2000000) only [↓SD, SU, SB, simprocAttr, map_len, hln, Nat.lt_irrefl, hs]
   refine aCallK_of _ hP ?_
   simp +contextual -dsimp (maxSteps := 2000000) only [↓SD, SU, SB, simprocAttr]
   refine aCallK_of _ hQ ?_
   simp +contextual -dsimp (maxSteps := 2000000) only [↓SD, SU, SB, simprocAttr, hs]
 ·exact absurd hln0 hln
end Go.Proofs.YtjifpdcflankpaaGreat

namespace Go.Proofs.YtjifpdcflankpaaGreat
open Go.RowKit Go.Proofs.YtjifpdcflankpaaGreat.Av Go.Proofs.YtjifpdcflankpaaGreat.Ml
open Go.Proofs.YtjifpdcflankpaaGreat.Av.AVal (av)

def varS (i : Nat) : ByteArray := if 25 < i then bs [39, 122] ++ numS i else bs [39] ++ ⟨[UInt8.ofNat (97 + i)].toArray⟩
theorem varS_le (i : Nat) : (varS i).size ≤ 67 := by
 unfold varS
 have h := numS_le i
 have h1 : (bs [39, 122]).size = 2 := rfl
 have h2 : (bs [39]).size = 1 := rfl
 have h3 : (⟨[UInt8.ofNat (97 + i)].toArray⟩ : ByteArray).size = 1 := rfl
 split
 ·rw [ByteArray.size_append]; omega
 ·rw [ByteArray.size_append]; omega
theorem l04Var_ok (i : Nat) (hi : i ≤ 9999) : CallsF Tryz.prog 173 [.int .i64 i] (.str (varS i)) := by
 refine ir_spec_l04Var.F rfl (by simp; exact pint _) (AvPure.str _) ?_
 have hs := numS_le (i : Int)
 have h1 : (bs [39, 122]).size = 2 := rfl
 by_cases h : 25 < i
 ·have h' : (25 : Int) < i := by omega
  rw [varS, if_pos h]
  simp +contextual -dsimp (maxSteps := 2000000) only [↓SD, SU, SB, simprocAttr, ir_spec_l04Var, h']
  refine aCallK_of _ (specNumText_ok i (by omega)) ?_
  simp +contextual -dsimp (maxSteps := 2000000) only [↓SD, SU, SB, simprocAttr]
  unfold maxLen; omega
 ·have h' : ¬ (25 : Int) < i := by omega
  have e : (97 : Int) + i = ((97 + i : Nat) : Int) := by omega
  rw [varS, if_neg h]
  simp +contextual -dsimp (maxSteps := 2000000) only [↓SD, SU, SB, simprocAttr, ir_spec_l04Var, h', e]
  refine ⟨by omega, by omega, ?_⟩
  refine b2s_of _ _ [UInt8.ofNat (97 + i)] rfl (by rw [List.map_cons, List.map_nil, av_byte _ (by omega)]) ?_
  simp +contextual -dsimp (maxSteps := 2000000) only [↓SD, SU, SB, simprocAttr]
  have h5 : (⟨[UInt8.ofNat (97 + i)].toArray⟩ : ByteArray).size = 1 := rfl
  have h2 : (bs [39]).size = 1 := rfl
  unfold maxLen; omega
def tyS (l : List TyItem) : Nat → Nat → ByteArray
 | 0, _ => bs []
 | f + 1, p => match l[p]? with
  | none => bs []
  | some x =>
   if x.name = bs [] then varS x.var.toNat
   else if x.arity = 0 then x.name
   else if x.arity = 1 then bs [40] ++ tyS l f (p + 1) ++ bs [41, 32] ++ x.name
   else if x.name = bs [45, 62] ∨ x.name = bs [42] then bs [40] ++ tyS l f (p + 1) ++ bs [32] ++ x.name ++ bs [32] ++ tyS l f ((endT (arL l) f (p + 1)).getD 0) ++ bs [41]
   else bs [40] ++ tyS l f (p + 1) ++ bs [44, 32] ++ tyS l f ((endT (arL l) f (p + 1)).getD 0) ++ bs [41, 32] ++ x.name
def preW (l : List TyItem) (k : Nat) : Nat := ((l.take k).map fun x => 80 + x.name.size).sum
theorem preW_step {l : List TyItem} {k : Nat} (h : k < l.length) : preW l (k + 1) = preW l k + (80 + l[k].name.size) := by
 unfold preW
 rw [List.take_succ_eq_append_getElem h, List.map_append, List.sum_append]; rfl
theorem tyS_le (l : List TyItem) : ∀ (f p e : Nat), l.all itemB = true → endT (arL l) f p = some e → p < l.length ∧ p < e ∧ e ≤ l.length ∧ (tyS l f p).size + preW l p ≤ preW l e
 | 0, p, e, _, h => by cases h
 | f + 1, p, e, hi, h => by
  have hl : (arL l).length = l.length := by simp [arL]
  rw [endT] at h
  split at h
  case isFalse => cases h
  rename_i hp
  rw [hl] at hp
  have hg : l[p]? = some l[p] := List.getElem?_eq_getElem hp
  have hst := preW_step hp
  have har := itemB_ar (List.all_eq_true.1 hi l[p] (List.getElem_mem hp))
  have hag : (arL l).getD p 0 = l[p].arity.toNat := by simp [arL, List.getD_eq_getElem?_getD, hp]
  rw [hag] at h
  rw [tyS, hg]
  have ih := fun q e => tyS_le l f q e hi
  generalize l[p] = x at *
  dsimp only
  have hv := varS_le x.var.toNat
  have s1 : (bs [40]).size = 1 := rfl
  have s2 : (bs [41, 32]).size = 2 := rfl
  have s3 : (bs [32]).size = 1 := rfl
  have s4 : (bs [41]).size = 1 := rfl
  have s5 : (bs [44, 32]).size = 2 := rfl
  have hcase : x.arity = 0 ∨ x.arity = 1 ∨ x.arity = 2 := by omega
  rcases hcase with ha | ha | ha
  ·rw [ha] at h ⊢
   obtain rfl : p + 1 = e := by simpa [iterT] using h
   refine ⟨hp, by omega, by omega, ?_⟩
   split
   ·omega
   ·rw [if_pos rfl]; omega
  ·rw [ha] at h ⊢
   have h1 : endT (arL l) f (p + 1) = some e := by
    have : iterT (endT (arL l) f) 1 (p + 1) = some e := h
    rw [iterT] at this
    cases hx : endT (arL l) f (p + 1) with
    | none => rw [hx] at this; cases this
    | some q => rw [hx] at this; exact this
   have g := ih (p + 1) e h1
   refine ⟨hp, by omega, by omega, ?_⟩
   split
   ·omega
   ·rw [if_neg (by decide), if_pos rfl]
    simp only [ByteArray.size_append]
    omega
  ·rw [ha] at h ⊢
   obtain ⟨q, h1, h2⟩ : ∃ q, endT (arL l) f (p + 1) = some q ∧ endT (arL l) f q = some e := by
    have : iterT (endT (arL l) f) 2 (p + 1) = some e := h
    rw [iterT] at this
    cases hx : endT (arL l) f (p + 1) with
    | none => rw [hx] at this; cases this
    | some q =>
     rw [hx, Option.bind_some, iterT] at this
     cases hy : endT (arL l) f q with
     | none => rw [hy] at this; cases this
     | some z => rw [hy] at this; exact ⟨q, rfl, hy.trans this⟩
   have g1 := ih (p + 1) q h1
   have g2 := ih q e h2
   rw [h1, Option.getD_some]
   refine ⟨hp, by omega, by omega, ?_⟩
   split
   ·omega
   ·rw [if_neg (by decide), if_neg (by decide)]
    split
    all_goals
     simp only [ByteArray.size_append]
     omega
theorem preW_le (l : List TyItem) (k : Nat) : preW l k ≤ 81 * Bulk.bulk l := by
 have h1 : ∀ m : List TyItem, (m.map fun x => 80 + x.name.size).sum ≤ 81 * (m.map Bulk.bulk).sum := by
  intro m
  induction m with
  | nil => exact Nat.zero_le _
  | cons x m ih =>
   have h2 : Bulk.bulk x = Bulk.bulk x.var + Bulk.bulk x.name + Bulk.bulk x.arity + 1 := rfl
   have h3 : Bulk.bulk x.name = x.name.size + 1 := rfl
   simp only [List.map_cons, List.sum_cons]
   omega
 have h2 : ((l.take k).map Bulk.bulk).sum ≤ (l.map Bulk.bulk).sum := by
  have e := congrArg (fun m => (m.map Bulk.bulk).sum) (List.take_append_drop k l)
  simp only [List.map_append, List.sum_append] at e
  omega
 have h3 := h1 (l.take k)
 have h4 : Bulk.bulk l = (l.map Bulk.bulk).sum + 1 := bulk_sumL l
 unfold preW
 omega
set_option maxHeartbeats 4000000 in
theorem l04Ty_ok (l : List TyItem) (hx : Bulk.bulk l ≤ 4294967296) (hi : l.all itemB = true) : ∀ (f p e : Nat), l.length - p < f → endT (arL l) f p = some e → CallsF Tryz.prog 145 [.agg [.sl (l.map av)], .int .i64 p] (.str (tyS l f p))
 | 0, p, e, _, h => by cases h
 | f + 1, p, e, hf, h => by
  have hle := tyS_le l (f + 1) p e hi h
  have hpe := preW_le l e
  have hll := bulk_length l
  refine ir_spec_l04Ty.F rfl (by simp; exact ⟨AvPure.agg (by simp; exact lav_clean l), pint _⟩) (AvPure.str _) ?_
  have hl : (arL l).length = l.length := by simp [arL]
  rw [endT] at h
  split at h
  case isFalse => cases h
  rename_i hp
  rw [hl] at hp
  have hg : l[p]? = some l[p] := List.getElem?_eq_getElem hp
  have e1 := getD_map av l p .top hp
  have hit := List.all_eq_true.1 hi l[p] (List.getElem_mem hp)
  have har := itemB_ar hit
  have hag : (arL l).getD p 0 = l[p].arity.toNat := by simp [arL, List.getD_eq_getElem?_getD, hp]
  rw [hag] at h
  have hsz := hle.2.2.2
  rw [tyS, hg] at hsz ⊢
  have CT := fun q e => l04Ty_ok l hx hi f q e
  have CE := l04End_ok l hx hi f (p + 1) (by omega) (by omega)
  have hp1 : (p : Int) + 1 = ((p + 1 : Nat) : Int) := by omega
  generalize l[p] = x at *
  obtain ⟨vr, nm, ar⟩ := x
  dsimp only at hsz h hit har e1 ⊢
  rw [av_TyItem] at e1
  by_cases hn : nm = bs []
  ·subst hn
   rw [if_pos rfl]
   unfold itemB at hit
   rw [if_pos rfl] at hit
   simp only [Bool.and_eq_true, decide_eq_true_eq] at hit
   have CV := l04Var_ok vr.toNat (by omega)
   rw [show ((vr.toNat : Nat) : Int) = vr by omega] at CV
   simp +contextual -dsimp (maxSteps := 2000000) only [↓SD, SU, SB, simprocAttr, ir_spec_l04Ty, map_len, hp, e1]
   intro v5
   refine aCallK_of _ CV ?_
   simp +contextual -dsimp (maxSteps := 2000000) only [↓SD, SU, SB, simprocAttr]
  rw [if_neg hn] at hsz ⊢
  have hcase : ar = 0 ∨ ar = 1 ∨ ar = 2 := by omega
  rcases hcase with rfl | rfl | rfl
  ·rw [if_pos rfl]
   simp +contextual -dsimp (maxSteps := 2000000) only [↓SD, SU, SB, simprocAttr, ir_spec_l04Ty, map_len, hp, e1, hn]
  ·have h1 : endT (arL l) f (p + 1) = some e := by
    have : iterT (endT (arL l) f) 1 (p + 1) = some e := h
    rw [iterT] at this
    cases hx : endT (arL l) f (p + 1) with
    | none => rw [hx] at this; cases this
    | some q => rw [hx] at this; exact this
   have C1 := CT (p + 1) e (by omega) h1
   rw [if_neg (by decide), if_pos rfl] at hsz ⊢
   generalize tyS l f (p + 1) = A at *
   simp only [ByteArray.size_append] at hsz
   simp +contextual -dsimp (maxSteps := 2000000) only [↓SD, SU, SB, simprocAttr, ir_spec_l04Ty, map_len, hp, e1, hn, hp1]
   intro v5
   refine ⟨by omega, ?_⟩
   refine aCallK_of _ C1 ?_
   simp +contextual -dsimp (maxSteps := 2000000) only [↓SD, SU, SB, simprocAttr, ByteArray.size_append]
   unfold maxLen; omega
  ·obtain ⟨q, h1, h2⟩ : ∃ q, endT (arL l) f (p + 1) = some q ∧ endT (arL l) f q = some e := by
    have : iterT (endT (arL l) f) 2 (p + 1) = some e := h
    rw [iterT] at this
    cases hx : endT (arL l) f (p + 1) with
    | none => rw [hx] at this; cases this
    | some q =>
     rw [hx, Option.bind_some, iterT] at this
     cases hy : endT (arL l) f q with
     | none => rw [hy] at this; cases this
     | some z => rw [hy] at this; exact ⟨q, rfl, hy.trans this⟩
   have hq := endT_le (arL l) f (p + 1) q h1
   have C1 := CT (p + 1) q (by omega) h1
   have C2 := CT q e (by omega) h2
   rw [h1] at CE
   rw [if_neg (by decide), if_neg (by decide), h1, Option.getD_some] at hsz ⊢
   generalize tyS l f (p + 1) = A at *
   generalize tyS l f q = B at *
   by_cases ho : nm = bs [45, 62] ∨ nm = bs [42]
   ·rw [if_pos ho] at hsz ⊢
    simp only [ByteArray.size_append] at hsz
    rcases ho with hO | hO
    ·simp +contextual -dsimp (maxSteps := 2000000) only [↓SD, SU, SB, simprocAttr, ir_spec_l04Ty, map_len, hp, e1, hn, hp1]
     intro v5
     refine ⟨by omega, ?_⟩
     refine aCallK_of _ C1 ?_
     simp +contextual -dsimp (maxSteps := 2000000) only [↓SD, SU, SB, simprocAttr, hp1]
     refine ⟨by omega, ?_⟩
     refine aCallK_of _ CE ?_
     simp +contextual -dsimp (maxSteps := 2000000) only [↓SD, SU, SB, simprocAttr, endI]
     refine aCallK_of _ C2 ?_
     simp +contextual -dsimp (maxSteps := 2000000) only [↓SD, SU, SB, simprocAttr, hO, ByteArray.size_append]
     rw [hO] at hsz
     unfold maxLen; omega
    ·have hne : (bs [42] = bs [45, 62]) = False := eq_false (by decide)
     simp +contextual -dsimp (maxSteps := 2000000) only [↓SD, SU, SB, simprocAttr, ir_spec_l04Ty, map_len, hp, e1, hn, hp1]
     intro v5
     refine ⟨by omega, ?_⟩
     refine aCallK_of _ C1 ?_
     simp +contextual -dsimp (maxSteps := 2000000) only [↓SD, SU, SB, simprocAttr, hp1]
     refine ⟨by omega, ?_⟩
     refine aCallK_of _ CE ?_
     simp +contextual -dsimp (maxSteps := 2000000) only [↓SD, SU, SB, simprocAttr, endI]
     refine aCallK_of _ C2 ?_
     simp +contextual -dsimp (maxSteps := 2000000) only [↓SD, SU, SB, simprocAttr, hne, hO, ByteArray.size_append]
     rw [hO] at hsz
     unfold maxLen; omega
   ·rw [if_neg ho] at hsz ⊢
    simp only [ByteArray.size_append] at hsz
    have hne : (nm = bs [45, 62]) = False := eq_false fun h => ho (.inl h)
    have hne2 : (nm = bs [42]) = False := eq_false fun h => ho (.inr h)
    simp +contextual -dsimp (maxSteps := 2000000) only [↓SD, SU, SB, simprocAttr, ir_spec_l04Ty, map_len, hp, e1, hn, hp1]
    intro v5
    refine ⟨by omega, ?_⟩
    refine aCallK_of _ C1 ?_
    simp +contextual -dsimp (maxSteps := 2000000) only [↓SD, SU, SB, simprocAttr, hp1]
    refine ⟨by omega, ?_⟩
    refine aCallK_of _ CE ?_
    simp +contextual -dsimp (maxSteps := 2000000) only [↓SD, SU, SB, simprocAttr, endI]
    refine aCallK_of _ C2 ?_
    simp +contextual -dsimp (maxSteps := 2000000) only [↓SD, SU, SB, simprocAttr, hne, hne2, ByteArray.size_append]
    unfold maxLen; omega
end Go.Proofs.YtjifpdcflankpaaGreat

namespace Go.Proofs.YtjifpdcflankpaaGreat
open Go.RowKit Go.Proofs.YtjifpdcflankpaaGreat.Av Go.Proofs.YtjifpdcflankpaaGreat.Ml
open Go.Proofs.YtjifpdcflankpaaGreat.Av.AVal (av)

def conStep (s : ByteArray) (i : Nat) (c : Con) : ByteArray :=
 let a := (if 0 < i then s ++ bs [32, 124, 32] else s) ++ c.name
 if c.has = true then a ++ bs [32, 111, 102, 32] ++ tyS c.arg.items (c.arg.items.length + 1) 0 else a
def consF : ByteArray → Nat → List Con → ByteArray
 | s, _, [] => s
 | s, i, c :: r => consF (conStep s i c) (i + 1) r
def parS (m : Int) : ByteArray := if m = 0 then bs [] else if m = 1 then bs [39, 97, 32] else bs [40, 39, 97, 44, 32, 39, 98, 41, 32]
def typeStep (s : ByteArray) (t : TypeD) : ByteArray := consF (s ++ bs [116, 121, 112, 101, 32] ++ parS t.params ++ t.name ++ bs [32, 61, 32]) 0 t.cons ++ bs [59, 32]
def typesF (s : ByteArray) (l : List TypeD) : ByteArray := l.foldl typeStep s
def unitP (ts : List TypeD) : Program := ⟨ts, [⟨12, 0, 0, bs [], [], []⟩]⟩
def unitS (ts : List TypeD) : ByteArray := if progB (unitP ts) = true then typesF (bs []) ts ++ bs [40, 41] else bs []
theorem tyB_facts {l : List TyItem} (h : tyB l = true) : l.all itemB = true ∧ endT (arL l) (l.length + 1) 0 = some l.length := by
 unfold tyB tyItemsB at h
 simp only [Bool.and_eq_true, decide_eq_true_eq] at h
 refine ⟨h.2.1, ?_⟩
 have hl : (arL l).length = l.length := by simp [arL]
 rw [endT_skip _ _ _ (by omega), List.drop_zero, h.2.2, hl]
 rfl
theorem conOkB_ty {c : Con} {m : Int} (h : conOkB c m = true) (hh : c.has = true) : tyB c.arg.items = true := by
 unfold conOkB at h
 rw [if_pos hh] at h
 simp only [Bool.and_eq_true] at h
 exact h.1.2
theorem conStep_le {c : Con} {m : Int} (h : conOkB c m = true) (s : ByteArray) (i : Nat) : (conStep s i c).size ≤ s.size + 100 * Bulk.bulk c ∧ (c.has = true → (tyS c.arg.items (c.arg.items.length + 1) 0).size ≤ 81 * Bulk.bulk c) := by
 have h2 : Bulk.bulk c = Bulk.bulk c.name + Bulk.bulk c.has + Bulk.bulk c.arg + 1 := rfl
 have h3 : Bulk.bulk c.arg = Bulk.bulk c.arg.items + 1 := rfl
 have h4 : Bulk.bulk c.name = c.name.size + 1 := rfl
 have h5 : (bs [32, 124, 32]).size = 3 := rfl
 have h6 : (bs [32, 111, 102, 32]).size = 4 := rfl
 have h7 : (if 0 < i then s ++ bs [32, 124, 32] else s).size ≤ s.size + 3 := by
  split
  ·rw [ByteArray.size_append]; omega
  ·omega
 have ht : c.has = true → (tyS c.arg.items (c.arg.items.length + 1) 0).size ≤ 81 * Bulk.bulk c.arg.items := fun hh => by
  obtain ⟨g1, g2⟩ := tyB_facts (conOkB_ty h hh)
  have g3 := (tyS_le _ _ _ _ g1 g2).2.2.2
  have g4 := preW_le c.arg.items c.arg.items.length
  omega
 refine ⟨?_, fun hh => by have := ht hh; omega⟩
 unfold conStep
 dsimp only
 split
 ·rename_i hh
  have := ht hh
  simp only [ByteArray.size_append]
  omega
 ·simp only [ByteArray.size_append]
  omega
theorem bsum_drop {α : Type} [Bulk α] (l : List α) (i : Nat) (h : i < l.length) : ((l.drop i).map Bulk.bulk).sum = Bulk.bulk l[i] + ((l.drop (i + 1)).map Bulk.bulk).sum := by
 rw [List.drop_eq_getElem_cons h, List.map_cons, List.sum_cons]
theorem consF_le {m : Int} : ∀ (l : List Con) (s : ByteArray) (i : Nat), (l.all fun c => conOkB c m) = true → (consF s i l).size ≤ s.size + 100 * (l.map Bulk.bulk).sum
 | [], s, i, _ => Nat.le_add_right _ _
 | c :: r, s, i, h => by
  rw [List.all_cons, Bool.and_eq_true] at h
  have h1 := (conStep_le h.1 s i).1
  have h2 := consF_le r (conStep s i c) (i + 1) h.2
  rw [consF, List.map_cons, List.sum_cons]
  omega
theorem parS_le (m : Int) : (parS m).size ≤ 9 := by
 unfold parS
 split
 ·decide
 ·split <;> decide
theorem typeStep_le {t : TypeD} (h : typeB t = true) (s : ByteArray) : (typeStep s t).size ≤ s.size + 200 * Bulk.bulk t := by
 unfold typeB at h
 rw [Bool.and_eq_true] at h
 have h1 := consF_le t.cons (s ++ bs [116, 121, 112, 101, 32] ++ parS t.params ++ t.name ++ bs [32, 61, 32]) 0 h.2
 have h2 : Bulk.bulk t = Bulk.bulk t.name + Bulk.bulk t.params + Bulk.bulk t.cons + 1 := rfl
 have h3 : Bulk.bulk t.name = t.name.size + 1 := rfl
 have h4 := bulk_sumL t.cons
 have h5 := parS_le t.params
 have g1 : (bs [116, 121, 112, 101, 32]).size = 5 := rfl
 have g2 : (bs [32, 61, 32]).size = 3 := rfl
 have g3 : (bs [59, 32]).size = 2 := rfl
 unfold typeStep
 simp only [ByteArray.size_append] at h1 ⊢
 omega
theorem av_unit (ts : List TypeD) : av (unitP ts) = .agg [.sl (ts.map av), .sl [.agg [.int .i64 12, .int .i64 0, .int .i64 0, .str (bs []), .sl [], .sl []]]] := by
 rw [av_Program, unitP]; simp only [List.map_cons, List.map_nil, av_Node]
theorem vr_unit {S : Nat → Prop} {w : World} {v : Value} {T : List AV} {a b c d : AV} (h : VR S w mu0 v (.agg [.sl T, .sl [.agg [a, b, c, d, .nils, .nils]]])) : VR S w mu0 v (.agg [.sl T, .sl [.agg [a, b, c, d, .sl [], .sl []]]]) := by
 refine Av.VR.aggSet (off := 1) (y := .sl [.agg [a, b, c, d, .sl [], .sl []]]) h rfl (fun x u hx hu => ?_)
 obtain rfl : AV.sl [.agg [a, b, c, d, .nils, .nils]] = x := by simpa using hx
 cases hu with
 | sl bb o cap esz vs es hS hl hm hz hc h' =>
  have hz0 := hz _ (List.mem_singleton.2 rfl)
  refine (show VR S w mu0 (.slice (some ⟨bb, o, none⟩) [AV.agg [a, b, c, d, .sl [], .sl []]].length cap) (.sl [.agg [a, b, c, d, .sl [], .sl []]]) from .sl bb o cap esz vs _ hS hl hm ?_ hc ?_)
  ·intro e he
   rw [List.mem_singleton.1 he]
   refine ⟨hz0.1, fun x hx => ?_⟩
   have hx2 : x ∈ [a, b, c, d, .sl [], .sl []] := hx
   simp only [List.mem_cons, List.not_mem_nil, or_false] at hx2
   have h3 := fun y (hy : y ∈ [a, b, c, d, AV.nils, AV.nils]) => hz0.2 y hy
   rcases hx2 with rfl | rfl | rfl | rfl | rfl | rfl
   ·exact h3 _ (by simp)
   ·exact h3 _ (by simp)
   ·exact h3 _ (by simp)
   ·exact h3 _ (by simp)
   ·rfl
   ·rfl
  ·intro i j e x he hx
   cases i with
   | succ i => simp at he
   | zero =>
    obtain rfl : AV.agg [a, b, c, d, .sl [], .sl []] = e := by simpa using he
    have h4 := fun y (hy : [a, b, c, d, AV.nils, AV.nils][j]? = some y) => h' 0 j _ y rfl hy
    have hx2 : [a, b, c, d, AV.sl [], AV.sl []][j]? = some x := hx
    match j, hx2 with
    | 0, hx2 => exact h4 x hx2
    | 1, hx2 => exact h4 x hx2
    | 2, hx2 => exact h4 x hx2
    | 3, hx2 => exact h4 x hx2
    | 4, hx2 =>
     cases hx2
     have := h4 .nils rfl
     generalize vs 0 4 = z at this
     cases this; exact .sl0 none 0 (Nat.zero_le _)
    | 5, hx2 =>
     cases hx2
     have := h4 .nils rfl
     generalize vs 0 5 = z at this
     cases this; exact .sl0 none 0 (Nat.zero_le _)
    | n + 6, hx2 => simp at hx2
set_option maxHeartbeats 4000000 in
theorem exprUnit_ok (ts : List TypeD) : CallsF Tryz.prog 146 [.agg [.sl (ts.map av), .sl [.agg [.int .i64 12, .int .i64 0, .int .i64 0, .str (bs []), .sl [], .sl []]]], .int .i64 0] (.str (bs [40, 41])) := by
 refine ir_spec_l04Expr.F rfl (by simp; exact ⟨by rw [← av_unit]; exact AVal.clean _, pint _⟩) (AvPure.str _) ?_
 simp +contextual -dsimp (maxSteps := 2000000) only [↓SD, SU, SB, simprocAttr, ir_spec_l04Expr]
 intro v5 v20
 refine aLoop_of (X := Unit) (fun x => ⟨[(2, .obj [.sl (ts.map av), .sl [.agg [.int .i64 12, .int .i64 0, .int .i64 0, .str (bs []), .sl [], .sl []]]]), (5, .ptr 5 v5 0 0), (6, .row 20 v20 0), (22, .sl []), (23, .int .i64 0), (24, .int .i64 0)], [(5, ⟨v5, false, 44, 6, [.agg [.int .i64 12, .int .i64 0, .int .i64 0, .str (bs []), .sl [], .sl []]]⟩), (20, ⟨v20, false, 9, 1, []⟩)]⟩) (fun x => True) (fun x => 0) () trivial (by simp +contextual -dsimp only [↓SD, SU, SB, simprocAttr]) (by simp +contextual -dsimp only [↓SD, SU, SB, simprocAttr]) ?_
 intro _ _
 simp +contextual -dsimp (maxSteps := 2000000) only [↓SD, SU, SB, simprocAttr]
theorem progB_ty {p : Program} (h : progB p = true) : p.types.all typeB = true := by
 rw [progB_as, shapeP_as] at h
 simp only [Bool.and_eq_true] at h
 exact h.1.2
set_option maxHeartbeats 4000000 in
theorem printUnit_ok (ts : List TypeD) (hx : Bulk.bulk (unitP ts) ≤ 4294967296) : CallsF Tryz.prog 90 [.agg [.sl (ts.map av), .sl [.agg [.int .i64 12, .int .i64 0, .int .i64 0, .str (bs []), .sl [], .sl []]]]] (.str (unitS ts)) := by
 have CO := specProgramOk_ok (unitP ts) hx
 refine ir_spec_PrintProgram.F rfl (by simp; rw [← av_unit]; exact AVal.clean _) (AvPure.str _) ?_
 have hxb : Bulk.bulk (unitP ts) = Bulk.bulk ts + Bulk.bulk (unitP ts).nodes + 1 := rfl
 have htl := bulk_length ts
 have hts := bulk_sumL ts
 rw [av_unit] at CO
 cases hb : progB (unitP ts) with
 | false =>
  rw [hb] at CO
  rw [unitS, if_neg (by rw [hb]; simp)]
  simp +contextual -dsimp (maxSteps := 2000000) only [↓SD, SU, SB, simprocAttr, ir_spec_PrintProgram]
  refine aCallK_of _ CO ?_
  simp +contextual -dsimp (maxSteps := 2000000) only [↓SD, SU, SB, simprocAttr]
 | true =>
  rw [hb] at CO
  rw [unitS, if_pos hb]
  have hty := progB_ty hb
  have hty2 : ts.all typeB = true := hty
  simp +contextual -dsimp (maxSteps := 2000000) only [↓SD, SU, SB, simprocAttr, ir_spec_PrintProgram]
  refine aCallK_of _ CO ?_
  simp +contextual -dsimp (maxSteps := 2000000) only [↓SD, SU, SB, simprocAttr, map_len]
  refine aLoop_of (X := Nat × ByteArray) (fun x => ⟨[(1, .obj [.sl (ts.map av), .sl [.agg [.int .i64 12, .int .i64 0, .int .i64 0, .str (bs []), .sl [], .sl []]]]), (3, .str x.2), (12, .sl (ts.map av)), (13, .int .i64 ts.length), (14, .int .i64 x.1)], []⟩) (fun x => x.1 ≤ ts.length ∧ typesF x.2 (ts.drop x.1) = typesF (bs []) ts ∧ x.2.size + 200 * ((ts.drop x.1).map Bulk.bulk).sum ≤ 200 * (ts.map Bulk.bulk).sum) (fun x => ts.length - x.1) (0, bs []) ⟨Nat.zero_le _, rfl, by dsimp only; rw [List.drop_zero]; have : (bs []).size = 0 := rfl; omega⟩ (by simp +contextual -dsimp only [↓SD, SU, SB, simprocAttr]) trivial ?_
  rintro ⟨j, s⟩ ⟨hj, hq, hs⟩
  dsimp only at hj hq hs ⊢
  by_cases hlt : j < ts.length
  ·have e1 := getD_map av ts j .top hlt
   have hbd := bsum_drop ts j hlt
   have htm := bulk_mem (List.getElem_mem hlt)
   have hjb := List.all_eq_true.1 hty2 ts[j] (List.getElem_mem hlt)
   have hst := typeStep_le hjb s
   have hq2 : typesF (typeStep s ts[j]) (ts.drop (j + 1)) = typesF (bs []) ts := by rw [← hq, List.drop_eq_getElem_cons hlt]; rfl
   generalize ts[j] = t at *
   obtain ⟨tn, tp, cs⟩ := t
   rw [av_TypeD] at e1
   dsimp only at e1
   have hjb2 := hjb
   unfold typeB at hjb2
   simp only [Bool.and_eq_true, decide_eq_true_eq] at hjb2
   obtain ⟨⟨⟨_, hpar⟩, _⟩, hcs⟩ := hjb2
   have t2 : Bulk.bulk (⟨tn, tp, cs⟩ : TypeD) = Bulk.bulk tn + Bulk.bulk tp + Bulk.bulk cs + 1 := rfl
   have t3 : Bulk.bulk tn = tn.size + 1 := rfl
   have t4 := bulk_sumL cs
   have t5 := parS_le tp
   have t6 := bulk_length cs
   have g1 : (bs [116, 121, 112, 101, 32]).size = 5 := rfl
   have g2 : (bs [32, 61, 32]).size = 3 := rfl
   have g3 : (bs [59, 32]).size = 2 := rfl
   obtain ⟨s0, hs0⟩ : ∃ s0, s0 = s ++ bs [116, 121, 112, 101, 32] ++ parS tp ++ tn ++ bs [32, 61, 32] := ⟨_, rfl⟩
   have hs0s := congrArg ByteArray.size hs0
   simp only [ByteArray.size_append] at hs0s
   have hfin : typeStep s ⟨tn, tp, cs⟩ = consF s0 0 cs ++ bs [59, 32] := by rw [hs0]; rfl
   rw [hfin] at hst hq2
   clear hfin
   rw [ByteArray.size_append] at hst
   have hpc : tp = 0 ∨ tp = 1 ∨ tp = 2 := by omega
   have hP0 : parS 0 = bs [] := rfl
   have hP1 : parS 1 = bs [39, 97, 32] := rfl
   have hP2 : parS 2 = bs [40, 39, 97, 44, 32, 39, 98, 41, 32] := rfl
   rcases hpc with rfl | rfl | rfl
   all_goals
    simp only [hP0, hP1, hP2] at hs0 hs0s t5
    simp +contextual -dsimp (maxSteps := 2000000) only [↓SD, SU, SB, simprocAttr, map_len, hlt, e1]
    intro v5
    refine ⟨by unfold maxLen; omega, by simp only [ByteArray.size_append]; unfold maxLen; omega, by simp only [ByteArray.size_append]; unfold maxLen; omega, by simp only [ByteArray.size_append]; unfold maxLen; omega, ?_⟩
    rw [← hs0]
    clear hP0 hP1 hP2 hs0
    refine aLoop_of (X := Nat × ByteArray) (fun x => ⟨[(1, .obj [.sl (ts.map av), .sl [.agg [.int .i64 12, .int .i64 0, .int .i64 0, .str (bs []), .sl [], .sl []]]]), (3, .str x.2), (12, .sl (ts.map av)), (13, .int .i64 ts.length), (14, .int .i64 j), (31, .sl (cs.map av)), (32, .int .i64 cs.length), (33, .int .i64 x.1)], []⟩) (fun x => x.1 ≤ cs.length ∧ consF x.2 x.1 (cs.drop x.1) = consF s0 0 cs ∧ x.2.size + 100 * ((cs.drop x.1).map Bulk.bulk).sum ≤ s0.size + 100 * (cs.map Bulk.bulk).sum) (fun x => cs.length - x.1) (0, s0) ⟨Nat.zero_le _, rfl, by dsimp only; rw [List.drop_zero]; exact Nat.le_refl _⟩ (by simp +contextual -dsimp only [↓SD, SU, SB, simprocAttr]) trivial ?_
    rintro ⟨i, s1⟩ ⟨hi, hqi, hsi⟩
    dsimp only at hi hqi hsi ⊢
    by_cases hlt2 : i < cs.length
    ·have e2 := getD_map av cs i .top hlt2
     have hbd2 := bsum_drop cs i hlt2
     have hcm := bulk_mem (List.getElem_mem hlt2)
     have hcb := List.all_eq_true.1 hcs cs[i] (List.getElem_mem hlt2)
     have hcl := conStep_le hcb s1 i
     have hqi2 : consF (conStep s1 i cs[i]) (i + 1) (cs.drop (i + 1)) = consF s0 0 cs := by rw [← hqi, List.drop_eq_getElem_cons hlt2, consF]
     generalize cs[i] = c at *
     obtain ⟨cn, ch, ⟨items⟩⟩ := c
     rw [av_Con] at e2
     have hty3 := fun h => conOkB_ty hcb h
     dsimp only at e2 hcl hty3
     have c2 : Bulk.bulk (⟨cn, ch, ⟨items⟩⟩ : Con) = Bulk.bulk cn + Bulk.bulk ch + (Bulk.bulk items + 1) + 1 := rfl
     have c3 : Bulk.bulk cn = cn.size + 1 := rfl
     have k1 : (bs [32, 124, 32]).size = 3 := rfl
     have k2 : (bs [32, 111, 102, 32]).size = 4 := rfl
     have hil := bulk_length items
     obtain ⟨s2, hs2⟩ : ∃ s2, s2 = conStep s1 i ⟨cn, ch, ⟨items⟩⟩ := ⟨_, rfl⟩
     rw [← hs2] at hqi2 hcl
     clear hqi
     rcases Nat.lt_or_ge 0 i with h0 | h0
     all_goals cases ch
     ·have hi1 : (0 : Int) < (i : Int) := by omega
      have hs3 : s2 = (s1 ++ bs [32, 124, 32]) ++ cn := by rw [hs2, conStep]; simp only [if_pos h0, Bool.false_eq_true, if_false]
      clear hs2
      have hs4 := congrArg ByteArray.size hs3
      simp only [ByteArray.size_append] at hs4
      simp +contextual -dsimp (maxSteps := 2000000) only [↓SD, SU, SB, simprocAttr, map_len, hlt2, e2, hi1]
      intro v7
      try simp only [ByteArray.size_append]
      refine ⟨by unfold maxLen; omega, by unfold maxLen; omega, ?_⟩
      rw [← hs3]
      exact ⟨by omega, Goes.le ⟨(i + 1, s2), ⟨⟨hlt2, hqi2, by dsimp only; omega⟩, (by first | omega | (simp only; omega))⟩, rfl⟩ (by simp +contextual -dsimp only [↓SD, SU, SB, simprocAttr, Int.natCast_add]) trivial⟩
     ·have hi1 : (0 : Int) < (i : Int) := by omega
      have hs3 : s2 = (s1 ++ bs [32, 124, 32]) ++ cn ++ bs [32, 111, 102, 32] ++ tyS items (items.length + 1) 0 := by rw [hs2, conStep]; simp only [if_pos h0, if_true]
      have hty4 := tyB_facts (hty3 rfl)
      have CT := l04Ty_ok items (by omega) hty4.1 (items.length + 1) 0 _ (by omega) hty4.2
      have hT := hcl.2 rfl
      generalize tyS items (items.length + 1) 0 = T at *
      clear hs2
      have hs4 := congrArg ByteArray.size hs3
      simp only [ByteArray.size_append] at hs4
      simp +contextual -dsimp (maxSteps := 2000000) only [↓SD, SU, SB, simprocAttr, map_len, hlt2, e2, hi1]
      intro v7
      try simp only [ByteArray.size_append]
      refine ⟨by unfold maxLen; omega, by unfold maxLen; omega, by unfold maxLen; omega, ?_⟩
      refine aCallK_of _ CT ?_
      simp +contextual -dsimp (maxSteps := 2000000) only [↓SD, SU, SB, simprocAttr, ByteArray.size_append]
      refine ⟨by unfold maxLen; omega, ?_⟩
      rw [← hs3]
      exact ⟨by omega, Goes.le ⟨(i + 1, s2), ⟨⟨hlt2, hqi2, by dsimp only; omega⟩, (by first | omega | (simp only; omega))⟩, rfl⟩ (by simp +contextual -dsimp only [↓SD, SU, SB, simprocAttr, Int.natCast_add]) trivial⟩
     ·have hi1 : ¬ (0 : Int) < (i : Int) := by omega
      have hs3 : s2 = s1 ++ cn := by rw [hs2, conStep]; simp only [if_neg (Nat.not_lt.2 h0), Bool.false_eq_true, if_false]
      clear hs2
      have hs4 := congrArg ByteArray.size hs3
      simp only [ByteArray.size_append] at hs4
      simp +contextual -dsimp (maxSteps := 2000000) only [↓SD, SU, SB, simprocAttr, map_len, hlt2, e2, hi1]
      intro v7
      try simp only [ByteArray.size_append]
      refine ⟨by unfold maxLen; omega, ?_⟩
      rw [← hs3]
      exact ⟨by omega, Goes.le ⟨(i + 1, s2), ⟨⟨hlt2, hqi2, by dsimp only; omega⟩, (by first | omega | (simp only; omega))⟩, rfl⟩ (by simp +contextual -dsimp only [↓SD, SU, SB, simprocAttr, Int.natCast_add]) trivial⟩
     ·have hi1 : ¬ (0 : Int) < (i : Int) := by omega
      have hs3 : s2 = s1 ++ cn ++ bs [32, 111, 102, 32] ++ tyS items (items.length + 1) 0 := by rw [hs2, conStep]; simp only [if_neg (Nat.not_lt.2 h0), if_true]
      have hty4 := tyB_facts (hty3 rfl)
      have CT := l04Ty_ok items (by omega) hty4.1 (items.length + 1) 0 _ (by omega) hty4.2
      have hT := hcl.2 rfl
      generalize tyS items (items.length + 1) 0 = T at *
      clear hs2
      have hs4 := congrArg ByteArray.size hs3
      simp only [ByteArray.size_append] at hs4
      simp +contextual -dsimp (maxSteps := 2000000) only [↓SD, SU, SB, simprocAttr, map_len, hlt2, e2, hi1]
      intro v7
      try simp only [ByteArray.size_append]
      refine ⟨by unfold maxLen; omega, by unfold maxLen; omega, ?_⟩
      refine aCallK_of _ CT ?_
      simp +contextual -dsimp (maxSteps := 2000000) only [↓SD, SU, SB, simprocAttr, ByteArray.size_append]
      refine ⟨by unfold maxLen; omega, ?_⟩
      rw [← hs3]
      exact ⟨by omega, Goes.le ⟨(i + 1, s2), ⟨⟨hlt2, hqi2, by dsimp only; omega⟩, (by first | omega | (simp only; omega))⟩, rfl⟩ (by simp +contextual -dsimp only [↓SD, SU, SB, simprocAttr, Int.natCast_add]) trivial⟩
    ·obtain rfl : i = cs.length := by omega
     rw [List.drop_length, consF] at hqi
     subst hqi
     simp +contextual -dsimp (maxSteps := 2000000) only [↓SD, SU, SB, simprocAttr, map_len, Nat.lt_irrefl]
     exact ⟨by unfold maxLen; omega, by omega, Goes.le ⟨(j + 1, consF s0 0 cs ++ bs [59, 32]), ⟨⟨hlt, hq2, by dsimp only; rw [ByteArray.size_append]; omega⟩, (by first | omega | (simp only; omega))⟩, rfl⟩ (by simp +contextual -dsimp only [↓SD, SU, SB, simprocAttr, Int.natCast_add]) trivial⟩
  ·obtain rfl : j = ts.length := by omega
   rw [List.drop_length] at hq
   have hq3 : s = typesF (bs []) ts := hq
   simp +contextual -dsimp (maxSteps := 2000000) only [↓SD, SU, SB, simprocAttr, map_len, Nat.lt_irrefl]
   refine aCallK_of _ (exprUnit_ok ts) ?_
   rw [List.drop_length, List.map_nil, List.sum_nil] at hs
   have g4 : (bs [40, 41]).size = 2 := rfl
   rw [hq3] at hs
   simp +contextual -dsimp (maxSteps := 2000000) only [↓SD, SU, SB, simprocAttr, hq3]
   unfold maxLen; omega
end Go.Proofs.YtjifpdcflankpaaGreat

namespace Go.Proofs.YtjifpdcflankpaaGreat
open Go.RowKit Go.Proofs.YtjifpdcflankpaaGreat.Av Go.Proofs.YtjifpdcflankpaaGreat.Ml
open Go.Proofs.YtjifpdcflankpaaGreat.Av.AVal (av)

theorem callsF_arg {P : Go.Program} {f : FuncId} {x y r : AV} (h : CallsF P f [x] r) (hy : AvPure y) (hv : ∀ S w v, VR S w mu0 v y → VR S w mu0 v x) : CallsF P f [y] r :=
 ⟨h.1, fun z hz => by rw [List.mem_singleton.1 hz]; exact hy, fun S w vs h1 h2 => h.2.2 S w vs h1 (by
  refine ⟨h2.1, fun i v z ha hb => ?_⟩
  cases i with
  | succ i => simp at hb
  | zero =>
   obtain rfl : x = z := by simpa using hb
   exact hv S w v (h2.2 0 v y ha rfl))⟩
theorem printUnit_nil (ts : List TypeD) (hx : Bulk.bulk (unitP ts) ≤ 4294967296) : CallsF Tryz.prog 90 [.agg [.sl (ts.map av), .sl [.agg [.int .i64 12, .int .i64 0, .int .i64 0, .str (bs []), .nils, .nils]]]] (.str (unitS ts)) :=
 callsF_arg (printUnit_ok ts hx) (AvPure.agg (by
  intro x hx
  simp only [List.mem_cons, List.not_mem_nil, or_false] at hx
  rcases hx with rfl | rfl
  ·exact lav_clean ts
  ·refine AvPure.sl fun e he => ?_
   rw [List.mem_singleton.1 he]
   intro x hx
   have hx2 : x ∈ [AV.int .i64 12, .int .i64 0, .int .i64 0, .str (bs []), .nils, .nils] := hx
   simp only [List.mem_cons, List.not_mem_nil, or_false] at hx2
   rcases hx2 with rfl | rfl | rfl | rfl | rfl | rfl
   ·exact pint _
   ·exact pint _
   ·exact pint _
   ·exact AvPure.str _
   ·exact AvPure.nils
   ·exact AvPure.nils)) fun S w v h => vr_unit h
end Go.Proofs.YtjifpdcflankpaaGreat
