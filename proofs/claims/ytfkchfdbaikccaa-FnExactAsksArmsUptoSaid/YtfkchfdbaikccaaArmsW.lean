/-
  AsksArms OF THE PROGRAM AND OF THE REFERENCE, by abstract texts. Conditions: none.
-/
import Derived.Test.YtfkchfdbaikccaaFAsk4
import Derived.Test.YtfkchfdbaikccaaArmsP
import Derived.Test.YtfkchfdbaikccaaOInt
import Derived.Test.YtfkchfdbaikccaaIrArms
set_option linter.unusedVariables false
set_option linter.unusedSimpArgs false
set_option maxRecDepth 100000
namespace Go.Proofs.Ytfkchfdbaikccaa
open Go.RowKit Go.Proofs.Ytfkchfdbaikccaa.Av Go.Proofs.Ytfkchfdbaikccaa.Ml
open Go.Proofs.Ytfkchfdbaikccaa.Av.AVal (av)
open OVal (ov oh on)

def endsL (l : List Ask) : List Int := (l.filter fun a => decide (a.kind = 0)).map Ask.arm
def armsL (l : List Ask) : List Int := if asksB l = true then dedI (sortI (endsL l)) else []
theorem ends_take {l : List Ask} {k : Nat} (h : k < l.length) : endsL (l.take (k + 1)) = endsL (l.take k) ++ (if l[k].kind = 0 then [l[k].arm] else []) := by
  unfold endsL
  rw [List.take_succ_eq_append_getElem h, List.filter_append, List.map_append]
  congr 1
  by_cases hk : l[k].kind = 0 <;> simp [hk]
theorem ends_nil : endsL [] = [] := rfl
theorem ends_len (l : List Ask) (k : Nat) : (endsL (l.take k)).length ≤ k := by
  unfold endsL
  rw [List.length_map]
  refine Nat.le_trans (List.length_filter_le _ _) ?_
  rw [List.length_take]; omega
theorem ins_nil' (s : Int) : Srt.ins ltI s [] = [] := rfl
theorem lt_as (a b : Int) : decide (a < b) = ltI a b := rfl
theorem l05Put_ok (l : List Int) (s : Int) (hl : l.length ≤ 2097152) : CallsF Try.prog 76 [.sl (l.map av), .int .i64 s] (.sl ((Srt.put ltI l s).map av)) := by
  refine fun_spec_l05Put rfl (by simp; exact ⟨lav_clean l, pint _⟩) (lav_clean _) ?_
  simp +contextual -dsimp (maxSteps := 2000000) only [↓SD, SU, SB, Nat.reduceAdd, Nat.reduceBEq, Nat.reduceEqDiff, Nat.reduceLeDiff, Nat.reduceLT, Nat.reduceSub, ↓reduceIte, forall_const, implies_true, ne_eq, reduceCtorEq, Int.reduceToNat, forall_eq, Int.reduceEq, Int.reduceLT, Int.reduceLE, Int.reduceNeg, Int.reduceAdd, Int.reduceSub, ir_spec_l05Put, rs_spec_l05Put, map_len]
  intro v
  refine aLoop_of (X := Nat × Nat) (fun x => ⟨[(0, .sl (l.map av)), (1, .int .i64 s), (5, .row 9 x.2 (Srt.ins ltI s (l.take x.1)).length), (6, .bool ((l.take x.1).any (ltI s))), (10, .sl (l.map av)), (11, .int .i64 l.length), (12, .int .i64 x.1)], [(9, ⟨x.2, false, 3, 1, (Srt.ins ltI s (l.take x.1)).map av⟩)]⟩) (fun x => x.1 ≤ l.length ∧ (l.take x.1).any (fun x => decide (x = s)) = false) (fun x => l.length - x.1) (0, v) ⟨Nat.zero_le _, rfl⟩ (by simp +contextual -dsimp (maxSteps := 2000000) only [↓SD, SU, SB, Nat.reduceAdd, Nat.reduceBEq, Nat.reduceEqDiff, Nat.reduceLeDiff, Nat.reduceLT, Nat.reduceSub, ↓reduceIte, forall_const, implies_true, ne_eq, reduceCtorEq, Int.reduceToNat, forall_eq, List.any_nil, ins_nil']) (by simp +contextual -dsimp (maxSteps := 2000000) only [↓SD, SU, SB, Nat.reduceAdd, Nat.reduceBEq, Nat.reduceEqDiff, Nat.reduceLeDiff, Nat.reduceLT, Nat.reduceSub, ↓reduceIte, forall_const, implies_true, ne_eq, reduceCtorEq, Int.reduceToNat, forall_eq, ins_nil']) ?_
  rintro ⟨k, u⟩ ⟨hk, ha⟩
  simp only at hk ha
  have hL := Srt.ins_len (lt := ltI) s (l.take k)
  rw [List.length_take] at hL
  by_cases hlt : k < l.length
  · have e := getD_map av l k .top hlt
    have ht : l.take (k + 1) = l.take k ++ [l[k]] := List.take_succ_eq_append_getElem hlt
    have hm := List.getElem_mem hlt
    have hsn := Srt.ins_snoc (lt := ltI) s l[k] (l.take k)
    rw [← ht] at hsn
    have han : (l.take (k + 1)).any (ltI s) = ((l.take k).any (ltI s) || ltI s l[k]) := by rw [ht, List.any_append]; simp
    have haq : (l.take (k + 1)).any (fun x => decide (x = s)) = decide (l[k] = s) := by rw [ht, List.any_append, ha]; simp
    have hput : l[k] = s → Srt.put ltI l s = l := fun h => by
      unfold Srt.put
      rw [if_pos]
      simp only [List.any_eq_true, decide_eq_true_eq]
      exact ⟨l[k], hm, h⟩
    generalize l[k] = a at *
    obtain ⟨G, hG⟩ : ∃ G, G = Srt.ins ltI s (l.take k) := ⟨_, rfl⟩
    have hGt : List.take G.length (G.map (av : Int → AV)) = G.map av := List.take_of_length_le (by simp)
    rw [← hG] at hL hsn
    have hGl : G.length ≤ l.length + 1 := by rw [hL]; split <;> omega
    rw [← hG]
    by_cases hq : a = s
    · simp +contextual -dsimp (maxSteps := 2000000) only [↓SD, SU, SB, Nat.reduceAdd, Nat.reduceBEq, Nat.reduceEqDiff, Nat.reduceLeDiff, Nat.reduceLT, Nat.reduceSub, ↓reduceIte, forall_const, implies_true, ne_eq, reduceCtorEq, Int.reduceToNat, forall_eq, Int.reduceEq, Int.reduceLT, Int.reduceLE, Int.reduceNeg, Int.reduceAdd, Int.reduceSub, map_len, hlt, e, av_int, hq]
      rw [hput hq]
    · rw [decide_eq_false hq] at haq
      cases hd : (l.take k).any (ltI s)
      · cases hls : ltI s a
        · rw [hd, hls] at han hsn
          simp only [Bool.false_or] at han
          simp only [Bool.false_eq_true, and_false, if_false] at hsn
          simp +contextual -dsimp (maxSteps := 2000000) only [↓SD, SU, SB, Nat.reduceAdd, Nat.reduceBEq, Nat.reduceEqDiff, Nat.reduceLeDiff, Nat.reduceLT, Nat.reduceSub, ↓reduceIte, forall_const, implies_true, ne_eq, reduceCtorEq, Int.reduceToNat, forall_eq, Int.reduceEq, Int.reduceLT, Int.reduceLE, Int.reduceNeg, Int.reduceAdd, Int.reduceSub, map_len, hlt, e, av_int, hq, hd, lt_as, hls, hGt]
          refine ⟨⟨by omega, by unfold maxLen; omega⟩, fun u' => ⟨by omega, Goes.le ⟨(k + 1, u'), ⟨⟨hlt, haq⟩, (by first | omega | (simp only; omega))⟩, rfl⟩ (by simp +contextual -dsimp (maxSteps := 2000000) only [↓SD, SU, SB, Nat.reduceAdd, Nat.reduceBEq, Nat.reduceEqDiff, Nat.reduceLeDiff, Nat.reduceLT, Nat.reduceSub, ↓reduceIte, forall_const, implies_true, ne_eq, reduceCtorEq, Int.reduceToNat, forall_eq, Int.natCast_add, hsn, han, List.length_append]) (by simp +contextual -dsimp (maxSteps := 2000000) only [↓SD, SU, SB, Nat.reduceAdd, Nat.reduceBEq, Nat.reduceEqDiff, Nat.reduceLeDiff, Nat.reduceLT, Nat.reduceSub, ↓reduceIte, forall_const, implies_true, ne_eq, reduceCtorEq, Int.reduceToNat, forall_eq, hsn, List.map_append, av_int])⟩⟩
        · rw [hd, hls] at han hsn
          simp only [Bool.false_or] at han
          simp only [and_self, if_true] at hsn
          have hG1 : (G.map (av : Int → AV) ++ [AV.int .i64 s]).length = G.length + 1 := by simp
          have hG2 : List.take (G.length + 1) (G.map (av : Int → AV) ++ [AV.int .i64 s]) = G.map av ++ [AV.int .i64 s] := List.take_of_length_le (by simp)
          simp +contextual -dsimp (maxSteps := 2000000) only [↓SD, SU, SB, Nat.reduceAdd, Nat.reduceBEq, Nat.reduceEqDiff, Nat.reduceLeDiff, Nat.reduceLT, Nat.reduceSub, ↓reduceIte, forall_const, implies_true, ne_eq, reduceCtorEq, Int.reduceToNat, forall_eq, Int.reduceEq, Int.reduceLT, Int.reduceLE, Int.reduceNeg, Int.reduceAdd, Int.reduceSub, map_len, hlt, e, av_int, hq, hd, lt_as, hls, hGt, hG1, hG2]
          refine ⟨⟨by omega, by unfold maxLen; omega⟩, fun u1 => ⟨⟨by omega, by unfold maxLen; omega⟩, fun u' => ⟨by omega, Goes.le ⟨(k + 1, u'), ⟨⟨hlt, haq⟩, (by first | omega | (simp only; omega))⟩, rfl⟩ (by simp +contextual -dsimp (maxSteps := 2000000) only [↓SD, SU, SB, Nat.reduceAdd, Nat.reduceBEq, Nat.reduceEqDiff, Nat.reduceLeDiff, Nat.reduceLT, Nat.reduceSub, ↓reduceIte, forall_const, implies_true, ne_eq, reduceCtorEq, Int.reduceToNat, forall_eq, Int.natCast_add, hsn, han, List.length_append]) (by simp +contextual -dsimp (maxSteps := 2000000) only [↓SD, SU, SB, Nat.reduceAdd, Nat.reduceBEq, Nat.reduceEqDiff, Nat.reduceLeDiff, Nat.reduceLT, Nat.reduceSub, ↓reduceIte, forall_const, implies_true, ne_eq, reduceCtorEq, Int.reduceToNat, forall_eq, hsn, List.map_append, av_int, List.append_assoc])⟩⟩⟩
      · rw [hd] at han hsn
        simp only [Bool.true_or] at han
        simp only [Bool.true_eq_false, false_and, if_false] at hsn
        simp +contextual -dsimp (maxSteps := 2000000) only [↓SD, SU, SB, Nat.reduceAdd, Nat.reduceBEq, Nat.reduceEqDiff, Nat.reduceLeDiff, Nat.reduceLT, Nat.reduceSub, ↓reduceIte, forall_const, implies_true, ne_eq, reduceCtorEq, Int.reduceToNat, forall_eq, Int.reduceEq, Int.reduceLT, Int.reduceLE, Int.reduceNeg, Int.reduceAdd, Int.reduceSub, map_len, hlt, e, av_int, hq, hd, lt_as, hGt]
        refine ⟨⟨by omega, by unfold maxLen; omega⟩, fun u' => ⟨by omega, Goes.le ⟨(k + 1, u'), ⟨⟨hlt, haq⟩, (by first | omega | (simp only; omega))⟩, rfl⟩ (by simp +contextual -dsimp (maxSteps := 2000000) only [↓SD, SU, SB, Nat.reduceAdd, Nat.reduceBEq, Nat.reduceEqDiff, Nat.reduceLeDiff, Nat.reduceLT, Nat.reduceSub, ↓reduceIte, forall_const, implies_true, ne_eq, reduceCtorEq, Int.reduceToNat, forall_eq, Int.natCast_add, hsn, han, List.length_append]) (by simp +contextual -dsimp (maxSteps := 2000000) only [↓SD, SU, SB, Nat.reduceAdd, Nat.reduceBEq, Nat.reduceEqDiff, Nat.reduceLeDiff, Nat.reduceLT, Nat.reduceSub, ↓reduceIte, forall_const, implies_true, ne_eq, reduceCtorEq, Int.reduceToNat, forall_eq, hsn, List.map_append, av_int])⟩⟩
  · obtain rfl : k = l.length := by omega
    rw [List.take_length] at ha hL ⊢
    have hGl : (Srt.ins ltI s l).length ≤ l.length + 1 := by rw [hL]; split <;> omega
    cases hd : l.any (ltI s)
    · have hp : Srt.put ltI l s = l ++ [s] := by unfold Srt.put; rw [ha, hd]; rfl
      rw [Srt.ins_none s hd, hp]
      have h1 : List.take l.length (l.map (av : Int → AV)) = l.map av := List.take_of_length_le (by simp)
      have h2 : l.map (av : Int → AV) ++ [AV.int .i64 s] = (l ++ [s]).map av := by simp [av_int]
      have h3 : List.take (l.length + 1) ((l ++ [s]).map (av : Int → AV)) = (l ++ [s]).map av := List.take_of_length_le (by simp)
      have h4 : (l ++ [s]).length = l.length + 1 := by simp
      simp +contextual -dsimp (maxSteps := 2000000) only [↓SD, SU, SB, Nat.reduceAdd, Nat.reduceBEq, Nat.reduceEqDiff, Nat.reduceLeDiff, Nat.reduceLT, Nat.reduceSub, ↓reduceIte, forall_const, implies_true, ne_eq, reduceCtorEq, Int.reduceToNat, forall_eq, Int.reduceEq, Int.reduceLT, Int.reduceLE, Int.reduceNeg, Int.reduceAdd, Int.reduceSub, map_len, Nat.lt_irrefl, hd, h1, h2, map_nop, h3, h4, Nat.le_refl]
      refine ⟨by omega, by unfold maxLen; omega⟩
    · have hp : Srt.put ltI l s = Srt.ins ltI s l := by unfold Srt.put; rw [ha, hd]; rfl
      rw [hp]
      have h3 : List.take (Srt.ins ltI s l).length ((Srt.ins ltI s l).map (av : Int → AV)) = (Srt.ins ltI s l).map av := List.take_of_length_le (by simp)
      simp +contextual -dsimp (maxSteps := 2000000) only [↓SD, SU, SB, Nat.reduceAdd, Nat.reduceBEq, Nat.reduceEqDiff, Nat.reduceLeDiff, Nat.reduceLT, Nat.reduceSub, ↓reduceIte, forall_const, implies_true, ne_eq, reduceCtorEq, Int.reduceToNat, forall_eq, Int.reduceEq, Int.reduceLT, Int.reduceLE, Int.reduceNeg, Int.reduceAdd, Int.reduceSub, map_len, Nat.lt_irrefl, hd, map_nop, h3, Nat.le_refl]

theorem implAsksArms_ok (nm : Nat) (l : List Ask) (hx : Bulk.bulk l ≤ 1048576) : CallsH Try.prog 37 [.agg [.sl (l.map av)]] [] (ToPost nm (armsL l)) := by
  have hl := bulk_length l
  refine funH_impl_AsksArms rfl ?_
  have C := implAsksOk_ok l hx
  simp +contextual -dsimp (maxSteps := 2000000) only [↓SD, SU, SB, Nat.reduceAdd, Nat.reduceBEq, Nat.reduceEqDiff, Nat.reduceLeDiff, Nat.reduceLT, Nat.reduceSub, ↓reduceIte, forall_const, implies_true, ne_eq, reduceCtorEq, Int.reduceToNat, forall_eq, ir_impl_AsksArms, rs_impl_AsksArms, map_len]
  cases hb : asksB l
  case false =>
    rw [hb] at C
    refine aCallK_of _ C ?_
    simp +contextual -dsimp (maxSteps := 2000000) only [↓SD, SU, SB, Nat.reduceAdd, Nat.reduceBEq, Nat.reduceEqDiff, Nat.reduceLeDiff, Nat.reduceLT, Nat.reduceSub, ↓reduceIte, forall_const, implies_true, ne_eq, reduceCtorEq, Int.reduceToNat, forall_eq]
    refine Goes.new 2 nm 3 1 rfl fun v => ?_
    refine Goes.post (oh nm (fun _ => v) ([] : List Int)) ?_
    rw [oh_ints]
    simp +contextual -dsimp (maxSteps := 2000000) only [↓SD, SU, SB, Nat.reduceAdd, Nat.reduceBEq, Nat.reduceEqDiff, Nat.reduceLeDiff, Nat.reduceLT, Nat.reduceSub, ↓reduceIte, forall_const, implies_true, ne_eq, reduceCtorEq, Int.reduceToNat, forall_eq, hg_eq]
    exact ⟨fun _ => v, by simp [armsL, hb, ov_list], by rw [armsL, if_neg (by rw [hb]; decide), oh_ints]; rfl⟩
  rw [hb] at C
  refine aCallK_of _ C ?_
  obtain ⟨hall, hn1, hn2⟩ := asksB_at hb
  simp +contextual -dsimp (maxSteps := 2000000) only [↓SD, SU, SB, Nat.reduceAdd, Nat.reduceBEq, Nat.reduceEqDiff, Nat.reduceLeDiff, Nat.reduceLT, Nat.reduceSub, ↓reduceIte, forall_const, implies_true, ne_eq, reduceCtorEq, Int.reduceToNat, forall_eq, map_len]
  intro v
  refine aLoop_of (X := Nat × Nat) (fun x => ⟨[(3, .row 9 x.2 (endsL (l.take x.1)).length), (11, .sl (l.map av)), (12, .int .i64 l.length), (13, .int .i64 x.1)], [(9, ⟨x.2, false, 3, 1, (endsL (l.take x.1)).map av⟩)]⟩) (fun x => x.1 ≤ l.length) (fun x => l.length - x.1) (0, v) (Nat.zero_le _) (by simp +contextual -dsimp (maxSteps := 2000000) only [↓SD, SU, SB, Nat.reduceAdd, Nat.reduceBEq, Nat.reduceEqDiff, Nat.reduceLeDiff, Nat.reduceLT, Nat.reduceSub, ↓reduceIte, forall_const, implies_true, ne_eq, reduceCtorEq, Int.reduceToNat, forall_eq, ends_nil]) (by simp +contextual -dsimp (maxSteps := 2000000) only [↓SD, SU, SB, Nat.reduceAdd, Nat.reduceBEq, Nat.reduceEqDiff, Nat.reduceLeDiff, Nat.reduceLT, Nat.reduceSub, ↓reduceIte, forall_const, implies_true, ne_eq, reduceCtorEq, Int.reduceToNat, forall_eq, ends_nil]) ?_
  rintro ⟨k, u⟩ hk
  dsimp only at hk ⊢
  have hle := ends_len l k
  by_cases hlt : k < l.length
  · have e := getD_map av l k .top hlt
    have ht := ends_take hlt
    generalize l[k] = a at *
    obtain ⟨G, hG⟩ : ∃ G, G = endsL (l.take k) := ⟨_, rfl⟩
    have hGt : List.take G.length (G.map (av : Int → AV)) = G.map av := List.take_of_length_le (by simp)
    rw [← hG] at ht hle ⊢
    by_cases hq : a.kind = 0
    · rw [if_pos hq] at ht
      simp +contextual -dsimp (maxSteps := 2000000) only [↓SD, SU, SB, Nat.reduceAdd, Nat.reduceBEq, Nat.reduceEqDiff, Nat.reduceLeDiff, Nat.reduceLT, Nat.reduceSub, ↓reduceIte, forall_const, implies_true, ne_eq, reduceCtorEq, Int.reduceToNat, forall_eq, Int.reduceEq, Int.reduceLT, Int.reduceLE, Int.reduceNeg, Int.reduceAdd, Int.reduceSub, map_len, hlt, e, av_Ask, hq, hGt]
      intro v2
      refine ⟨⟨by omega, by unfold maxLen; omega⟩, fun u' => ⟨by omega, Goes.le ⟨(k + 1, u'), ⟨hlt, (by first | omega | (simp only; omega))⟩, rfl⟩ (by simp +contextual -dsimp (maxSteps := 2000000) only [↓SD, SU, SB, Nat.reduceAdd, Nat.reduceBEq, Nat.reduceEqDiff, Nat.reduceLeDiff, Nat.reduceLT, Nat.reduceSub, ↓reduceIte, forall_const, implies_true, ne_eq, reduceCtorEq, Int.reduceToNat, forall_eq, Int.natCast_add, ht, List.length_append]) (by simp +contextual -dsimp (maxSteps := 2000000) only [↓SD, SU, SB, Nat.reduceAdd, Nat.reduceBEq, Nat.reduceEqDiff, Nat.reduceLeDiff, Nat.reduceLT, Nat.reduceSub, ↓reduceIte, forall_const, implies_true, ne_eq, reduceCtorEq, Int.reduceToNat, forall_eq, ht, List.map_append, av_int])⟩⟩
    · rw [if_neg hq, List.append_nil] at ht
      simp +contextual -dsimp (maxSteps := 2000000) only [↓SD, SU, SB, Nat.reduceAdd, Nat.reduceBEq, Nat.reduceEqDiff, Nat.reduceLeDiff, Nat.reduceLT, Nat.reduceSub, ↓reduceIte, forall_const, implies_true, ne_eq, reduceCtorEq, Int.reduceToNat, forall_eq, Int.reduceEq, Int.reduceLT, Int.reduceLE, Int.reduceNeg, Int.reduceAdd, Int.reduceSub, map_len, hlt, e, av_Ask, hq]
      intro v2
      refine ⟨by omega, Goes.le ⟨(k + 1, u), ⟨hlt, (by first | omega | (simp only; omega))⟩, rfl⟩ (by simp +contextual -dsimp (maxSteps := 2000000) only [↓SD, SU, SB, Nat.reduceAdd, Nat.reduceBEq, Nat.reduceEqDiff, Nat.reduceLeDiff, Nat.reduceLT, Nat.reduceSub, ↓reduceIte, forall_const, implies_true, ne_eq, reduceCtorEq, Int.reduceToNat, forall_eq, Int.natCast_add, ht]) (by simp +contextual -dsimp (maxSteps := 2000000) only [↓SD, SU, SB, Nat.reduceAdd, Nat.reduceBEq, Nat.reduceEqDiff, Nat.reduceLeDiff, Nat.reduceLT, Nat.reduceSub, ↓reduceIte, forall_const, implies_true, ne_eq, reduceCtorEq, Int.reduceToNat, forall_eq, ht])⟩
  · obtain rfl : k = l.length := by omega
    rw [List.take_length] at hle ⊢
    simp +contextual -dsimp (maxSteps := 2000000) only [↓SD, SU, SB, Nat.reduceAdd, Nat.reduceBEq, Nat.reduceEqDiff, Nat.reduceLeDiff, Nat.reduceLT, Nat.reduceSub, ↓reduceIte, forall_const, implies_true, ne_eq, reduceCtorEq, Int.reduceToNat, forall_eq, map_len, Nat.lt_irrefl]
    refine aCallH_of [9] (SortInt_ok 9 u (endsL l) (by omega)) (by simp +contextual -dsimp (maxSteps := 2000000) only [↓SD, SU, SB, Nat.reduceAdd, Nat.reduceBEq, Nat.reduceEqDiff, Nat.reduceLeDiff, Nat.reduceLT, Nat.reduceSub, ↓reduceIte, forall_const, implies_true, ne_eq, reduceCtorEq, Int.reduceToNat, forall_eq]) ?_
    rintro r hp' ⟨rfl, rfl⟩
    have hs := sortI_len (endsL l)
    simp +contextual -dsimp (maxSteps := 2000000) only [↓SD, SU, SB, Nat.reduceAdd, Nat.reduceBEq, Nat.reduceEqDiff, Nat.reduceLeDiff, Nat.reduceLT, Nat.reduceSub, ↓reduceIte, forall_const, implies_true, ne_eq, reduceCtorEq, Int.reduceToNat, forall_eq, map_len, hs]
    have CC := CompactInt_ok 9 u (sortI (endsL l)) (by omega)
    rw [hs] at CC
    refine aCallH_of [9] CC (by simp +contextual -dsimp (maxSteps := 2000000) only [↓SD, SU, SB, Nat.reduceAdd, Nat.reduceBEq, Nat.reduceEqDiff, Nat.reduceLeDiff, Nat.reduceLT, Nat.reduceSub, ↓reduceIte, forall_const, implies_true, ne_eq, reduceCtorEq, Int.reduceToNat, forall_eq]) ?_
    rintro r hp' ⟨rfl, rfl⟩
    simp +contextual -dsimp (maxSteps := 2000000) only [↓SD, SU, SB, Nat.reduceAdd, Nat.reduceBEq, Nat.reduceEqDiff, Nat.reduceLeDiff, Nat.reduceLT, Nat.reduceSub, ↓reduceIte, forall_const, implies_true, ne_eq, reduceCtorEq, Int.reduceToNat, forall_eq]
    refine Goes.trim 9 (dedI (sortI (endsL l))).length hg_eq ?_
    refine Goes.ren 2 9 nm (v := u) (n := (dedI (sortI (endsL l))).length) rfl hg_eq rfl fun v' => ?_
    refine Goes.post (oh nm (fun _ => v') (dedI (sortI (endsL l)))) ?_
    rw [oh_ints]
    have ht : List.take (dedI (sortI (endsL l))).length ((dedI (sortI (endsL l)) ++ restI (sortI (endsL l))).map (av : Int → AV)) = (dedI (sortI (endsL l))).map av := by
      rw [List.map_append, List.take_append_of_le_length (by simp), List.take_of_length_le (by simp)]
    simp +contextual -dsimp (maxSteps := 2000000) only [↓SD, SU, SB, Nat.reduceAdd, Nat.reduceBEq, Nat.reduceEqDiff, Nat.reduceLeDiff, Nat.reduceLT, Nat.reduceSub, ↓reduceIte, forall_const, implies_true, ne_eq, reduceCtorEq, Int.reduceToNat, forall_eq, hg_eq, ht]
    exact ⟨fun _ => v', by simp [armsL, hb, ov_list], by rw [armsL, if_pos hb, oh_ints]⟩
theorem specAsksArms_ok (l : List Ask) (hx : Bulk.bulk l ≤ 1048576) : CallsF Try.prog 36 [.agg [.sl (l.map av)]] (.sl ((armsL l).map av)) := by
  have hl := bulk_length l
  refine fun_spec_AsksArms rfl (by simp; exact AvPure.agg (by simp; exact lav_clean l)) (lav_clean _) ?_
  have C := specAsksOk_ok l hx
  simp +contextual -dsimp (maxSteps := 2000000) only [↓SD, SU, SB, Nat.reduceAdd, Nat.reduceBEq, Nat.reduceEqDiff, Nat.reduceLeDiff, Nat.reduceLT, Nat.reduceSub, ↓reduceIte, forall_const, implies_true, ne_eq, reduceCtorEq, Int.reduceToNat, forall_eq, ir_spec_AsksArms, rs_spec_AsksArms, map_len]
  cases hb : asksB l
  case false =>
    rw [hb] at C
    refine aCallK_of _ C ?_
    simp +contextual -dsimp (maxSteps := 2000000) only [↓SD, SU, SB, Nat.reduceAdd, Nat.reduceBEq, Nat.reduceEqDiff, Nat.reduceLeDiff, Nat.reduceLT, Nat.reduceSub, ↓reduceIte, forall_const, implies_true, ne_eq, reduceCtorEq, Int.reduceToNat, forall_eq]
    rw [armsL, if_neg (by rw [hb]; decide)]; rfl
  rw [hb] at C
  refine aCallK_of _ C ?_
  obtain ⟨hall, hn1, hn2⟩ := asksB_at hb
  simp +contextual -dsimp (maxSteps := 2000000) only [↓SD, SU, SB, Nat.reduceAdd, Nat.reduceBEq, Nat.reduceEqDiff, Nat.reduceLeDiff, Nat.reduceLT, Nat.reduceSub, ↓reduceIte, forall_const, implies_true, ne_eq, reduceCtorEq, Int.reduceToNat, forall_eq, map_len]
  refine aLoop_of (X := Nat) (fun k => ⟨[(3, .sl (((endsL (l.take k)).foldl (Srt.put ltI) []).map av)), (12, .sl (l.map av)), (13, .int .i64 l.length), (14, .int .i64 k)], []⟩) (fun k => k ≤ l.length) (fun k => l.length - k) 0 (Nat.zero_le _) (by simp +contextual -dsimp (maxSteps := 2000000) only [↓SD, SU, SB, Nat.reduceAdd, Nat.reduceBEq, Nat.reduceEqDiff, Nat.reduceLeDiff, Nat.reduceLT, Nat.reduceSub, ↓reduceIte, forall_const, implies_true, ne_eq, reduceCtorEq, Int.reduceToNat, forall_eq, ends_nil, List.foldl_nil]) trivial ?_
  rintro k hk
  by_cases hlt : k < l.length
  · have e := getD_map av l k .top hlt
    have ht := ends_take hlt
    have hle := ends_len l k
    have hfl := Srt.fold_len (lt := ltI) (endsL (l.take k)) []
    rw [List.length_nil, Nat.zero_add] at hfl
    generalize l[k] = a at *
    obtain ⟨G, hG⟩ : ∃ G, G = (endsL (l.take k)).foldl (Srt.put ltI) [] := ⟨_, rfl⟩
    have hf : (endsL (l.take (k + 1))).foldl (Srt.put ltI) [] = if a.kind = 0 then Srt.put ltI G a.arm else G := by
      rw [ht, List.foldl_append, ← hG]; split <;> rfl
    rw [← hG] at hfl ⊢
    have CP := l05Put_ok G a.arm (by omega)
    by_cases hq : a.kind = 0
    · rw [if_pos hq] at hf
      simp +contextual -dsimp (maxSteps := 2000000) only [↓SD, SU, SB, Nat.reduceAdd, Nat.reduceBEq, Nat.reduceEqDiff, Nat.reduceLeDiff, Nat.reduceLT, Nat.reduceSub, ↓reduceIte, forall_const, implies_true, ne_eq, reduceCtorEq, Int.reduceToNat, forall_eq, Int.reduceEq, Int.reduceLT, Int.reduceLE, Int.reduceNeg, Int.reduceAdd, Int.reduceSub, map_len, hlt, e, av_Ask, hq]
      intro v2
      refine aCallK_of _ CP ?_
      simp +contextual -dsimp (maxSteps := 2000000) only [↓SD, SU, SB, Nat.reduceAdd, Nat.reduceBEq, Nat.reduceEqDiff, Nat.reduceLeDiff, Nat.reduceLT, Nat.reduceSub, ↓reduceIte, forall_const, implies_true, ne_eq, reduceCtorEq, Int.reduceToNat, forall_eq]
      exact ⟨by omega, Goes.le ⟨k + 1, ⟨hlt, (by first | omega | (simp only; omega))⟩, rfl⟩ (by simp +contextual -dsimp (maxSteps := 2000000) only [↓SD, SU, SB, Nat.reduceAdd, Nat.reduceBEq, Nat.reduceEqDiff, Nat.reduceLeDiff, Nat.reduceLT, Nat.reduceSub, ↓reduceIte, forall_const, implies_true, ne_eq, reduceCtorEq, Int.reduceToNat, forall_eq, Int.natCast_add, hf]) trivial⟩
    · rw [if_neg hq] at hf
      simp +contextual -dsimp (maxSteps := 2000000) only [↓SD, SU, SB, Nat.reduceAdd, Nat.reduceBEq, Nat.reduceEqDiff, Nat.reduceLeDiff, Nat.reduceLT, Nat.reduceSub, ↓reduceIte, forall_const, implies_true, ne_eq, reduceCtorEq, Int.reduceToNat, forall_eq, Int.reduceEq, Int.reduceLT, Int.reduceLE, Int.reduceNeg, Int.reduceAdd, Int.reduceSub, map_len, hlt, e, av_Ask, hq]
      intro v2
      exact ⟨by omega, Goes.le ⟨k + 1, ⟨hlt, (by first | omega | (simp only; omega))⟩, rfl⟩ (by simp +contextual -dsimp (maxSteps := 2000000) only [↓SD, SU, SB, Nat.reduceAdd, Nat.reduceBEq, Nat.reduceEqDiff, Nat.reduceLeDiff, Nat.reduceLT, Nat.reduceSub, ↓reduceIte, forall_const, implies_true, ne_eq, reduceCtorEq, Int.reduceToNat, forall_eq, Int.natCast_add, hf]) trivial⟩
  · obtain rfl : k = l.length := by omega
    rw [List.take_length]
    simp +contextual -dsimp (maxSteps := 2000000) only [↓SD, SU, SB, Nat.reduceAdd, Nat.reduceBEq, Nat.reduceEqDiff, Nat.reduceLeDiff, Nat.reduceLT, Nat.reduceSub, ↓reduceIte, forall_const, implies_true, ne_eq, reduceCtorEq, Int.reduceToNat, forall_eq, map_len, Nat.lt_irrefl]
    rw [armsL, if_pos hb, ded_sort]
theorem armsL_len (l : List Ask) : (armsL l).length ≤ l.length := by
  unfold armsL
  split
  · have h1 := dedI_le (sortI (endsL l))
    have h2 := sortI_len (endsL l)
    have h3 := ends_len l l.length
    rw [List.take_length] at h3
    omega
  · simp
end Go.Proofs.Ytfkchfdbaikccaa
