/-
  Sweep AND Reach, of the program and of the reference, by abstract texts. Conditions: none.
-/
import Derived.Test.YtpignflebknagaaMarks
import Derived.Test.YtpignflebknagaaSortI
set_option linter.unusedVariables false
set_option linter.unusedSimpArgs false
set_option maxRecDepth 100000
namespace Go.Proofs.Ytpignflebknagaa
open Go.RowKit Go.Proofs.Ytpignflebknagaa.Av Go.Proofs.Ytpignflebknagaa.Ml
open Go.Proofs.Ytpignflebknagaa.Av.AVal (av)

/-- the places below n that p picks -/
def pickI (p : Nat → Bool) (n : Nat) : List Int := ((List.range n).filter p).map fun (i : Nat) => (i : Int)
theorem pickI_len (p : Nat → Bool) (n : Nat) : (pickI p n).length ≤ n := by
  unfold pickI; rw [List.length_map]
  have := List.length_filter_le p (List.range n)
  rwa [List.length_range] at this
theorem pickI_step (p : Nat → Bool) (n : Nat) : pickI p (n + 1) = pickI p n ++ (if p n = true then [(n : Int)] else []) := by
  unfold pickI; rw [List.range_succ, List.filter_append, List.map_append]
  congr 1
  by_cases h : p n = true <;> simp [h]
theorem sortI_pick {n : Nat} {R : List Nat} (h : InO n R) : sortI (intsO R) = pickI (fun i => decide (i ∈ R)) n := by
  have hnd : (intsO R).Nodup := by
    unfold intsO
    rw [List.nodup_iff_pairwise_ne, List.pairwise_map]
    exact List.Pairwise.imp (fun {a b} hab e => hab (by omega)) (List.nodup_iff_pairwise_ne.1 h.1)
  have hnd2 : (pickI (fun i => decide (i ∈ R)) n).Nodup := by
    unfold pickI
    rw [List.nodup_iff_pairwise_ne, List.pairwise_map]
    exact List.Pairwise.imp (fun {a b} hab e => hab (by omega)) (List.nodup_iff_pairwise_ne.1 (List.Nodup.sublist List.filter_sublist List.nodup_range))
  refine List.Perm.eq_of_pairwise (le := fun a b => a ≤ b) (fun a b _ _ h1 h2 => Int.le_antisymm h1 h2) ?_ ?_ ?_
  · have := List.pairwise_mergeSort (le := fun x y : Int => decide (x ≤ y)) (fun a b c h1 h2 => by simp at *; omega) (fun a b => by simp; omega) (intsO R)
    exact List.Pairwise.imp (fun {a b} hab => by simpa using hab) this
  · unfold pickI
    rw [List.pairwise_map]
    have h1 : (List.range n).Pairwise (· < ·) := List.pairwise_lt_range
    exact List.Pairwise.imp (fun {a b} hab => by omega) (List.Pairwise.sublist List.filter_sublist h1)
  · refine (List.mergeSort_perm _ _).trans ((List.perm_ext_iff_of_nodup hnd hnd2).2 fun a => ?_)
    unfold intsO pickI
    simp only [List.mem_map, List.mem_filter, List.mem_range, decide_eq_true_eq]
    constructor
    · rintro ⟨i, hi, rfl⟩; exact ⟨i, ⟨h.2 i hi, hi⟩, rfl⟩
    · rintro ⟨i, ⟨_, hi⟩, rfl⟩; exact ⟨i, hi, rfl⟩

def sweepP (h : List Cell) (r : List Val) (i : Nat) : Bool := !decide (i ∈ reachO h r)
def sweepL (h : List Cell) (r : List Val) : List Int := if heapB h r then pickI (sweepP h r) h.length else []
def reachL (h : List Cell) (r : List Val) : List Int := if heapB h r then pickI (fun i => decide (i ∈ reachO h r)) h.length else []
/-- a list of ints, as a row of its own; nil where there is none -/
def IntsPost (k : Nat) (l : List Int) (r : AV) (hp' : Hp) : Prop := (r = .nils ∧ hp' = [] ∧ l = []) ∨ ∃ v, r = .row k v l.length ∧ hp' = [(k, ⟨v, false, 3, 1, l.map av⟩)]
/-- the same, and which of the two it is -/
def IntsPostB (b : Bool) (k : Nat) (l : List Int) (r : AV) (hp' : Hp) : Prop := (b = false ∧ r = .nils ∧ hp' = [] ∧ l = []) ∨ (b = true ∧ ∃ v, r = .row k v l.length ∧ hp' = [(k, ⟨v, false, 3, 1, l.map av⟩)])
theorem IntsPostB.weak {b : Bool} {k : Nat} {l : List Int} {r : AV} {hp' : Hp} (h : IntsPostB b k l r hp') : IntsPost k l r hp' := by
  rcases h with ⟨_, h⟩ | ⟨_, h⟩
  · exact .inl h
  · exact .inr h
theorem implSweep_okB (h : List Cell) (r : List Val) (hl : h.length ≤ 1048576) (hr : r.length ≤ 1048576) : CallsH Try.prog 7 [.sl (h.map av), .sl (r.map av)] [] (IntsPostB (heapB h r) 20 (sweepL h r)) := by
  refine funH_impl_Sweep rfl ?_
  have C := implHeapOk_ok h r hl hr
  simp +contextual -dsimp (maxSteps := 2000000) only [↓SD, SU, SB, Nat.reduceAdd, Nat.reduceBEq, Nat.reduceEqDiff, Nat.reduceLeDiff, Nat.reduceLT, Nat.reduceSub, ↓reduceIte, zA, zI, zN, reduceCtorEq, Int.reduceToNat, zE, Int.reduceEq, Int.reduceLT, Int.reduceLE, Int.reduceNeg, Int.reduceAdd, Int.reduceSub, ir_impl_Sweep, rs_impl_Sweep, map_len]
  cases hb : heapB h r with
  | false =>
    rw [hb] at C
    refine aCallK_of _ C ?_
    simp +contextual -dsimp (maxSteps := 2000000) only [↓SD, SU, SB, Nat.reduceAdd, Nat.reduceBEq, Nat.reduceEqDiff, Nat.reduceLeDiff, Nat.reduceLT, Nat.reduceSub, ↓reduceIte, zA, zI, zN, reduceCtorEq, Int.reduceToNat, zE, Int.reduceEq, Int.reduceLT, Int.reduceLE, Int.reduceNeg, Int.reduceAdd, Int.reduceSub]
    refine Goes.post [] ?_
    simp +contextual -dsimp (maxSteps := 2000000) only [↓SD, SU, SB, Nat.reduceAdd, Nat.reduceBEq, Nat.reduceEqDiff, Nat.reduceLeDiff, Nat.reduceLT, Nat.reduceSub, ↓reduceIte, zA, zI, zN, reduceCtorEq, Int.reduceToNat, zE]
    exact .inl ⟨rfl, rfl, rfl, by simp [sweepL, hb]⟩
  | true =>
    rw [hb] at C
    have hn : h.length ≤ 4000 := by simp [heapB] at hb; exact hb.1.1
    have hs : sweepL h r = pickI (sweepP h r) h.length := by simp [sweepL, hb]
    rw [hs]
    refine aCallK_of _ C ?_
    simp +contextual -dsimp (maxSteps := 2000000) only [↓SD, SU, SB, Nat.reduceAdd, Nat.reduceBEq, Nat.reduceEqDiff, Nat.reduceLeDiff, Nat.reduceLT, Nat.reduceSub, ↓reduceIte, zA, zI, zN, reduceCtorEq, Int.reduceToNat, zE, Int.reduceEq, Int.reduceLT, Int.reduceLE, Int.reduceNeg, Int.reduceAdd, Int.reduceSub]
    refine aCallH_of [] (copied_ok h r hb hr) (by simp +contextual -dsimp only [↓SD, SU, SB, Nat.reduceAdd, Nat.reduceBEq, Nat.reduceEqDiff, Nat.reduceLeDiff, Nat.reduceLT, Nat.reduceSub, ↓reduceIte, zA, zI, zN, reduceCtorEq, Int.reduceToNat, zE]) ?_
    rintro r' hp' ⟨ua, uo, rfl, rfl⟩
    simp +contextual -dsimp (maxSteps := 2000000) only [↓SD, SU, SB, Nat.reduceAdd, Nat.reduceBEq, Nat.reduceEqDiff, Nat.reduceLeDiff, Nat.reduceLT, Nat.reduceSub, ↓reduceIte, zA, zI, zN, reduceCtorEq, Int.reduceToNat, zE, Int.reduceEq, Int.reduceLT, Int.reduceLE, Int.reduceNeg, Int.reduceAdd, Int.reduceSub, map_len]
    intro u
    refine aLoop_of (X := Nat × Nat) (fun x => ⟨[(7, .row 20 x.2 (pickI (sweepP h r) x.1).length), (21, .row 16 ua h.length), (22, .int .i64 h.length), (23, .int .i64 x.1)], [(20, ⟨x.2, false, 3, 1, (pickI (sweepP h r) x.1).map av⟩), (16, ⟨ua, false, 3, 1, (atL h.length (reachO h r)).map av⟩)]⟩) (fun x => x.1 ≤ h.length) (fun x => h.length - x.1) (0, u) (Nat.zero_le _) (by simp +contextual -dsimp only [↓SD, SU, SB, Nat.reduceAdd, Nat.reduceBEq, Nat.reduceEqDiff, Nat.reduceLeDiff, Nat.reduceLT, Nat.reduceSub, ↓reduceIte, zA, zI, zN, reduceCtorEq, Int.reduceToNat, zE, pickI, List.range_zero, List.filter_nil]) (by simp +contextual -dsimp only [↓SD, SU, SB, Nat.reduceAdd, Nat.reduceBEq, Nat.reduceEqDiff, Nat.reduceLeDiff, Nat.reduceLT, Nat.reduceSub, ↓reduceIte, zA, zI, zN, reduceCtorEq, Int.reduceToNat, zE, pickI, List.range_zero, List.filter_nil]) ?_
    rintro ⟨k, v⟩ hk
    simp only at hk
    have hst := pickI_step (sweepP h r) k
    have hpl := pickI_len (sweepP h r) k
    obtain ⟨L, hL⟩ : ∃ L, L = pickI (sweepP h r) k := ⟨_, rfl⟩
    rw [← hL] at hst hpl ⊢
    have ht : List.take L.length (L.map (av : Int → AV)) = L.map av := List.take_of_length_le (by simp)
    by_cases hlt : k < h.length
    · have e := getD_map av (atL h.length (reachO h r)) k .top (by rw [atL_len]; exact hlt)
      rw [atL_get _ hlt] at e
      by_cases hm : k ∈ reachO h r
      · rw [if_pos hm] at e
        rw [if_neg (by simp [sweepP, hm]), List.append_nil] at hst
        have h0 : ¬ (((reachO h r).idxOf k : Nat) : Int) < 0 := by omega
        simp +contextual -dsimp (maxSteps := 2000000) only [↓SD, SU, SB, Nat.reduceAdd, Nat.reduceBEq, Nat.reduceEqDiff, Nat.reduceLeDiff, Nat.reduceLT, Nat.reduceSub, ↓reduceIte, zA, zI, zN, reduceCtorEq, Int.reduceToNat, zE, Int.reduceEq, Int.reduceLT, Int.reduceLE, Int.reduceNeg, Int.reduceAdd, Int.reduceSub, hlt, map_len, atL_len, e, av_int, h0]
        exact ⟨by omega, Goes.le ⟨(k + 1, v), ⟨hlt, (by first | omega | (simp only; omega))⟩, rfl⟩ (by simp +contextual -dsimp only [↓SD, SU, SB, Nat.reduceAdd, Nat.reduceBEq, Nat.reduceEqDiff, Nat.reduceLeDiff, Nat.reduceLT, Nat.reduceSub, ↓reduceIte, zA, zI, zN, reduceCtorEq, Int.reduceToNat, zE, Int.natCast_add, hst]) (by simp +contextual -dsimp only [↓SD, SU, SB, Nat.reduceAdd, Nat.reduceBEq, Nat.reduceEqDiff, Nat.reduceLeDiff, Nat.reduceLT, Nat.reduceSub, ↓reduceIte, zA, zI, zN, reduceCtorEq, Int.reduceToNat, zE, hst])⟩
      · rw [if_neg hm] at e
        rw [if_pos (by simp [sweepP, hm])] at hst
        simp +contextual -dsimp (maxSteps := 2000000) only [↓SD, SU, SB, Nat.reduceAdd, Nat.reduceBEq, Nat.reduceEqDiff, Nat.reduceLeDiff, Nat.reduceLT, Nat.reduceSub, ↓reduceIte, zA, zI, zN, reduceCtorEq, Int.reduceToNat, zE, Int.reduceEq, Int.reduceLT, Int.reduceLE, Int.reduceNeg, Int.reduceAdd, Int.reduceSub, hlt, map_len, atL_len, e, av_int, ht, Nat.le_refl]
        exact ⟨⟨by omega, by unfold maxLen; omega⟩, fun v' => ⟨by omega, Goes.le ⟨(k + 1, v'), ⟨hlt, (by first | omega | (simp only; omega))⟩, rfl⟩ (by simp +contextual -dsimp only [↓SD, SU, SB, Nat.reduceAdd, Nat.reduceBEq, Nat.reduceEqDiff, Nat.reduceLeDiff, Nat.reduceLT, Nat.reduceSub, ↓reduceIte, zA, zI, zN, reduceCtorEq, Int.reduceToNat, zE, Int.natCast_add, hst, List.length_append]) (by simp +contextual -dsimp only [↓SD, SU, SB, Nat.reduceAdd, Nat.reduceBEq, Nat.reduceEqDiff, Nat.reduceLeDiff, Nat.reduceLT, Nat.reduceSub, ↓reduceIte, zA, zI, zN, reduceCtorEq, Int.reduceToNat, zE, hst, List.map_append, av_int])⟩⟩
    · obtain rfl : k = h.length := by omega
      simp +contextual -dsimp (maxSteps := 2000000) only [↓SD, SU, SB, Nat.reduceAdd, Nat.reduceBEq, Nat.reduceEqDiff, Nat.reduceLeDiff, Nat.reduceLT, Nat.reduceSub, ↓reduceIte, zA, zI, zN, reduceCtorEq, Int.reduceToNat, zE, Int.reduceEq, Int.reduceLT, Int.reduceLE, Int.reduceNeg, Int.reduceAdd, Int.reduceSub, Nat.lt_irrefl, map_len]
      refine Goes.post [(20, ⟨v, false, 3, 1, L.map av⟩)] ?_
      simp +contextual -dsimp (maxSteps := 2000000) only [↓SD, SU, SB, Nat.reduceAdd, Nat.reduceBEq, Nat.reduceEqDiff, Nat.reduceLeDiff, Nat.reduceLT, Nat.reduceSub, ↓reduceIte, zA, zI, zN, reduceCtorEq, Int.reduceToNat, zE, map_len, Nat.le_refl]
      exact .inr ⟨rfl, v, by rw [hL], by rw [hL]⟩
theorem implReach_okB (h : List Cell) (r : List Val) (hl : h.length ≤ 1048576) (hr : r.length ≤ 1048576) : CallsH Try.prog 6 [.sl (h.map av), .sl (r.map av)] [] (IntsPostB (heapB h r) 13 (reachL h r)) := by
  refine funH_impl_Reach rfl ?_
  have C := implHeapOk_ok h r hl hr
  simp +contextual -dsimp (maxSteps := 2000000) only [↓SD, SU, SB, Nat.reduceAdd, Nat.reduceBEq, Nat.reduceEqDiff, Nat.reduceLeDiff, Nat.reduceLT, Nat.reduceSub, ↓reduceIte, zA, zI, zN, reduceCtorEq, Int.reduceToNat, zE, Int.reduceEq, Int.reduceLT, Int.reduceLE, Int.reduceNeg, Int.reduceAdd, Int.reduceSub, ir_impl_Reach, rs_impl_Reach, map_len]
  cases hb : heapB h r with
  | false =>
    rw [hb] at C
    refine aCallK_of _ C ?_
    simp +contextual -dsimp (maxSteps := 2000000) only [↓SD, SU, SB, Nat.reduceAdd, Nat.reduceBEq, Nat.reduceEqDiff, Nat.reduceLeDiff, Nat.reduceLT, Nat.reduceSub, ↓reduceIte, zA, zI, zN, reduceCtorEq, Int.reduceToNat, zE, Int.reduceEq, Int.reduceLT, Int.reduceLE, Int.reduceNeg, Int.reduceAdd, Int.reduceSub]
    refine Goes.post [] ?_
    simp +contextual -dsimp (maxSteps := 2000000) only [↓SD, SU, SB, Nat.reduceAdd, Nat.reduceBEq, Nat.reduceEqDiff, Nat.reduceLeDiff, Nat.reduceLT, Nat.reduceSub, ↓reduceIte, zA, zI, zN, reduceCtorEq, Int.reduceToNat, zE]
    exact .inl ⟨rfl, rfl, rfl, by simp [reachL, hb]⟩
  | true =>
    rw [hb] at C
    have hb' := hb
    simp only [heapB, Bool.and_eq_true, decide_eq_true_eq, List.all_eq_true] at hb'
    obtain ⟨⟨hn, hc⟩, hv⟩ := hb'
    have hE := reach_end (h := h) (roots := r) (fun c hc' => ⟨fun i hi => cellOf_lt (cellB_vala (hc c hc')) hi, (cellB_valb (hc c hc')).1⟩) (fun v hv' i hi => cellOf_lt (hv v hv') hi)
    have hlen := hE.inn.len
    have hs : reachL h r = sortI (intsO (reachO h r)) := by rw [sortI_pick hE.inn]; simp [reachL, hb]
    have hsl : (sortI (intsO (reachO h r))).length = (intsO (reachO h r)).length := by simp [sortI]
    rw [hs]
    refine aCallK_of _ C ?_
    simp +contextual -dsimp (maxSteps := 2000000) only [↓SD, SU, SB, Nat.reduceAdd, Nat.reduceBEq, Nat.reduceEqDiff, Nat.reduceLeDiff, Nat.reduceLT, Nat.reduceSub, ↓reduceIte, zA, zI, zN, reduceCtorEq, Int.reduceToNat, zE, Int.reduceEq, Int.reduceLT, Int.reduceLE, Int.reduceNeg, Int.reduceAdd, Int.reduceSub]
    refine aCallH_of [] (copied_ok h r hb hr) (by simp +contextual -dsimp only [↓SD, SU, SB, Nat.reduceAdd, Nat.reduceBEq, Nat.reduceEqDiff, Nat.reduceLeDiff, Nat.reduceLT, Nat.reduceSub, ↓reduceIte, zA, zI, zN, reduceCtorEq, Int.reduceToNat, zE]) ?_
    rintro r' hp' ⟨ua, uo, rfl, rfl⟩
    have CS := SortInt_ok 13 uo (intsO (reachO h r)) (by rw [intsO_len]; omega)
    rw [intsO_len] at CS hsl
    simp +contextual -dsimp (maxSteps := 2000000) only [↓SD, SU, SB, Nat.reduceAdd, Nat.reduceBEq, Nat.reduceEqDiff, Nat.reduceLeDiff, Nat.reduceLT, Nat.reduceSub, ↓reduceIte, zA, zI, zN, reduceCtorEq, Int.reduceToNat, zE, Int.reduceEq, Int.reduceLT, Int.reduceLE, Int.reduceNeg, Int.reduceAdd, Int.reduceSub, map_len, intsO_len, Nat.le_refl]
    refine aCallH_of [13] CS (by simp +contextual -dsimp only [↓SD, SU, SB, Nat.reduceAdd, Nat.reduceBEq, Nat.reduceEqDiff, Nat.reduceLeDiff, Nat.reduceLT, Nat.reduceSub, ↓reduceIte, zA, zI, zN, reduceCtorEq, Int.reduceToNat, zE]) ?_
    rintro r' hp' ⟨rfl, rfl⟩
    simp +contextual -dsimp (maxSteps := 2000000) only [↓SD, SU, SB, Nat.reduceAdd, Nat.reduceBEq, Nat.reduceEqDiff, Nat.reduceLeDiff, Nat.reduceLT, Nat.reduceSub, ↓reduceIte, zA, zI, zN, reduceCtorEq, Int.reduceToNat, zE, Int.reduceEq, Int.reduceLT, Int.reduceLE, Int.reduceNeg, Int.reduceAdd, Int.reduceSub]
    refine Goes.post [(13, ⟨uo, false, 3, 1, (sortI (intsO (reachO h r))).map av⟩)] ?_
    simp +contextual -dsimp (maxSteps := 2000000) only [↓SD, SU, SB, Nat.reduceAdd, Nat.reduceBEq, Nat.reduceEqDiff, Nat.reduceLeDiff, Nat.reduceLT, Nat.reduceSub, ↓reduceIte, zA, zI, zN, reduceCtorEq, Int.reduceToNat, zE, map_len, hsl, Nat.le_refl]
    exact .inr ⟨rfl, uo, by rw [hsl], rfl⟩
theorem implSweep_ok (h : List Cell) (r : List Val) (hl : h.length ≤ 1048576) (hr : r.length ≤ 1048576) : CallsH Try.prog 7 [.sl (h.map av), .sl (r.map av)] [] (IntsPost 20 (sweepL h r)) :=
  callsH_asI (implSweep_okB h r hl hr) rfl rfl fun _ _ => IntsPostB.weak
theorem implReach_ok (h : List Cell) (r : List Val) (hl : h.length ≤ 1048576) (hr : r.length ≤ 1048576) : CallsH Try.prog 6 [.sl (h.map av), .sl (r.map av)] [] (IntsPost 13 (reachL h r)) :=
  callsH_asI (implReach_okB h r hl hr) rfl rfl fun _ _ => IntsPostB.weak
end Go.Proofs.Ytpignflebknagaa
