/-
  Copy, of the program and of the reference, by abstract texts. Conditions: none.
-/
import Derived.Test.YtpignflebknagaaCopyP
import Derived.Test.YtpignflebknagaaIrCopy6
set_option linter.unusedVariables false
set_option linter.unusedSimpArgs false
set_option maxRecDepth 100000
namespace Go.Proofs.Ytpignflebknagaa
open Go.RowKit Go.Proofs.Ytpignflebknagaa.Av Go.Proofs.Ytpignflebknagaa.Ml
open Go.Proofs.Ytpignflebknagaa.Av.AVal (av)

theorem moved_ok (n : Nat) (R : List Nat) (v : Val) (hR : InO n R) (hn : n ≤ 4000) (hv : MvV n v) (hin : ∀ i, cellOf v = some i → i ∈ R) : CallsF Try.prog 37 [av v, .sl ((atL n R).map av)] (av (copyV R v)) := by
  refine fun_impl_moved rfl (by simp; exact ⟨AVal.clean v, lav_clean _⟩) (AVal.clean _) ?_
  by_cases k : v.kind = 6
  · obtain ⟨h0, hs⟩ := hv.2 k
    obtain ⟨m, hm⟩ : ∃ m : Nat, v.n = m := ⟨v.n.toNat, by omega⟩
    have hc : cellOf v = some m := by unfold cellOf; rw [if_pos k, hm, Int.toNat_natCast]
    have hmn := hv.1 m hc
    have e := getD_map av (atL n R) m .top (by rw [atL_len]; exact hmn)
    rw [atL_get R hmn, if_pos (hin m hc)] at e
    have hcp : copyV R v = ⟨6, (R.idxOf m : Int), v.s⟩ := by unfold copyV; rw [if_pos k, hm, Int.toNat_natCast, k]
    rw [hcp]
    simp +contextual -dsimp (maxSteps := 2000000) only [↓SD, SU, SB, Nat.reduceAdd, Nat.reduceBEq, Nat.reduceEqDiff, Nat.reduceLeDiff, Nat.reduceLT, Nat.reduceSub, ↓reduceIte, zA, zI, zN, reduceCtorEq, Int.reduceToNat, zE, Int.reduceEq, Int.reduceLT, Int.reduceLE, Int.reduceNeg, Int.reduceAdd, Int.reduceSub, ir_impl_moved, rs_impl_moved, av_Val, k, hm, hmn, map_len, atL_len, e, av_int]
  · have hcp : copyV R v = v := by unfold copyV; rw [if_neg k]
    rw [hcp]
    simp +contextual -dsimp (maxSteps := 2000000) only [↓SD, SU, SB, Nat.reduceAdd, Nat.reduceBEq, Nat.reduceEqDiff, Nat.reduceLeDiff, Nat.reduceLT, Nat.reduceSub, ↓reduceIte, zA, zI, zN, reduceCtorEq, Int.reduceToNat, zE, Int.reduceEq, Int.reduceLT, Int.reduceLE, Int.reduceNeg, Int.reduceAdd, Int.reduceSub, ir_impl_moved, rs_impl_moved, av_Val, k]
theorem roots_mem (h : List Cell) (roots : List Val) : ∀ v ∈ roots, ∀ i, cellOf v = some i → i ∈ reachO h roots := fun v hv i hi => (reach_pre h roots).subset (fold_mem.2 (.inr ⟨v, hv, hi⟩))
def PackPost (h : List Cell) (roots : List Val) (r : AV) (hp' : Hp) : Prop := ∃ v u, r = .tup [.row 21 v (copyH h roots).length, .row 47 u (copyR h roots).length] ∧ hp' = [(21, ⟨v, false, 43, 9, (copyH h roots).map av⟩), (47, ⟨u, false, 35, 3, (copyR h roots).map av⟩)]
theorem packed_ok (h : List Cell) (roots : List Val) (hb : heapB h roots = true) (hr : roots.length ≤ 1048576) : CallsH Try.prog 26 [.sl (h.map av), .sl (roots.map av)] [] (PackPost h roots) := by
  have hb' := hb
  simp only [heapB, Bool.and_eq_true, decide_eq_true_eq, List.all_eq_true] at hb'
  obtain ⟨⟨hn, hc⟩, hv⟩ := hb'
  have hE := reach_end (h := h) (roots := roots) (fun c hc' => ⟨fun i hi => cellOf_lt (cellB_vala (hc c hc')) hi, (cellB_valb (hc c hc')).1⟩) (fun v hv' i hi => cellOf_lt (hv v hv') hi)
  have hrm := roots_mem h roots
  have hcl := hE.closed
  have hin := hE.inn
  have hlen := hE.inn.len
  have CP := copied_ok h roots hb hr
  unfold CopPost at CP
  have hH : copyH h roots = (reachO h roots).map fun i => copyC (reachO h roots) (h.getD i noCell) := rfl
  have hRR : copyR h roots = roots.map (copyV (reachO h roots)) := rfl
  have hPost : PackPost h roots = fun r hp' => ∃ v u, r = .tup [.row 21 v ((reachO h roots).map fun i => copyC (reachO h roots) (h.getD i noCell)).length, .row 47 u (roots.map (copyV (reachO h roots))).length] ∧ hp' = [(21, ⟨v, false, 43, 9, ((reachO h roots).map fun i => copyC (reachO h roots) (h.getD i noCell)).map av⟩), (47, ⟨u, false, 35, 3, (roots.map (copyV (reachO h roots))).map av⟩)] := rfl
  clear hH hRR hE
  refine funH_impl_packed rfl ?_
  simp +contextual -dsimp (maxSteps := 2000000) only [↓SD, SU, SB, Nat.reduceAdd, Nat.reduceBEq, Nat.reduceEqDiff, Nat.reduceLeDiff, Nat.reduceLT, Nat.reduceSub, ↓reduceIte, zA, zI, zN, reduceCtorEq, Int.reduceToNat, zE, Int.reduceEq, Int.reduceLT, Int.reduceLE, Int.reduceNeg, Int.reduceAdd, Int.reduceSub, ir_impl_packed, rs_impl_packed, map_len]
  refine aCallH_of [] CP (by simp +contextual -dsimp only [↓SD, SU, SB, Nat.reduceAdd, Nat.reduceBEq, Nat.reduceEqDiff, Nat.reduceLeDiff, Nat.reduceLT, Nat.reduceSub, ↓reduceIte, zA, zI, zN, reduceCtorEq, Int.reduceToNat, zE]) ?_
  rintro r' hp' ⟨ua, uo, rfl, rfl⟩
  simp +contextual -dsimp (maxSteps := 2000000) only [↓SD, SU, SB, Nat.reduceAdd, Nat.reduceBEq, Nat.reduceEqDiff, Nat.reduceLeDiff, Nat.reduceLT, Nat.reduceSub, ↓reduceIte, zA, zI, zN, reduceCtorEq, Int.reduceToNat, zE, Int.reduceEq, Int.reduceLT, Int.reduceLE, Int.reduceNeg, Int.reduceAdd, Int.reduceSub]
  refine ghost_of (Goes.frz 16 (Goes.frz 13 (Goes.here ?_)))
  have hcells : ∀ i ∈ reachO h roots, ∃ hi : i < h.length, h.getD i noCell = h[i] ∧ MvV h.length h[i].a ∧ MvV h.length h[i].b ∧ (∀ j, cellOf h[i].a = some j → j ∈ reachO h roots) ∧ (∀ j, cellOf h[i].b = some j → j ∈ reachO h roots) := by
    intro i hi
    have hlt := hin.2 i hi
    have hg : h.getD i noCell = h[i] := by rw [List.getD_eq_getElem?_getD, List.getElem?_eq_getElem hlt]; rfl
    obtain ⟨m1, m2⟩ := cellB_mv (hc _ (List.getElem_mem hlt))
    exact ⟨hlt, hg, m1, m2, fun j hj => hcl i hi j (by unfold kid; rw [hg]; exact .inl hj), fun j hj => hcl i hi j (by unfold kid; rw [hg]; exact .inr hj)⟩
  have hmv : ∀ v, MvV h.length v → (∀ j, cellOf v = some j → j ∈ reachO h roots) → CallsF Try.prog 37 [av v, .sl ((atL h.length (reachO h roots)).map av)] (av (copyV (reachO h roots) v)) := fun v h1 h2 => moved_ok h.length (reachO h roots) v hin hn h1 h2
  rw [hPost]
  clear hPost hcl CP hb
  generalize reachO h roots = R at *
  have htA : List.take h.length ((atL h.length R).map (av : Int → AV)) = (atL h.length R).map av := List.take_of_length_le (by simp [atL])
  simp +contextual -dsimp (maxSteps := 2000000) only [↓SD, SU, SB, Nat.reduceAdd, Nat.reduceBEq, Nat.reduceEqDiff, Nat.reduceLeDiff, Nat.reduceLT, Nat.reduceSub, ↓reduceIte, zA, zI, zN, reduceCtorEq, Int.reduceToNat, zE, Int.reduceEq, Int.reduceLT, Int.reduceLE, Int.reduceNeg, Int.reduceAdd, Int.reduceSub, map_len, map_nop, intsO_len, atL_len, Nat.le_refl]
  intro v0
  refine aLoop_of (X := Nat × Nat) (fun x => ⟨[(0, .sl (h.map av)), (1, .sl (roots.map av)), (7, .row 16 ua h.length), (8, .row 21 x.2 x.1), (22, .row 13 uo R.length), (23, .int .i64 R.length), (24, .int .i64 x.1)], [(21, ⟨x.2, false, 43, 9, ((R.take x.1).map fun i => copyC R (h.getD i noCell)).map av⟩), (13, ⟨uo, true, 3, 1, (intsO R).map av⟩), (16, ⟨ua, true, 3, 1, (atL h.length R).map av⟩)]⟩) (fun x => x.1 ≤ R.length) (fun x => R.length - x.1) (0, v0) (Nat.zero_le _) (by simp +contextual -dsimp only [↓SD, SU, SB, Nat.reduceAdd, Nat.reduceBEq, Nat.reduceEqDiff, Nat.reduceLeDiff, Nat.reduceLT, Nat.reduceSub, ↓reduceIte, zA, zI, zN, reduceCtorEq, Int.reduceToNat, zE]) (by simp +contextual -dsimp only [↓SD, SU, SB, Nat.reduceAdd, Nat.reduceBEq, Nat.reduceEqDiff, Nat.reduceLeDiff, Nat.reduceLT, Nat.reduceSub, ↓reduceIte, zA, zI, zN, reduceCtorEq, Int.reduceToNat, zE]) ?_
  rintro ⟨k, u⟩ hk
  simp only at hk
  by_cases hlt : k < R.length
  · obtain ⟨m, hm⟩ : ∃ m, m = R[k] := ⟨_, rfl⟩
    have ht : R.take (k + 1) = R.take k ++ [m] := by rw [hm]; exact List.take_succ_eq_append_getElem hlt
    obtain ⟨hmn, hg, ma, mb, ka, kb⟩ := hcells m (hm ▸ List.getElem_mem hlt)
    have e := getD_map av h m .top hmn
    have g1 : ((intsO R).map (av : Int → AV)).getD k .top = .int .i64 (m : Int) := by
      rw [getD_map av (intsO R) k .top (by rw [intsO_len]; exact hlt)]
      simp [intsO, hm, av_int]
    have CA := hmv _ ma ka
    have CB := hmv _ mb kb
    have hk2 : ((R.take k).map fun i => copyC R (h.getD i noCell)).length = k := by simp; omega
    obtain ⟨Q, hQ⟩ : ∃ Q, Q = (R.take k).map fun i => copyC R (h.getD i noCell) := ⟨_, rfl⟩
    have hQ2 : (R.take (k + 1)).map (fun i => copyC R (h.getD i noCell)) = Q ++ [copyC R h[m]] := by rw [ht, List.map_append, hQ]; simp only [List.map_cons, List.map_nil, hg]
    rw [← hQ] at hk2 ⊢
    have htq : List.take k (Q.map (av : Cell → AV)) = Q.map av := List.take_of_length_le (by simp [hk2])
    have hcc : av (copyC R h[m]) = .agg [.int .i64 h[m].kind, .int .i64 h[m].n, .str h[m].s, .int .i64 (copyV R h[m].a).kind, .int .i64 (copyV R h[m].a).n, .str (copyV R h[m].a).s, .int .i64 (copyV R h[m].b).kind, .int .i64 (copyV R h[m].b).n, .str (copyV R h[m].b).s] := av_Cell _
    clear hm hcells hmv hg
    generalize h[m] = c at *
    generalize copyV R c.a = A at *
    generalize copyV R c.b = B at *
    rw [av_Val, av_Val] at CA CB
    simp +contextual -dsimp (maxSteps := 2000000) only [↓SD, SU, SB, Nat.reduceAdd, Nat.reduceBEq, Nat.reduceEqDiff, Nat.reduceLeDiff, Nat.reduceLT, Nat.reduceSub, ↓reduceIte, zA, zI, zN, reduceCtorEq, Int.reduceToNat, zE, Int.reduceEq, Int.reduceLT, Int.reduceLE, Int.reduceNeg, Int.reduceAdd, Int.reduceSub, hlt, map_len, intsO_len, g1, hmn, e, av_Cell]
    intro v11
    simp +contextual -dsimp (maxSteps := 2000000) only [↓SD, SU, SB, Nat.reduceAdd, Nat.reduceBEq, Nat.reduceEqDiff, Nat.reduceLeDiff, Nat.reduceLT, Nat.reduceSub, ↓reduceIte, zA, zI, zN, reduceCtorEq, Int.reduceToNat, zE, Int.reduceEq, Int.reduceLT, Int.reduceLE, Int.reduceNeg, Int.reduceAdd, Int.reduceSub, map_len, map_nop, atL_len, htA, Nat.le_refl]
    refine aCallK_of _ CA ?_
    simp +contextual -dsimp (maxSteps := 2000000) only [↓SD, SU, SB, Nat.reduceAdd, Nat.reduceBEq, Nat.reduceEqDiff, Nat.reduceLeDiff, Nat.reduceLT, Nat.reduceSub, ↓reduceIte, zA, zI, zN, reduceCtorEq, Int.reduceToNat, zE, Int.reduceEq, Int.reduceLT, Int.reduceLE, Int.reduceNeg, Int.reduceAdd, Int.reduceSub, map_len, map_nop, atL_len, htA, Nat.le_refl]
    refine aCallK_of _ CB ?_
    simp +contextual -dsimp (maxSteps := 2000000) only [↓SD, SU, SB, Nat.reduceAdd, Nat.reduceBEq, Nat.reduceEqDiff, Nat.reduceLeDiff, Nat.reduceLT, Nat.reduceSub, ↓reduceIte, zA, zI, zN, reduceCtorEq, Int.reduceToNat, zE, Int.reduceEq, Int.reduceLT, Int.reduceLE, Int.reduceNeg, Int.reduceAdd, Int.reduceSub, map_len, map_nop, av_Val, htq, hk2, Nat.le_refl]
    exact ⟨⟨by omega, by unfold maxLen; omega⟩, fun u' => ⟨by omega, Goes.le ⟨(k + 1, u'), ⟨hlt, (by first | omega | (simp only; omega))⟩, rfl⟩ (by simp +contextual -dsimp only [↓SD, SU, SB, Nat.reduceAdd, Nat.reduceBEq, Nat.reduceEqDiff, Nat.reduceLeDiff, Nat.reduceLT, Nat.reduceSub, ↓reduceIte, zA, zI, zN, reduceCtorEq, Int.reduceToNat, zE, Int.natCast_add]) (by simp +contextual -dsimp only [↓SD, SU, SB, Nat.reduceAdd, Nat.reduceBEq, Nat.reduceEqDiff, Nat.reduceLeDiff, Nat.reduceLT, Nat.reduceSub, ↓reduceIte, zA, zI, zN, reduceCtorEq, Int.reduceToNat, zE, hQ2, List.map_append, hcc])⟩⟩
  · obtain rfl : k = R.length := by omega
    rw [List.take_length]
    simp +contextual -dsimp (maxSteps := 2000000) only [↓SD, SU, SB, Nat.reduceAdd, Nat.reduceBEq, Nat.reduceEqDiff, Nat.reduceLeDiff, Nat.reduceLT, Nat.reduceSub, ↓reduceIte, zA, zI, zN, reduceCtorEq, Int.reduceToNat, zE, Int.reduceEq, Int.reduceLT, Int.reduceLE, Int.reduceNeg, Int.reduceAdd, Int.reduceSub, map_len, intsO_len, Nat.lt_irrefl]
    intro v1
    obtain ⟨Q, hQ⟩ : ∃ Q, Q = R.map fun i => copyC R (h.getD i noCell) := ⟨_, rfl⟩
    have hQl : Q.length = R.length := by rw [hQ]; simp
    rw [← hQ, ← hQl]
    clear hcells hQ
    refine aLoop_of (X := Nat × Nat) (fun x => ⟨[(7, .row 16 ua h.length), (8, .row 21 u Q.length), (12, .row 47 x.2 x.1), (48, .sl (roots.map av)), (49, .int .i64 roots.length), (50, .int .i64 x.1)], [(21, ⟨u, false, 43, 9, Q.map av⟩), (47, ⟨x.2, false, 35, 3, ((roots.take x.1).map (copyV R)).map av⟩), (16, ⟨ua, true, 3, 1, (atL h.length R).map av⟩)]⟩) (fun x => x.1 ≤ roots.length) (fun x => roots.length - x.1) (0, v1) (Nat.zero_le _) (by simp +contextual -dsimp only [↓SD, SU, SB, Nat.reduceAdd, Nat.reduceBEq, Nat.reduceEqDiff, Nat.reduceLeDiff, Nat.reduceLT, Nat.reduceSub, ↓reduceIte, zA, zI, zN, reduceCtorEq, Int.reduceToNat, zE]) (by simp +contextual -dsimp only [↓SD, SU, SB, Nat.reduceAdd, Nat.reduceBEq, Nat.reduceEqDiff, Nat.reduceLeDiff, Nat.reduceLT, Nat.reduceSub, ↓reduceIte, zA, zI, zN, reduceCtorEq, Int.reduceToNat, zE]) ?_
    rintro ⟨j, u2⟩ hj
    simp only at hj
    by_cases hlj : j < roots.length
    · have e := getD_map av roots j .top hlj
      have ht : roots.take (j + 1) = roots.take j ++ [roots[j]] := List.take_succ_eq_append_getElem hlj
      have CV := hmv _ (valB_mv (hv _ (List.getElem_mem hlj))) (hrm _ (List.getElem_mem hlj))
      have hP2 : (roots.take (j + 1)).map (copyV R) = (roots.take j).map (copyV R) ++ [copyV R roots[j]] := by rw [ht, List.map_append]; rfl
      have hk2 : ((roots.take j).map (copyV R)).length = j := by simp; omega
      generalize roots[j] = v at *
      generalize (roots.take j).map (copyV R) = P at *
      have htp : List.take j (P.map (av : Val → AV)) = P.map av := List.take_of_length_le (by simp [hk2])
      have hvl : (av (copyV R v)).cells.length = 3 := AVal.len _
      rw [av_Val] at CV
      simp +contextual -dsimp (maxSteps := 2000000) only [↓SD, SU, SB, Nat.reduceAdd, Nat.reduceBEq, Nat.reduceEqDiff, Nat.reduceLeDiff, Nat.reduceLT, Nat.reduceSub, ↓reduceIte, zA, zI, zN, reduceCtorEq, Int.reduceToNat, zE, Int.reduceEq, Int.reduceLT, Int.reduceLE, Int.reduceNeg, Int.reduceAdd, Int.reduceSub, hlj, map_len, e, av_Val]
      intro v14
      simp +contextual -dsimp (maxSteps := 2000000) only [↓SD, SU, SB, Nat.reduceAdd, Nat.reduceBEq, Nat.reduceEqDiff, Nat.reduceLeDiff, Nat.reduceLT, Nat.reduceSub, ↓reduceIte, zA, zI, zN, reduceCtorEq, Int.reduceToNat, zE, Int.reduceEq, Int.reduceLT, Int.reduceLE, Int.reduceNeg, Int.reduceAdd, Int.reduceSub, map_len, map_nop, atL_len, htA, Nat.le_refl]
      refine aCallK_of _ CV ?_
      generalize copyV R v = w at *
      simp +contextual -dsimp (maxSteps := 2000000) only [↓SD, SU, SB, Nat.reduceAdd, Nat.reduceBEq, Nat.reduceEqDiff, Nat.reduceLeDiff, Nat.reduceLT, Nat.reduceSub, ↓reduceIte, zA, zI, zN, reduceCtorEq, Int.reduceToNat, zE, Int.reduceEq, Int.reduceLT, Int.reduceLE, Int.reduceNeg, Int.reduceAdd, Int.reduceSub, map_len, map_nop, av_Val, htp, hk2, Nat.le_refl]
      exact ⟨⟨by omega, by unfold maxLen; omega⟩, fun u' => ⟨by omega, Goes.le ⟨(j + 1, u'), ⟨hlj, (by first | omega | (simp only; omega))⟩, rfl⟩ (by simp +contextual -dsimp only [↓SD, SU, SB, Nat.reduceAdd, Nat.reduceBEq, Nat.reduceEqDiff, Nat.reduceLeDiff, Nat.reduceLT, Nat.reduceSub, ↓reduceIte, zA, zI, zN, reduceCtorEq, Int.reduceToNat, zE, Int.natCast_add]) (by simp +contextual -dsimp only [↓SD, SU, SB, Nat.reduceAdd, Nat.reduceBEq, Nat.reduceEqDiff, Nat.reduceLeDiff, Nat.reduceLT, Nat.reduceSub, ↓reduceIte, zA, zI, zN, reduceCtorEq, Int.reduceToNat, zE, hP2, List.map_append, av_Val])⟩⟩
    · obtain rfl : j = roots.length := by omega
      rw [List.take_length]
      simp +contextual -dsimp (maxSteps := 2000000) only [↓SD, SU, SB, Nat.reduceAdd, Nat.reduceBEq, Nat.reduceEqDiff, Nat.reduceLeDiff, Nat.reduceLT, Nat.reduceSub, ↓reduceIte, zA, zI, zN, reduceCtorEq, Int.reduceToNat, zE, Int.reduceEq, Int.reduceLT, Int.reduceLE, Int.reduceNeg, Int.reduceAdd, Int.reduceSub, Nat.lt_irrefl, map_len]
      refine Goes.post [(21, ⟨u, false, 43, 9, Q.map av⟩), (47, ⟨u2, false, 35, 3, (roots.map (copyV R)).map av⟩)] ?_
      refine And.intro (by simp +contextual -dsimp only [↓SD, SU, SB, Nat.reduceAdd, Nat.reduceBEq, Nat.reduceEqDiff, Nat.reduceLeDiff, Nat.reduceLT, Nat.reduceSub, ↓reduceIte, zA, zI, zN, reduceCtorEq, Int.reduceToNat, zE]) ⟨u, u2, ?_, rfl⟩
      simp +contextual -dsimp (maxSteps := 2000000) only [↓SD, SU, SB, Nat.reduceAdd, Nat.reduceBEq, Nat.reduceEqDiff, Nat.reduceLeDiff, Nat.reduceLT, Nat.reduceSub, ↓reduceIte, zA, zI, zN, reduceCtorEq, Int.reduceToNat, zE, map_len, Nat.le_refl]

def CopyPost (h : List Cell) (roots : List Val) (r : AV) (hp' : Hp) : Prop := (heapB h roots = false ∧ r = .tup [.nils, .nils] ∧ hp' = []) ∨ (heapB h roots = true ∧ PackPost h roots r hp')
theorem implCopy_ok (h : List Cell) (roots : List Val) (hl : h.length ≤ 1048576) (hr : roots.length ≤ 1048576) : CallsH Try.prog 13 [.sl (h.map av), .sl (roots.map av)] [] (CopyPost h roots) := by
  refine funH_impl_Copy rfl ?_
  have C := implHeapOk_ok h roots hl hr
  simp +contextual -dsimp (maxSteps := 2000000) only [↓SD, SU, SB, Nat.reduceAdd, Nat.reduceBEq, Nat.reduceEqDiff, Nat.reduceLeDiff, Nat.reduceLT, Nat.reduceSub, ↓reduceIte, zA, zI, zN, reduceCtorEq, Int.reduceToNat, zE, Int.reduceEq, Int.reduceLT, Int.reduceLE, Int.reduceNeg, Int.reduceAdd, Int.reduceSub, ir_impl_Copy, rs_impl_Copy, map_len]
  cases hb : heapB h roots with
  | false =>
    rw [hb] at C
    refine aCallK_of _ C ?_
    simp +contextual -dsimp (maxSteps := 2000000) only [↓SD, SU, SB, Nat.reduceAdd, Nat.reduceBEq, Nat.reduceEqDiff, Nat.reduceLeDiff, Nat.reduceLT, Nat.reduceSub, ↓reduceIte, zA, zI, zN, reduceCtorEq, Int.reduceToNat, zE, Int.reduceEq, Int.reduceLT, Int.reduceLE, Int.reduceNeg, Int.reduceAdd, Int.reduceSub]
    refine Goes.post [] ?_
    simp +contextual -dsimp (maxSteps := 2000000) only [↓SD, SU, SB, Nat.reduceAdd, Nat.reduceBEq, Nat.reduceEqDiff, Nat.reduceLeDiff, Nat.reduceLT, Nat.reduceSub, ↓reduceIte, zA, zI, zN, reduceCtorEq, Int.reduceToNat, zE]
    exact .inl ⟨hb, rfl, rfl⟩
  | true =>
    rw [hb] at C
    refine aCallK_of _ C ?_
    simp +contextual -dsimp (maxSteps := 2000000) only [↓SD, SU, SB, Nat.reduceAdd, Nat.reduceBEq, Nat.reduceEqDiff, Nat.reduceLeDiff, Nat.reduceLT, Nat.reduceSub, ↓reduceIte, zA, zI, zN, reduceCtorEq, Int.reduceToNat, zE, Int.reduceEq, Int.reduceLT, Int.reduceLE, Int.reduceNeg, Int.reduceAdd, Int.reduceSub]
    refine aCallH_of [] (packed_ok h roots hb hr) (by simp +contextual -dsimp only [↓SD, SU, SB, Nat.reduceAdd, Nat.reduceBEq, Nat.reduceEqDiff, Nat.reduceLeDiff, Nat.reduceLT, Nat.reduceSub, ↓reduceIte, zA, zI, zN, reduceCtorEq, Int.reduceToNat, zE]) ?_
    rintro r hp' ⟨v, u, rfl, rfl⟩
    simp +contextual -dsimp (maxSteps := 2000000) only [↓SD, SU, SB, Nat.reduceAdd, Nat.reduceBEq, Nat.reduceEqDiff, Nat.reduceLeDiff, Nat.reduceLT, Nat.reduceSub, ↓reduceIte, zA, zI, zN, reduceCtorEq, Int.reduceToNat, zE, Int.reduceEq, Int.reduceLT, Int.reduceLE, Int.reduceNeg, Int.reduceAdd, Int.reduceSub]
    refine Goes.post [(21, ⟨v, false, 43, 9, (copyH h roots).map av⟩), (47, ⟨u, false, 35, 3, (copyR h roots).map av⟩)] ?_
    simp +contextual -dsimp (maxSteps := 2000000) only [↓SD, SU, SB, Nat.reduceAdd, Nat.reduceBEq, Nat.reduceEqDiff, Nat.reduceLeDiff, Nat.reduceLT, Nat.reduceSub, ↓reduceIte, zA, zI, zN, reduceCtorEq, Int.reduceToNat, zE, map_len, Nat.le_refl]
    exact .inr ⟨hb, v, u, rfl, rfl⟩
theorem copyV_pre {o R : List Nat} (hp : o <+: R) {v : Val} (h : ∀ j, cellOf v = some j → j ∈ o) : copyV o v = copyV R v := by
  unfold copyV
  split
  · rename_i k
    have hc : cellOf v = some v.n.toNat := by unfold cellOf; rw [if_pos k]
    rw [idx_pre hp (h _ hc)]
  · rfl
theorem cell_meet {o : List Nat} {v : Val} : ∀ j, cellOf v = some j → j ∈ meetO o v := fun j hj => meetO_mem.2 (.inr hj)
structure LS where
  k : Nat
  u : Nat
  uo : Nat
structure CS where
  k : Nat
  o : List Nat
  uo : Nat
  w : Nat
def copyAV (h : List Cell) (roots : List Val) : AV := if heapB h roots then .tup [.sl ((copyH h roots).map av), .sl ((copyR h roots).map av)] else .tup [.nils, .nils]
theorem copyAV_clean (h : List Cell) (roots : List Val) : AvPure (copyAV h roots) := by
  unfold copyAV
  split
  · exact AvPure.tup (by simp; exact ⟨lav_clean _, lav_clean _⟩)
  · exact AvPure.tup (by simp; exact AvPure.nils)
end Go.Proofs.Ytpignflebknagaa
