/-
  Copy, of the program and of the reference, by abstract texts. Conditions: none.
-/
import Derived.Test.YtpnnhgminiihnaaCopyP
import Derived.Test.YtpnnhgminiihnaaIrCopy6
set_option linter.unusedVariables false
set_option linter.unusedSimpArgs false
set_option maxRecDepth 100000
namespace Go.Proofs.Ytpnnhgminiihnaa
open Go.RowKit Go.Proofs.Ytpnnhgminiihnaa.Av Go.Proofs.Ytpnnhgminiihnaa.Ml
open Go.Proofs.Ytpnnhgminiihnaa.Av.AVal (av)

theorem moved_ok (n : Nat) (R : List Nat) (v : Val) (hR : InO n R) (hn : n ≤ 4000) (hv : MvV n v) (hin : ∀ i, cellOf v = some i → i ∈ R) : CallsF Try.prog 56 [av v, .sl ((atL n R).map av)] (av (copyV R v)) := by
  refine fun_impl_moved rfl (by simp; exact ⟨AVal.clean v, lav_clean _⟩) (AVal.clean _) ?_
  by_cases k : v.kind = 6
  · obtain ⟨h0, hs⟩ := hv.2 k
    obtain ⟨m, hm⟩ : ∃ m : Nat, v.n = m := ⟨v.n.toNat, by omega⟩
    have hc : cellOf v = some m := by unfold cellOf; rw [if_pos k, hm, Int.toNat_natCast]
    have hmn := hv.1 m hc
    have e := getD_map av (atL n R) m .top (by rw [atL_len]; exact hmn)
    rw [atL_get R hmn, if_pos (hin m hc)] at e
    have hcp : copyV R v = ⟨6, (R.idxOf m : Int), v.s⟩ := by unfold copyV; rw [if_pos k, hm, Int.toNat_natCast, k]
    rw [hcp]
    simp +contextual -dsimp (maxSteps := 2000000) only [↓SD, SU, SB, Nat.reduceAdd, Nat.reduceBEq, Nat.reduceEqDiff, Nat.reduceLeDiff, Nat.reduceLT, Nat.reduceSub, ↓reduceIte, forall_const, implies_true, ne_eq, reduceCtorEq, Int.reduceToNat, forall_eq, Int.reduceEq, Int.reduceLT, Int.reduceLE, Int.reduceNeg, Int.reduceAdd, Int.reduceSub, ir_impl_moved, rs_impl_moved, av_Val, k, hm, hmn, map_len, atL_len, e, av_int]
  · have hcp : copyV R v = v := by unfold copyV; rw [if_neg k]
    rw [hcp]
    simp +contextual -dsimp (maxSteps := 2000000) only [↓SD, SU, SB, Nat.reduceAdd, Nat.reduceBEq, Nat.reduceEqDiff, Nat.reduceLeDiff, Nat.reduceLT, Nat.reduceSub, ↓reduceIte, forall_const, implies_true, ne_eq, reduceCtorEq, Int.reduceToNat, forall_eq, Int.reduceEq, Int.reduceLT, Int.reduceLE, Int.reduceNeg, Int.reduceAdd, Int.reduceSub, ir_impl_moved, rs_impl_moved, av_Val, k]
def toHp (vt uo up n : Nat) (o : List Nat) : Hp := [(17, ⟨vt, false, 74, 2, [.agg [.row 26 uo o.length, .row 15 up n]]⟩), (26, ⟨uo, false, 3, 1, (intsO o).map av⟩), (15, ⟨up, false, 3, 1, (placeL n o).map av⟩)]
def MovePost (vt up n : Nat) (o' : List Nat) (v : Val) (r : AV) (hp' : Hp) : Prop := ∃ uo, r = av (copyV o' v) ∧ hp' = toHp vt uo up n o'
theorem l11Move_ok (vt uo up n : Nat) (o : List Nat) (v : Val) (ho : InO n o) (hn : n ≤ 4000) (hv : MvV n v) : CallsH Try.prog 55 [.ptr 17 vt 0 0, av v] (toHp vt uo up n o) (MovePost vt up n (meetO o v) v) := by
  have hol := ho.len
  refine funH_spec_l11Move rfl ?_
  unfold toHp
  by_cases k : v.kind = 6
  · obtain ⟨h0, hs⟩ := hv.2 k
    obtain ⟨m, hm⟩ : ∃ m : Nat, v.n = m := ⟨v.n.toNat, by omega⟩
    have hc : cellOf v = some m := by unfold cellOf; rw [if_pos k, hm, Int.toNat_natCast]
    have hmn := hv.1 m hc
    have e := getD_map av (placeL n o) m .top (by rw [placeL_len]; exact hmn)
    rw [placeL_get o hmn] at e
    by_cases hmo : m ∈ o
    · rw [if_pos hmo] at e
      have hmeet : meetO o v = o := by unfold meetO meetI; rw [hc]; simp [hmo]
      have hcp : copyV o v = ⟨6, (o.idxOf m : Int), bs []⟩ := by unfold copyV; rw [if_pos k, hm, Int.toNat_natCast, k, hs]
      rw [hmeet]
      have hidx : o.idxOf m < o.length := List.idxOf_lt_length_of_mem hmo
      have h1 : ¬ ((o.idxOf m : Nat) : Int) + 1 = 0 := by omega
      have h2 : ((o.idxOf m : Nat) : Int) + 1 - 1 = (o.idxOf m : Int) := by omega
      simp +contextual -dsimp (maxSteps := 2000000) only [↓SD, SU, SB, Nat.reduceAdd, Nat.reduceBEq, Nat.reduceEqDiff, Nat.reduceLeDiff, Nat.reduceLT, Nat.reduceSub, ↓reduceIte, forall_const, implies_true, ne_eq, reduceCtorEq, Int.reduceToNat, forall_eq, Int.reduceEq, Int.reduceLT, Int.reduceLE, Int.reduceNeg, Int.reduceAdd, Int.reduceSub, ir_spec_l11Move, rs_spec_l11Move, av_Val, k, hm, hmn, map_len, placeL_len, e, av_int, h1, h2]
      intro v4
      refine ⟨by omega, Goes.post (toHp vt uo up n o) ?_⟩
      unfold toHp
      simp +contextual -dsimp (maxSteps := 2000000) only [↓SD, SU, SB, Nat.reduceAdd, Nat.reduceBEq, Nat.reduceEqDiff, Nat.reduceLeDiff, Nat.reduceLT, Nat.reduceSub, ↓reduceIte, forall_const, implies_true, ne_eq, reduceCtorEq, Int.reduceToNat, forall_eq]
      exact ⟨uo, by rw [hcp]; rfl, rfl⟩
    · rw [if_neg hmo] at e
      have hmeet : meetO o v = o ++ [m] := by unfold meetO meetI; rw [hc]; simp [hmo]
      rw [hmeet]
      have hcp : copyV (o ++ [m]) v = ⟨6, (o.length : Int), bs []⟩ := by
        unfold copyV; rw [if_pos k, hm, Int.toNat_natCast, k, hs, List.idxOf_append, if_neg hmo]; simp
      have hset := placeL_set hmn hmo
      have hs2 : ((placeL n o).map (av : Int → AV)).set m (.int .i64 ((o.length + 1 : Nat) : Int)) = (placeL n (o ++ [m])).map av := by rw [← hset, List.map_set]; rfl
      have e2 := getD_map av (placeL n (o ++ [m])) m .top (by rw [placeL_len]; exact hmn)
      rw [placeL_get _ hmn, if_pos (by simp), List.idxOf_append, if_neg hmo] at e2
      have e3 : ((List.idxOf m [m] + o.length : Nat) : Int) + 1 = (o.length : Int) + 1 := by simp
      rw [e3, av_int] at e2
      have ht : List.take o.length ((intsO o).map (av : Int → AV)) = (intsO o).map av := List.take_of_length_le (by simp [intsO])
      have hi2 : (intsO o).map (av : Int → AV) ++ [AV.int .i64 (m : Int)] = (intsO (o ++ [m])).map av := by simp [intsO, av_int]
      have h2 : (o.length : Int) + 1 - 1 = (o.length : Int) := by omega
      simp +contextual -dsimp (maxSteps := 2000000) only [↓SD, SU, SB, Nat.reduceAdd, Nat.reduceBEq, Nat.reduceEqDiff, Nat.reduceLeDiff, Nat.reduceLT, Nat.reduceSub, ↓reduceIte, forall_const, implies_true, ne_eq, reduceCtorEq, Int.reduceToNat, forall_eq, Int.reduceEq, Int.reduceLT, Int.reduceLE, Int.reduceNeg, Int.reduceAdd, Int.reduceSub, ir_spec_l11Move, rs_spec_l11Move, av_Val, k, hm, hmn, map_len, placeL_len, intsO_len, e, av_int, hs2, e2, h2, ht, hi2, Nat.le_refl]
      intro v4
      refine ⟨⟨by omega, by unfold maxLen; omega⟩, fun u' => ⟨by omega, Goes.post (toHp vt u' up n (o ++ [m])) ?_⟩⟩
      have hol2 : (o ++ [m]).length = o.length + 1 := by simp
      unfold toHp
      simp +contextual -dsimp (maxSteps := 2000000) only [↓SD, SU, SB, Nat.reduceAdd, Nat.reduceBEq, Nat.reduceEqDiff, Nat.reduceLeDiff, Nat.reduceLT, Nat.reduceSub, ↓reduceIte, forall_const, implies_true, ne_eq, reduceCtorEq, Int.reduceToNat, forall_eq, hol2]
      exact ⟨u', by rw [hcp]; rfl, by unfold toHp; rw [hol2]⟩
  · have hmeet : meetO o v = o := by unfold meetO cellOf; rw [if_neg k]
    have hcp : copyV o v = v := by unfold copyV; rw [if_neg k]
    rw [hmeet]
    simp +contextual -dsimp (maxSteps := 2000000) only [↓SD, SU, SB, Nat.reduceAdd, Nat.reduceBEq, Nat.reduceEqDiff, Nat.reduceLeDiff, Nat.reduceLT, Nat.reduceSub, ↓reduceIte, forall_const, implies_true, ne_eq, reduceCtorEq, Int.reduceToNat, forall_eq, Int.reduceEq, Int.reduceLT, Int.reduceLE, Int.reduceNeg, Int.reduceAdd, Int.reduceSub, ir_spec_l11Move, rs_spec_l11Move, av_Val, k]
    intro v4
    refine Goes.post (toHp vt uo up n o) ?_
    unfold toHp
    simp +contextual -dsimp (maxSteps := 2000000) only [↓SD, SU, SB, Nat.reduceAdd, Nat.reduceBEq, Nat.reduceEqDiff, Nat.reduceLeDiff, Nat.reduceLT, Nat.reduceSub, ↓reduceIte, forall_const, implies_true, ne_eq, reduceCtorEq, Int.reduceToNat, forall_eq]
    exact ⟨uo, by rw [hcp]; rfl, rfl⟩

theorem roots_mem (h : List Cell) (roots : List Val) : ∀ v ∈ roots, ∀ i, cellOf v = some i → i ∈ reachO h roots := fun v hv i hi => (reach_pre h roots).subset (fold_mem.2 (.inr ⟨v, hv, hi⟩))
def PackPost (h : List Cell) (roots : List Val) (r : AV) (hp' : Hp) : Prop := ∃ v u, r = .tup [.row 21 v (copyH h roots).length, .row 47 u (copyR h roots).length] ∧ hp' = [(21, ⟨v, false, 53, 9, (copyH h roots).map av⟩), (47, ⟨u, false, 30, 3, (copyR h roots).map av⟩)]
theorem packed_ok (h : List Cell) (roots : List Val) (hb : heapB h roots = true) (hr : roots.length ≤ 1048576) : CallsH Try.prog 42 [.sl (h.map av), .sl (roots.map av)] [] (PackPost h roots) := by
  have hb' := hb
  simp only [heapB, Bool.and_eq_true, decide_eq_true_eq, List.all_eq_true] at hb'
  obtain ⟨⟨hn, hc⟩, hv⟩ := hb'
  have hE := reach_end (h := h) (roots := roots) (fun c hc' => ⟨fun i hi => cellOf_lt (cellB_vala (hc c hc')) hi, (cellB_valb (hc c hc')).1⟩) (fun v hv' i hi => cellOf_lt (hv v hv') hi)
  have hrm := roots_mem h roots
  have hcl := hE.closed
  have hin := hE.inn
  have hlen := hE.inn.len
  have CP := copied_ok h roots hb hr
  unfold CopPost at CP
  have hH : copyH h roots = (reachO h roots).map fun i => copyC (reachO h roots) (h.getD i noCell) := rfl
  have hRR : copyR h roots = roots.map (copyV (reachO h roots)) := rfl
  have hPost : PackPost h roots = fun r hp' => ∃ v u, r = .tup [.row 21 v ((reachO h roots).map fun i => copyC (reachO h roots) (h.getD i noCell)).length, .row 47 u (roots.map (copyV (reachO h roots))).length] ∧ hp' = [(21, ⟨v, false, 53, 9, ((reachO h roots).map fun i => copyC (reachO h roots) (h.getD i noCell)).map av⟩), (47, ⟨u, false, 30, 3, (roots.map (copyV (reachO h roots))).map av⟩)] := rfl
  clear hH hRR hE
  refine funH_impl_packed rfl ?_
  simp +contextual -dsimp (maxSteps := 2000000) only [↓SD, SU, SB, Nat.reduceAdd, Nat.reduceBEq, Nat.reduceEqDiff, Nat.reduceLeDiff, Nat.reduceLT, Nat.reduceSub, ↓reduceIte, forall_const, implies_true, ne_eq, reduceCtorEq, Int.reduceToNat, forall_eq, Int.reduceEq, Int.reduceLT, Int.reduceLE, Int.reduceNeg, Int.reduceAdd, Int.reduceSub, ir_impl_packed, rs_impl_packed, map_len]
  refine aCallH_of [] CP (by simp +contextual -dsimp (maxSteps := 2000000) only [↓SD, SU, SB, Nat.reduceAdd, Nat.reduceBEq, Nat.reduceEqDiff, Nat.reduceLeDiff, Nat.reduceLT, Nat.reduceSub, ↓reduceIte, forall_const, implies_true, ne_eq, reduceCtorEq, Int.reduceToNat, forall_eq]) ?_
  rintro r' hp' ⟨ua, uo, rfl, rfl⟩
  simp +contextual -dsimp (maxSteps := 2000000) only [↓SD, SU, SB, Nat.reduceAdd, Nat.reduceBEq, Nat.reduceEqDiff, Nat.reduceLeDiff, Nat.reduceLT, Nat.reduceSub, ↓reduceIte, forall_const, implies_true, ne_eq, reduceCtorEq, Int.reduceToNat, forall_eq, Int.reduceEq, Int.reduceLT, Int.reduceLE, Int.reduceNeg, Int.reduceAdd, Int.reduceSub]
  refine ghost_of (Goes.frz 16 (Goes.frz 13 (Goes.here ?_)))
  have hcells : ∀ i ∈ reachO h roots, ∃ hi : i < h.length, h.getD i noCell = h[i] ∧ MvV h.length h[i].a ∧ MvV h.length h[i].b ∧ (∀ j, cellOf h[i].a = some j → j ∈ reachO h roots) ∧ (∀ j, cellOf h[i].b = some j → j ∈ reachO h roots) := by
    intro i hi
    have hlt := hin.2 i hi
    have hg : h.getD i noCell = h[i] := by rw [List.getD_eq_getElem?_getD, List.getElem?_eq_getElem hlt]; rfl
    obtain ⟨m1, m2⟩ := cellB_mv (hc _ (List.getElem_mem hlt))
    exact ⟨hlt, hg, m1, m2, fun j hj => hcl i hi j (by unfold kid; rw [hg]; exact .inl hj), fun j hj => hcl i hi j (by unfold kid; rw [hg]; exact .inr hj)⟩
  have hmv : ∀ v, MvV h.length v → (∀ j, cellOf v = some j → j ∈ reachO h roots) → CallsF Try.prog 56 [av v, .sl ((atL h.length (reachO h roots)).map av)] (av (copyV (reachO h roots) v)) := fun v h1 h2 => moved_ok h.length (reachO h roots) v hin hn h1 h2
  rw [hPost]
  clear hPost hcl CP hb
  generalize reachO h roots = R at *
  have htA : List.take h.length ((atL h.length R).map (av : Int → AV)) = (atL h.length R).map av := List.take_of_length_le (by simp [atL])
  simp +contextual -dsimp (maxSteps := 2000000) only [↓SD, SU, SB, Nat.reduceAdd, Nat.reduceBEq, Nat.reduceEqDiff, Nat.reduceLeDiff, Nat.reduceLT, Nat.reduceSub, ↓reduceIte, forall_const, implies_true, ne_eq, reduceCtorEq, Int.reduceToNat, forall_eq, Int.reduceEq, Int.reduceLT, Int.reduceLE, Int.reduceNeg, Int.reduceAdd, Int.reduceSub, map_len, map_nop, intsO_len, atL_len, Nat.le_refl]
  intro v0
  refine aLoop_of (X := Nat × Nat) (fun x => ⟨[(0, .sl (h.map av)), (1, .sl (roots.map av)), (7, .row 16 ua h.length), (8, .row 21 x.2 x.1), (22, .row 13 uo R.length), (23, .int .i64 R.length), (24, .int .i64 x.1)], [(21, ⟨x.2, false, 53, 9, ((R.take x.1).map fun i => copyC R (h.getD i noCell)).map av⟩), (13, ⟨uo, true, 3, 1, (intsO R).map av⟩), (16, ⟨ua, true, 3, 1, (atL h.length R).map av⟩)]⟩) (fun x => x.1 ≤ R.length) (fun x => R.length - x.1) (0, v0) (Nat.zero_le _) (by simp +contextual -dsimp (maxSteps := 2000000) only [↓SD, SU, SB, Nat.reduceAdd, Nat.reduceBEq, Nat.reduceEqDiff, Nat.reduceLeDiff, Nat.reduceLT, Nat.reduceSub, ↓reduceIte, forall_const, implies_true, ne_eq, reduceCtorEq, Int.reduceToNat, forall_eq]) (by simp +contextual -dsimp (maxSteps := 2000000) only [↓SD, SU, SB, Nat.reduceAdd, Nat.reduceBEq, Nat.reduceEqDiff, Nat.reduceLeDiff, Nat.reduceLT, Nat.reduceSub, ↓reduceIte, forall_const, implies_true, ne_eq, reduceCtorEq, Int.reduceToNat, forall_eq]) ?_
  rintro ⟨k, u⟩ hk
  simp only at hk
  by_cases hlt : k < R.length
  · obtain ⟨m, hm⟩ : ∃ m, m = R[k] := ⟨_, rfl⟩
    have ht : R.take (k + 1) = R.take k ++ [m] := by rw [hm]; exact List.take_succ_eq_append_getElem hlt
    obtain ⟨hmn, hg, ma, mb, ka, kb⟩ := hcells m (hm ▸ List.getElem_mem hlt)
    have e := getD_map av h m .top hmn
    have g1 : ((intsO R).map (av : Int → AV)).getD k .top = .int .i64 (m : Int) := by
      rw [getD_map av (intsO R) k .top (by rw [intsO_len]; exact hlt)]
      simp [intsO, hm, av_int]
    have CA := hmv _ ma ka
    have CB := hmv _ mb kb
    have hk2 : ((R.take k).map fun i => copyC R (h.getD i noCell)).length = k := by simp; omega
    obtain ⟨Q, hQ⟩ : ∃ Q, Q = (R.take k).map fun i => copyC R (h.getD i noCell) := ⟨_, rfl⟩
    have hQ2 : (R.take (k + 1)).map (fun i => copyC R (h.getD i noCell)) = Q ++ [copyC R h[m]] := by rw [ht, List.map_append, hQ]; simp only [List.map_cons, List.map_nil, hg]
    rw [← hQ] at hk2 ⊢
    have htq : List.take k (Q.map (av : Cell → AV)) = Q.map av := List.take_of_length_le (by simp [hk2])
    have hcc : av (copyC R h[m]) = .agg [.int .i64 h[m].kind, .int .i64 h[m].n, .str h[m].s, .int .i64 (copyV R h[m].a).kind, .int .i64 (copyV R h[m].a).n, .str (copyV R h[m].a).s, .int .i64 (copyV R h[m].b).kind, .int .i64 (copyV R h[m].b).n, .str (copyV R h[m].b).s] := av_Cell _
    clear hm hcells hmv hg
    generalize h[m] = c at *
    generalize copyV R c.a = A at *
    generalize copyV R c.b = B at *
    rw [av_Val, av_Val] at CA CB
    simp +contextual -dsimp (maxSteps := 2000000) only [↓SD, SU, SB, Nat.reduceAdd, Nat.reduceBEq, Nat.reduceEqDiff, Nat.reduceLeDiff, Nat.reduceLT, Nat.reduceSub, ↓reduceIte, forall_const, implies_true, ne_eq, reduceCtorEq, Int.reduceToNat, forall_eq, Int.reduceEq, Int.reduceLT, Int.reduceLE, Int.reduceNeg, Int.reduceAdd, Int.reduceSub, hlt, map_len, intsO_len, g1, hmn, e, av_Cell]
    intro v11
    simp +contextual -dsimp (maxSteps := 2000000) only [↓SD, SU, SB, Nat.reduceAdd, Nat.reduceBEq, Nat.reduceEqDiff, Nat.reduceLeDiff, Nat.reduceLT, Nat.reduceSub, ↓reduceIte, forall_const, implies_true, ne_eq, reduceCtorEq, Int.reduceToNat, forall_eq, Int.reduceEq, Int.reduceLT, Int.reduceLE, Int.reduceNeg, Int.reduceAdd, Int.reduceSub, map_len, map_nop, atL_len, htA, Nat.le_refl]
    refine aCallK_of _ CA ?_
    simp +contextual -dsimp (maxSteps := 2000000) only [↓SD, SU, SB, Nat.reduceAdd, Nat.reduceBEq, Nat.reduceEqDiff, Nat.reduceLeDiff, Nat.reduceLT, Nat.reduceSub, ↓reduceIte, forall_const, implies_true, ne_eq, reduceCtorEq, Int.reduceToNat, forall_eq, Int.reduceEq, Int.reduceLT, Int.reduceLE, Int.reduceNeg, Int.reduceAdd, Int.reduceSub, map_len, map_nop, atL_len, htA, Nat.le_refl]
    refine aCallK_of _ CB ?_
    simp +contextual -dsimp (maxSteps := 2000000) only [↓SD, SU, SB, Nat.reduceAdd, Nat.reduceBEq, Nat.reduceEqDiff, Nat.reduceLeDiff, Nat.reduceLT, Nat.reduceSub, ↓reduceIte, forall_const, implies_true, ne_eq, reduceCtorEq, Int.reduceToNat, forall_eq, Int.reduceEq, Int.reduceLT, Int.reduceLE, Int.reduceNeg, Int.reduceAdd, Int.reduceSub, map_len, map_nop, av_Val, htq, hk2, Nat.le_refl]
    exact ⟨⟨by omega, by unfold maxLen; omega⟩, fun u' => ⟨by omega, Goes.le ⟨(k + 1, u'), ⟨hlt, (by first | omega | (simp only; omega))⟩, rfl⟩ (by simp +contextual -dsimp (maxSteps := 2000000) only [↓SD, SU, SB, Nat.reduceAdd, Nat.reduceBEq, Nat.reduceEqDiff, Nat.reduceLeDiff, Nat.reduceLT, Nat.reduceSub, ↓reduceIte, forall_const, implies_true, ne_eq, reduceCtorEq, Int.reduceToNat, forall_eq, Int.natCast_add]) (by simp +contextual -dsimp (maxSteps := 2000000) only [↓SD, SU, SB, Nat.reduceAdd, Nat.reduceBEq, Nat.reduceEqDiff, Nat.reduceLeDiff, Nat.reduceLT, Nat.reduceSub, ↓reduceIte, forall_const, implies_true, ne_eq, reduceCtorEq, Int.reduceToNat, forall_eq, hQ2, List.map_append, hcc])⟩⟩
  · obtain rfl : k = R.length := by omega
    rw [List.take_length]
    simp +contextual -dsimp (maxSteps := 2000000) only [↓SD, SU, SB, Nat.reduceAdd, Nat.reduceBEq, Nat.reduceEqDiff, Nat.reduceLeDiff, Nat.reduceLT, Nat.reduceSub, ↓reduceIte, forall_const, implies_true, ne_eq, reduceCtorEq, Int.reduceToNat, forall_eq, Int.reduceEq, Int.reduceLT, Int.reduceLE, Int.reduceNeg, Int.reduceAdd, Int.reduceSub, map_len, intsO_len, Nat.lt_irrefl]
    intro v1
    obtain ⟨Q, hQ⟩ : ∃ Q, Q = R.map fun i => copyC R (h.getD i noCell) := ⟨_, rfl⟩
    have hQl : Q.length = R.length := by rw [hQ]; simp
    rw [← hQ, ← hQl]
    clear hcells hQ
    refine aLoop_of (X := Nat × Nat) (fun x => ⟨[(7, .row 16 ua h.length), (8, .row 21 u Q.length), (12, .row 47 x.2 x.1), (48, .sl (roots.map av)), (49, .int .i64 roots.length), (50, .int .i64 x.1)], [(21, ⟨u, false, 53, 9, Q.map av⟩), (47, ⟨x.2, false, 30, 3, ((roots.take x.1).map (copyV R)).map av⟩), (16, ⟨ua, true, 3, 1, (atL h.length R).map av⟩)]⟩) (fun x => x.1 ≤ roots.length) (fun x => roots.length - x.1) (0, v1) (Nat.zero_le _) (by simp +contextual -dsimp (maxSteps := 2000000) only [↓SD, SU, SB, Nat.reduceAdd, Nat.reduceBEq, Nat.reduceEqDiff, Nat.reduceLeDiff, Nat.reduceLT, Nat.reduceSub, ↓reduceIte, forall_const, implies_true, ne_eq, reduceCtorEq, Int.reduceToNat, forall_eq]) (by simp +contextual -dsimp (maxSteps := 2000000) only [↓SD, SU, SB, Nat.reduceAdd, Nat.reduceBEq, Nat.reduceEqDiff, Nat.reduceLeDiff, Nat.reduceLT, Nat.reduceSub, ↓reduceIte, forall_const, implies_true, ne_eq, reduceCtorEq, Int.reduceToNat, forall_eq]) ?_
    rintro ⟨j, u2⟩ hj
    simp only at hj
    by_cases hlj : j < roots.length
    · have e := getD_map av roots j .top hlj
      have ht : roots.take (j + 1) = roots.take j ++ [roots[j]] := List.take_succ_eq_append_getElem hlj
      have CV := hmv _ (valB_mv (hv _ (List.getElem_mem hlj))) (hrm _ (List.getElem_mem hlj))
      have hP2 : (roots.take (j + 1)).map (copyV R) = (roots.take j).map (copyV R) ++ [copyV R roots[j]] := by rw [ht, List.map_append]; rfl
      have hk2 : ((roots.take j).map (copyV R)).length = j := by simp; omega
      generalize roots[j] = v at *
      generalize (roots.take j).map (copyV R) = P at *
      have htp : List.take j (P.map (av : Val → AV)) = P.map av := List.take_of_length_le (by simp [hk2])
      have hvl : (av (copyV R v)).cells.length = 3 := AVal.len _
      rw [av_Val] at CV
      simp +contextual -dsimp (maxSteps := 2000000) only [↓SD, SU, SB, Nat.reduceAdd, Nat.reduceBEq, Nat.reduceEqDiff, Nat.reduceLeDiff, Nat.reduceLT, Nat.reduceSub, ↓reduceIte, forall_const, implies_true, ne_eq, reduceCtorEq, Int.reduceToNat, forall_eq, Int.reduceEq, Int.reduceLT, Int.reduceLE, Int.reduceNeg, Int.reduceAdd, Int.reduceSub, hlj, map_len, e, av_Val]
      intro v14
      simp +contextual -dsimp (maxSteps := 2000000) only [↓SD, SU, SB, Nat.reduceAdd, Nat.reduceBEq, Nat.reduceEqDiff, Nat.reduceLeDiff, Nat.reduceLT, Nat.reduceSub, ↓reduceIte, forall_const, implies_true, ne_eq, reduceCtorEq, Int.reduceToNat, forall_eq, Int.reduceEq, Int.reduceLT, Int.reduceLE, Int.reduceNeg, Int.reduceAdd, Int.reduceSub, map_len, map_nop, atL_len, htA, Nat.le_refl]
      refine aCallK_of _ CV ?_
      generalize copyV R v = w at *
      simp +contextual -dsimp (maxSteps := 2000000) only [↓SD, SU, SB, Nat.reduceAdd, Nat.reduceBEq, Nat.reduceEqDiff, Nat.reduceLeDiff, Nat.reduceLT, Nat.reduceSub, ↓reduceIte, forall_const, implies_true, ne_eq, reduceCtorEq, Int.reduceToNat, forall_eq, Int.reduceEq, Int.reduceLT, Int.reduceLE, Int.reduceNeg, Int.reduceAdd, Int.reduceSub, map_len, map_nop, av_Val, htp, hk2, Nat.le_refl]
      exact ⟨⟨by omega, by unfold maxLen; omega⟩, fun u' => ⟨by omega, Goes.le ⟨(j + 1, u'), ⟨hlj, (by first | omega | (simp only; omega))⟩, rfl⟩ (by simp +contextual -dsimp (maxSteps := 2000000) only [↓SD, SU, SB, Nat.reduceAdd, Nat.reduceBEq, Nat.reduceEqDiff, Nat.reduceLeDiff, Nat.reduceLT, Nat.reduceSub, ↓reduceIte, forall_const, implies_true, ne_eq, reduceCtorEq, Int.reduceToNat, forall_eq, Int.natCast_add]) (by simp +contextual -dsimp (maxSteps := 2000000) only [↓SD, SU, SB, Nat.reduceAdd, Nat.reduceBEq, Nat.reduceEqDiff, Nat.reduceLeDiff, Nat.reduceLT, Nat.reduceSub, ↓reduceIte, forall_const, implies_true, ne_eq, reduceCtorEq, Int.reduceToNat, forall_eq, hP2, List.map_append, av_Val])⟩⟩
    · obtain rfl : j = roots.length := by omega
      rw [List.take_length]
      simp +contextual -dsimp (maxSteps := 2000000) only [↓SD, SU, SB, Nat.reduceAdd, Nat.reduceBEq, Nat.reduceEqDiff, Nat.reduceLeDiff, Nat.reduceLT, Nat.reduceSub, ↓reduceIte, forall_const, implies_true, ne_eq, reduceCtorEq, Int.reduceToNat, forall_eq, Int.reduceEq, Int.reduceLT, Int.reduceLE, Int.reduceNeg, Int.reduceAdd, Int.reduceSub, Nat.lt_irrefl, map_len]
      refine Goes.post [(21, ⟨u, false, 53, 9, Q.map av⟩), (47, ⟨u2, false, 30, 3, (roots.map (copyV R)).map av⟩)] ?_
      refine And.intro (by simp +contextual -dsimp (maxSteps := 2000000) only [↓SD, SU, SB, Nat.reduceAdd, Nat.reduceBEq, Nat.reduceEqDiff, Nat.reduceLeDiff, Nat.reduceLT, Nat.reduceSub, ↓reduceIte, forall_const, implies_true, ne_eq, reduceCtorEq, Int.reduceToNat, forall_eq]) ⟨u, u2, ?_, rfl⟩
      simp +contextual -dsimp (maxSteps := 2000000) only [↓SD, SU, SB, Nat.reduceAdd, Nat.reduceBEq, Nat.reduceEqDiff, Nat.reduceLeDiff, Nat.reduceLT, Nat.reduceSub, ↓reduceIte, forall_const, implies_true, ne_eq, reduceCtorEq, Int.reduceToNat, forall_eq, map_len, Nat.le_refl]

def CopyPost (h : List Cell) (roots : List Val) (r : AV) (hp' : Hp) : Prop := (heapB h roots = false ∧ r = .tup [.nils, .nils] ∧ hp' = []) ∨ (heapB h roots = true ∧ PackPost h roots r hp')
theorem implCopy_ok (h : List Cell) (roots : List Val) (hl : h.length ≤ 1048576) (hr : roots.length ≤ 1048576) : CallsH Try.prog 25 [.sl (h.map av), .sl (roots.map av)] [] (CopyPost h roots) := by
  refine funH_impl_Copy rfl ?_
  have C := implHeapOk_ok h roots hl hr
  simp +contextual -dsimp (maxSteps := 2000000) only [↓SD, SU, SB, Nat.reduceAdd, Nat.reduceBEq, Nat.reduceEqDiff, Nat.reduceLeDiff, Nat.reduceLT, Nat.reduceSub, ↓reduceIte, forall_const, implies_true, ne_eq, reduceCtorEq, Int.reduceToNat, forall_eq, Int.reduceEq, Int.reduceLT, Int.reduceLE, Int.reduceNeg, Int.reduceAdd, Int.reduceSub, ir_impl_Copy, rs_impl_Copy, map_len]
  cases hb : heapB h roots with
  | false =>
    rw [hb] at C
    refine aCallK_of _ C ?_
    simp +contextual -dsimp (maxSteps := 2000000) only [↓SD, SU, SB, Nat.reduceAdd, Nat.reduceBEq, Nat.reduceEqDiff, Nat.reduceLeDiff, Nat.reduceLT, Nat.reduceSub, ↓reduceIte, forall_const, implies_true, ne_eq, reduceCtorEq, Int.reduceToNat, forall_eq, Int.reduceEq, Int.reduceLT, Int.reduceLE, Int.reduceNeg, Int.reduceAdd, Int.reduceSub]
    refine Goes.post [] ?_
    simp +contextual -dsimp (maxSteps := 2000000) only [↓SD, SU, SB, Nat.reduceAdd, Nat.reduceBEq, Nat.reduceEqDiff, Nat.reduceLeDiff, Nat.reduceLT, Nat.reduceSub, ↓reduceIte, forall_const, implies_true, ne_eq, reduceCtorEq, Int.reduceToNat, forall_eq]
    exact .inl ⟨hb, rfl, rfl⟩
  | true =>
    rw [hb] at C
    refine aCallK_of _ C ?_
    simp +contextual -dsimp (maxSteps := 2000000) only [↓SD, SU, SB, Nat.reduceAdd, Nat.reduceBEq, Nat.reduceEqDiff, Nat.reduceLeDiff, Nat.reduceLT, Nat.reduceSub, ↓reduceIte, forall_const, implies_true, ne_eq, reduceCtorEq, Int.reduceToNat, forall_eq, Int.reduceEq, Int.reduceLT, Int.reduceLE, Int.reduceNeg, Int.reduceAdd, Int.reduceSub]
    refine aCallH_of [] (packed_ok h roots hb hr) (by simp +contextual -dsimp (maxSteps := 2000000) only [↓SD, SU, SB, Nat.reduceAdd, Nat.reduceBEq, Nat.reduceEqDiff, Nat.reduceLeDiff, Nat.reduceLT, Nat.reduceSub, ↓reduceIte, forall_const, implies_true, ne_eq, reduceCtorEq, Int.reduceToNat, forall_eq]) ?_
    rintro r hp' ⟨v, u, rfl, rfl⟩
    simp +contextual -dsimp (maxSteps := 2000000) only [↓SD, SU, SB, Nat.reduceAdd, Nat.reduceBEq, Nat.reduceEqDiff, Nat.reduceLeDiff, Nat.reduceLT, Nat.reduceSub, ↓reduceIte, forall_const, implies_true, ne_eq, reduceCtorEq, Int.reduceToNat, forall_eq, Int.reduceEq, Int.reduceLT, Int.reduceLE, Int.reduceNeg, Int.reduceAdd, Int.reduceSub]
    refine Goes.post [(21, ⟨v, false, 53, 9, (copyH h roots).map av⟩), (47, ⟨u, false, 30, 3, (copyR h roots).map av⟩)] ?_
    simp +contextual -dsimp (maxSteps := 2000000) only [↓SD, SU, SB, Nat.reduceAdd, Nat.reduceBEq, Nat.reduceEqDiff, Nat.reduceLeDiff, Nat.reduceLT, Nat.reduceSub, ↓reduceIte, forall_const, implies_true, ne_eq, reduceCtorEq, Int.reduceToNat, forall_eq, map_len, Nat.le_refl]
    exact .inr ⟨hb, v, u, rfl, rfl⟩
theorem copyV_pre {o R : List Nat} (hp : o <+: R) {v : Val} (h : ∀ j, cellOf v = some j → j ∈ o) : copyV o v = copyV R v := by
  unfold copyV
  split
  · rename_i k
    have hc : cellOf v = some v.n.toNat := by unfold cellOf; rw [if_pos k]
    rw [idx_pre hp (h _ hc)]
  · rfl
theorem cell_meet {o : List Nat} {v : Val} : ∀ j, cellOf v = some j → j ∈ meetO o v := fun j hj => meetO_mem.2 (.inr hj)
structure LS where
  k : Nat
  u : Nat
  uo : Nat
structure CS where
  k : Nat
  o : List Nat
  uo : Nat
  w : Nat
theorem l11Copy_ok (h : List Cell) (roots : List Val) (hb : heapB h roots = true) (hr : roots.length ≤ 1048576) : CallsF Try.prog 41 [.sl (h.map av), .sl (roots.map av)] (.tup [.sl ((copyH h roots).map av), .sl ((copyR h roots).map av)]) := by
  have hb' := hb
  simp only [heapB, Bool.and_eq_true, decide_eq_true_eq, List.all_eq_true] at hb'
  obtain ⟨⟨hn, hc⟩, hv⟩ := hb'
  have hE := reach_end (h := h) (roots := roots) (fun c hc' => ⟨fun i hi => cellOf_lt (cellB_vala (hc c hc')) hi, (cellB_valb (hc c hc')).1⟩) (fun v hv' i hi => cellOf_lt (hv v hv') hi)
  have hin := hE.inn
  have hlen := hE.inn.len
  have hpre0 : ∀ k, (roots.take k).foldl meetO [] <+: reachO h roots := fun k => (start_pre roots k).trans (reach_pre h roots)
  have hcells : ∀ i, i < h.length → h.getD i noCell = h.getD i noCell := fun _ _ => rfl
  refine fun_spec_l11Copy rfl (by simp; exact ⟨lav_clean h, lav_clean roots⟩) (AvPure.tup (by simp; exact ⟨lav_clean _, lav_clean _⟩)) ?_
  rw [copyH, copyR]
  obtain ⟨R, hR⟩ : ∃ R, R = reachO h roots := ⟨_, rfl⟩
  rw [← hR] at hE hin hlen hpre0 ⊢
  simp +contextual -dsimp (maxSteps := 2000000) only [↓SD, SU, SB, Nat.reduceAdd, Nat.reduceBEq, Nat.reduceEqDiff, Nat.reduceLeDiff, Nat.reduceLT, Nat.reduceSub, ↓reduceIte, forall_const, implies_true, ne_eq, reduceCtorEq, Int.reduceToNat, forall_eq, Int.reduceEq, Int.reduceLT, Int.reduceLE, Int.reduceNeg, Int.reduceAdd, Int.reduceSub, ir_spec_l11Copy, rs_spec_l11Copy, map_len]
  refine ⟨by omega, fun up vt v0 => ?_⟩
  refine aLoop_goes (X := LS) (fun x => ⟨[(0, .sl (h.map av)), (6, .ptr 17 vt 0 0), (7, .row 18 x.u x.k), (19, .sl (roots.map av)), (20, .int .i64 roots.length), (21, .int .i64 x.k)], (18, ⟨x.u, false, 30, 3, ((roots.take x.k).map (copyV R)).map av⟩) :: toHp vt x.uo up h.length ((roots.take x.k).foldl meetO [])⟩) (fun x => x.k ≤ roots.length) (fun x => roots.length - x.k) (Goes.adoptB 17 0 0 26 3 1 rfl rfl Nat.zero_lt_one rfl (by decide) (fun v => Goes.le ⟨⟨0, v0, v⟩, Nat.zero_le _, rfl⟩ (by simp +contextual -dsimp (maxSteps := 2000000) only [↓SD, SU, SB, Nat.reduceAdd, Nat.reduceBEq, Nat.reduceEqDiff, Nat.reduceLeDiff, Nat.reduceLT, Nat.reduceSub, ↓reduceIte, forall_const, implies_true, ne_eq, reduceCtorEq, Int.reduceToNat, forall_eq]) (by unfold toHp; simp +contextual -dsimp (maxSteps := 2000000) only [↓SD, SU, SB, Nat.reduceAdd, Nat.reduceBEq, Nat.reduceEqDiff, Nat.reduceLeDiff, Nat.reduceLT, Nat.reduceSub, ↓reduceIte, forall_const, implies_true, ne_eq, reduceCtorEq, Int.reduceToNat, forall_eq, List.foldl_nil, placeL_nil, intsO, List.map_replicate, av_int]))) ?_
  rintro ⟨k, u, uo⟩ hk
  dsimp only at hk
  have hio : ∀ k, InO h.length ((roots.take k).foldl meetO []) := fun k => fold_in ⟨List.nodup_nil, fun i hi => by cases hi⟩ (fun v hv' i hi => cellOf_lt (hv v (List.mem_of_mem_take hv')) hi)
  by_cases hlt : k < roots.length
  · have e := getD_map av roots k .top hlt
    have ht : roots.take (k + 1) = roots.take k ++ [roots[k]] := List.take_succ_eq_append_getElem hlt
    have hP2 : (roots.take (k + 1)).map (copyV R) = (roots.take k).map (copyV R) ++ [copyV R roots[k]] := by rw [ht, List.map_append]; rfl
    have hst : (roots.take (k + 1)).foldl meetO [] = meetO ((roots.take k).foldl meetO []) roots[k] := by rw [ht, List.foldl_append]; rfl
    have hpk := hpre0 (k + 1)
    rw [hst] at hpk
    have CM := l11Move_ok vt uo up h.length _ roots[k] (hio k) hn (valB_mv (hv _ (List.getElem_mem hlt)))
    unfold MovePost at CM
    rw [copyV_pre hpk cell_meet] at CM
    have hk2 : ((roots.take k).map (copyV R)).length = k := by simp; omega
    clear hcells hio hpre0
    generalize roots[k] = v at *
    generalize (roots.take k).foldl meetO [] = o at *
    generalize (roots.take k).map (copyV R) = P at *
    generalize copyV R v = q at *
    have htp : List.take k (P.map (av : Val → AV)) = P.map av := List.take_of_length_le (by simp [hk2])
    rw [av_Val, av_Val] at CM
    unfold toHp at CM ⊢
    simp +contextual -dsimp (maxSteps := 2000000) only [↓SD, SU, SB, Nat.reduceAdd, Nat.reduceBEq, Nat.reduceEqDiff, Nat.reduceLeDiff, Nat.reduceLT, Nat.reduceSub, ↓reduceIte, forall_const, implies_true, ne_eq, reduceCtorEq, Int.reduceToNat, forall_eq, Int.reduceEq, Int.reduceLT, Int.reduceLE, Int.reduceNeg, Int.reduceAdd, Int.reduceSub, hlt, map_len, e, av_Val]
    intro v9
    refine aCallH_of [17, 26, 15] CM (by simp +contextual -dsimp (maxSteps := 2000000) only [↓SD, SU, SB, Nat.reduceAdd, Nat.reduceBEq, Nat.reduceEqDiff, Nat.reduceLeDiff, Nat.reduceLT, Nat.reduceSub, ↓reduceIte, forall_const, implies_true, ne_eq, reduceCtorEq, Int.reduceToNat, forall_eq]) ?_
    rintro r hp' ⟨uo', rfl, rfl⟩
    simp +contextual -dsimp (maxSteps := 2000000) only [↓SD, SU, SB, Nat.reduceAdd, Nat.reduceBEq, Nat.reduceEqDiff, Nat.reduceLeDiff, Nat.reduceLT, Nat.reduceSub, ↓reduceIte, forall_const, implies_true, ne_eq, reduceCtorEq, Int.reduceToNat, forall_eq, Int.reduceEq, Int.reduceLT, Int.reduceLE, Int.reduceNeg, Int.reduceAdd, Int.reduceSub, map_len, htp, hk2, Nat.le_refl]
    exact ⟨⟨by omega, by unfold maxLen; omega⟩, fun u' => ⟨by omega, Goes.le ⟨⟨k + 1, u', uo'⟩, ⟨hlt, by dsimp only; omega⟩, rfl⟩ (by simp +contextual -dsimp (maxSteps := 2000000) only [↓SD, SU, SB, Nat.reduceAdd, Nat.reduceBEq, Nat.reduceEqDiff, Nat.reduceLeDiff, Nat.reduceLT, Nat.reduceSub, ↓reduceIte, forall_const, implies_true, ne_eq, reduceCtorEq, Int.reduceToNat, forall_eq, Int.natCast_add]) (by simp +contextual -dsimp (maxSteps := 2000000) only [↓SD, SU, SB, Nat.reduceAdd, Nat.reduceBEq, Nat.reduceEqDiff, Nat.reduceLeDiff, Nat.reduceLT, Nat.reduceSub, ↓reduceIte, forall_const, implies_true, ne_eq, reduceCtorEq, Int.reduceToNat, forall_eq, hP2, hst, List.map_append, av_Val])⟩⟩
  · obtain rfl : k = roots.length := by omega
    rw [List.take_length]
    unfold toHp
    simp +contextual -dsimp (maxSteps := 2000000) only [↓SD, SU, SB, Nat.reduceAdd, Nat.reduceBEq, Nat.reduceEqDiff, Nat.reduceLeDiff, Nat.reduceLT, Nat.reduceSub, ↓reduceIte, forall_const, implies_true, ne_eq, reduceCtorEq, Int.reduceToNat, forall_eq, Int.reduceEq, Int.reduceLT, Int.reduceLE, Int.reduceNeg, Int.reduceAdd, Int.reduceSub, map_len, Nat.lt_irrefl]
    intro w0
    have hio0 := hio roots.length
    have hp00 := hpre0 roots.length
    rw [List.take_length] at hio0 hp00
    have hL1 : (roots.map (copyV R)).length = roots.length := by simp
    obtain ⟨P, hP⟩ : ∃ P, P = roots.map (copyV R) := ⟨_, rfl⟩
    rw [← hP] at hL1 ⊢
    rw [← hL1]
    have hbR : bfs h (h.length + 1 - 0) 0 (roots.foldl meetO []) = R := by rw [hR]; rfl
    clear hio hpre0 hcells
    refine aLoop_of (X := CS) (fun x => ⟨[(0, .sl (h.map av)), (6, .ptr 17 vt 0 0), (7, .row 18 u P.length), (10, .row 32 x.w x.k), (11, .int .i64 x.k)], (32, ⟨x.w, false, 53, 9, ((R.take x.k).map fun i => copyC R (h.getD i noCell)).map av⟩) :: (18, ⟨u, false, 30, 3, P.map av⟩) :: toHp vt x.uo up h.length x.o⟩) (fun x => InO h.length x.o ∧ x.k ≤ x.o.length ∧ bfs h (h.length + 1 - x.k) x.k x.o = R) (fun x => h.length + 1 - x.k) ⟨0, roots.foldl meetO [], uo, w0⟩ ⟨hio0, Nat.zero_le _, hbR⟩ (by simp +contextual -dsimp (maxSteps := 2000000) only [↓SD, SU, SB, Nat.reduceAdd, Nat.reduceBEq, Nat.reduceEqDiff, Nat.reduceLeDiff, Nat.reduceLT, Nat.reduceSub, ↓reduceIte, forall_const, implies_true, ne_eq, reduceCtorEq, Int.reduceToNat, forall_eq]) (by unfold toHp; simp +contextual -dsimp (maxSteps := 2000000) only [↓SD, SU, SB, Nat.reduceAdd, Nat.reduceBEq, Nat.reduceEqDiff, Nat.reduceLeDiff, Nat.reduceLT, Nat.reduceSub, ↓reduceIte, forall_const, implies_true, ne_eq, reduceCtorEq, Int.reduceToNat, forall_eq]) ?_
    rintro ⟨k, o, uo1, w⟩ ⟨hi1, hko, hbf⟩
    dsimp only at hi1 hko hbf
    have hol := hi1.len
    have hoR : o <+: R := by rw [← hbf]; exact bfs_pre h _ _ _
    by_cases hlt : k < o.length
    · obtain ⟨m, hm⟩ : ∃ m, m = o[k] := ⟨_, rfl⟩
      have hmn : m < h.length := hm ▸ hi1.2 _ (List.getElem_mem hlt)
      have hmg : o.getD k 0 = m := by rw [hm, List.getD_eq_getElem?_getD, List.getElem?_eq_getElem hlt]; rfl
      have hkR : k < R.length := Nat.lt_of_lt_of_le hlt hoR.length_le
      have hRk : R[k] = m := by
        have h1 := pre_getD hoR hlt
        rw [hmg, List.getD_eq_getElem?_getD, List.getElem?_eq_getElem hkR] at h1
        simpa using h1
      obtain ⟨ma, mb⟩ := cellB_mv (hc _ (List.getElem_mem hmn))
      have e := getD_map av h m .top hmn
      have hcg : h.getD m noCell = h[m] := by rw [List.getD_eq_getElem?_getD, List.getElem?_eq_getElem hmn]; rfl
      have hi2 : InO h.length (meetO o h[m].a) := meetO_in hi1 ma.1
      have hi3 : InO h.length (meetO (meetO o h[m].a) h[m].b) := meetO_in hi2 mb.1
      have hbf' : bfs h (h.length + 1 - (k + 1)) (k + 1) (meetO (meetO o h[m].a) h[m].b) = R := by
        rw [← hbf, show h.length + 1 - k = (h.length + 1 - (k + 1)) + 1 by omega, bfs, if_pos hlt, hmg]
        unfold nextO; rw [hcg]
      have hp3 : meetO (meetO o h[m].a) h[m].b <+: R := by rw [← hbf']; exact bfs_pre h _ _ _
      have hp2 : meetO o h[m].a <+: R := (meetO_pre _ _).trans hp3
      have C1 := l11Move_ok vt uo1 up h.length o h[m].a hi1 hn ma
      have C2 := fun uo => l11Move_ok vt uo up h.length (meetO o h[m].a) h[m].b hi2 hn mb
      unfold MovePost at C1 C2
      rw [copyV_pre hp2 cell_meet] at C1
      rw [copyV_pre hp3 cell_meet] at C2
      have hk3 : k + 1 ≤ (meetO (meetO o h[m].a) h[m].b).length := Nat.le_trans hlt (Nat.le_trans (meetO_pre o h[m].a).length_le (meetO_pre (meetO o h[m].a) h[m].b).length_le)
      have g1 : ((intsO o).map (av : Int → AV)).getD k .top = .int .i64 (m : Int) := by
        rw [getD_map av (intsO o) k .top (by rw [intsO_len]; exact hlt)]
        simp [intsO, hm, av_int]
      have hk2 : ((R.take k).map fun i => copyC R (h.getD i noCell)).length = k := by simp; omega
      obtain ⟨Q, hQ⟩ : ∃ Q, Q = (R.take k).map fun i => copyC R (h.getD i noCell) := ⟨_, rfl⟩
      have hQ2 : (R.take (k + 1)).map (fun i => copyC R (h.getD i noCell)) = Q ++ [copyC R h[m]] := by rw [List.take_succ_eq_append_getElem hkR, hRk, List.map_append, hQ]; simp only [List.map_cons, List.map_nil, hcg]
      rw [← hQ] at hk2 ⊢
      have htq : List.take k (Q.map (av : Cell → AV)) = Q.map av := List.take_of_length_le (by simp [hk2])
      have hcc : av (copyC R h[m]) = .agg [.int .i64 h[m].kind, .int .i64 h[m].n, .str h[m].s, .int .i64 (copyV R h[m].a).kind, .int .i64 (copyV R h[m].a).n, .str (copyV R h[m].a).s, .int .i64 (copyV R h[m].b).kind, .int .i64 (copyV R h[m].b).n, .str (copyV R h[m].b).s] := av_Cell _
      clear hm hcg hE hR hbf hmg hRk
      generalize h[m] = c at *
      generalize copyV R c.a = A at *
      generalize copyV R c.b = B at *
      rw [av_Val, av_Val] at C1 C2
      unfold toHp at C1 C2 ⊢
      simp +contextual -dsimp (maxSteps := 2000000) only [↓SD, SU, SB, Nat.reduceAdd, Nat.reduceBEq, Nat.reduceEqDiff, Nat.reduceLeDiff, Nat.reduceLT, Nat.reduceSub, ↓reduceIte, forall_const, implies_true, ne_eq, reduceCtorEq, Int.reduceToNat, forall_eq, Int.reduceEq, Int.reduceLT, Int.reduceLE, Int.reduceNeg, Int.reduceAdd, Int.reduceSub, map_len, intsO_len, hlt, g1, hmn, e, av_Cell]
      intro v12
      refine aCallH_of [17, 26, 15] C1 (by simp +contextual -dsimp (maxSteps := 2000000) only [↓SD, SU, SB, Nat.reduceAdd, Nat.reduceBEq, Nat.reduceEqDiff, Nat.reduceLeDiff, Nat.reduceLT, Nat.reduceSub, ↓reduceIte, forall_const, implies_true, ne_eq, reduceCtorEq, Int.reduceToNat, forall_eq]) ?_
      rintro r hp' ⟨uo2, rfl, rfl⟩
      generalize meetO o c.a = o1 at *
      simp +contextual -dsimp (maxSteps := 2000000) only [↓SD, SU, SB, Nat.reduceAdd, Nat.reduceBEq, Nat.reduceEqDiff, Nat.reduceLeDiff, Nat.reduceLT, Nat.reduceSub, ↓reduceIte, forall_const, implies_true, ne_eq, reduceCtorEq, Int.reduceToNat, forall_eq, Int.reduceEq, Int.reduceLT, Int.reduceLE, Int.reduceNeg, Int.reduceAdd, Int.reduceSub, map_len, av_Val]
      refine aCallH_of [17, 26, 15] (C2 uo2) (by simp +contextual -dsimp (maxSteps := 2000000) only [↓SD, SU, SB, Nat.reduceAdd, Nat.reduceBEq, Nat.reduceEqDiff, Nat.reduceLeDiff, Nat.reduceLT, Nat.reduceSub, ↓reduceIte, forall_const, implies_true, ne_eq, reduceCtorEq, Int.reduceToNat, forall_eq]) ?_
      rintro r hp' ⟨uo3, rfl, rfl⟩
      simp +contextual -dsimp (maxSteps := 2000000) only [↓SD, SU, SB, Nat.reduceAdd, Nat.reduceBEq, Nat.reduceEqDiff, Nat.reduceLeDiff, Nat.reduceLT, Nat.reduceSub, ↓reduceIte, forall_const, implies_true, ne_eq, reduceCtorEq, Int.reduceToNat, forall_eq, Int.reduceEq, Int.reduceLT, Int.reduceLE, Int.reduceNeg, Int.reduceAdd, Int.reduceSub, map_len, av_Val, htq, hk2, Nat.le_refl]
      exact ⟨⟨by omega, by unfold maxLen; omega⟩, fun w' => ⟨by omega, Goes.le ⟨⟨k + 1, meetO o1 c.b, uo3, w'⟩, ⟨⟨hi3, hk3, hbf'⟩, by dsimp only; omega⟩, rfl⟩ (by simp +contextual -dsimp (maxSteps := 2000000) only [↓SD, SU, SB, Nat.reduceAdd, Nat.reduceBEq, Nat.reduceEqDiff, Nat.reduceLeDiff, Nat.reduceLT, Nat.reduceSub, ↓reduceIte, forall_const, implies_true, ne_eq, reduceCtorEq, Int.reduceToNat, forall_eq, Int.natCast_add]) (by simp +contextual -dsimp (maxSteps := 2000000) only [↓SD, SU, SB, Nat.reduceAdd, Nat.reduceBEq, Nat.reduceEqDiff, Nat.reduceLeDiff, Nat.reduceLT, Nat.reduceSub, ↓reduceIte, forall_const, implies_true, ne_eq, reduceCtorEq, Int.reduceToNat, forall_eq, hQ2, List.map_append, hcc])⟩⟩
    · have hko2 : k = o.length := by omega
      have hRo : o = R := by rw [← hbf, show h.length + 1 - k = (h.length - k) + 1 by omega, bfs, if_neg hlt]
      subst hRo
      have hlt' : ¬ (k : Int) < (o.length : Int) := by omega
      have hk2 : ((o.take k).map fun i => copyC o (h.getD i noCell)).length = k := by simp; omega
      have htk : o.take k = o := by rw [hko2]; exact List.take_length
      rw [htk] at hk2
      have h1 : List.take k ((o.map fun i => copyC o (h.getD i noCell)).map (av : Cell → AV)) = (o.map fun i => copyC o (h.getD i noCell)).map av := List.take_of_length_le (by simp; omega)
      have h2 : List.take P.length (P.map (av : Val → AV)) = P.map av := List.take_of_length_le (by simp)
      have h3 : k ≤ (o.map fun i => copyC o (h.getD i noCell)).length := by simp; omega
      unfold toHp
      rw [htk]
      simp +contextual -dsimp (maxSteps := 2000000) only [↓SD, SU, SB, Nat.reduceAdd, Nat.reduceBEq, Nat.reduceEqDiff, Nat.reduceLeDiff, Nat.reduceLT, Nat.reduceSub, ↓reduceIte, forall_const, implies_true, ne_eq, reduceCtorEq, Int.reduceToNat, forall_eq, Int.reduceEq, Int.reduceLT, Int.reduceLE, Int.reduceNeg, Int.reduceAdd, Int.reduceSub, map_len, intsO_len, hlt', map_nop, h1, h2, hko, Nat.le_refl]

def copyAV (h : List Cell) (roots : List Val) : AV := if heapB h roots then .tup [.sl ((copyH h roots).map av), .sl ((copyR h roots).map av)] else .tup [.nils, .nils]
theorem copyAV_clean (h : List Cell) (roots : List Val) : AvPure (copyAV h roots) := by
  unfold copyAV
  split
  · exact AvPure.tup (by simp; exact ⟨lav_clean _, lav_clean _⟩)
  · exact AvPure.tup (by simp; exact AvPure.nils)
theorem specCopy_ok (h : List Cell) (roots : List Val) (hl : h.length ≤ 1048576) (hr : roots.length ≤ 1048576) (hh : ∀ c ∈ h, ValR c.a ∧ ValR c.b) (hv : ∀ v ∈ roots, ValR v) : CallsF Try.prog 24 [.sl (h.map av), .sl (roots.map av)] (copyAV h roots) := by
  refine fun_spec_Copy rfl (by simp; exact ⟨lav_clean h, lav_clean roots⟩) (copyAV_clean h roots) ?_
  have C := specHeapOk_ok h roots hl hr hh hv
  unfold copyAV
  simp +contextual -dsimp (maxSteps := 2000000) only [↓SD, SU, SB, Nat.reduceAdd, Nat.reduceBEq, Nat.reduceEqDiff, Nat.reduceLeDiff, Nat.reduceLT, Nat.reduceSub, ↓reduceIte, forall_const, implies_true, ne_eq, reduceCtorEq, Int.reduceToNat, forall_eq, Int.reduceEq, Int.reduceLT, Int.reduceLE, Int.reduceNeg, Int.reduceAdd, Int.reduceSub, ir_spec_Copy, rs_spec_Copy, map_len]
  cases hb : heapB h roots with
  | false =>
    rw [hb] at C
    refine aCallK_of _ C ?_
    simp +contextual -dsimp (maxSteps := 2000000) only [↓SD, SU, SB, Nat.reduceAdd, Nat.reduceBEq, Nat.reduceEqDiff, Nat.reduceLeDiff, Nat.reduceLT, Nat.reduceSub, ↓reduceIte, forall_const, implies_true, ne_eq, reduceCtorEq, Int.reduceToNat, forall_eq, Int.reduceEq, Int.reduceLT, Int.reduceLE, Int.reduceNeg, Int.reduceAdd, Int.reduceSub]
  | true =>
    rw [hb] at C
    refine aCallK_of _ C ?_
    simp +contextual -dsimp (maxSteps := 2000000) only [↓SD, SU, SB, Nat.reduceAdd, Nat.reduceBEq, Nat.reduceEqDiff, Nat.reduceLeDiff, Nat.reduceLT, Nat.reduceSub, ↓reduceIte, forall_const, implies_true, ne_eq, reduceCtorEq, Int.reduceToNat, forall_eq, Int.reduceEq, Int.reduceLT, Int.reduceLE, Int.reduceNeg, Int.reduceAdd, Int.reduceSub]
    refine aCallK_of _ (l11Copy_ok h roots hb hr) ?_
    simp +contextual -dsimp (maxSteps := 2000000) only [↓SD, SU, SB, Nat.reduceAdd, Nat.reduceBEq, Nat.reduceEqDiff, Nat.reduceLeDiff, Nat.reduceLT, Nat.reduceSub, ↓reduceIte, forall_const, implies_true, ne_eq, reduceCtorEq, Int.reduceToNat, forall_eq, Int.reduceEq, Int.reduceLT, Int.reduceLE, Int.reduceNeg, Int.reduceAdd, Int.reduceSub]
end Go.Proofs.Ytpnnhgminiihnaa
