/-
  THE ORDER OF WHAT ONE COMES TO, of the program, by abstract texts. Conditions: none.
-/
import Derived.Test.YtpignflebknagaaReachP
import Derived.Test.YtpignflebknagaaIrReach6
set_option linter.unusedVariables false
set_option linter.unusedSimpArgs false
set_option maxRecDepth 100000
namespace Go.Proofs.Ytpignflebknagaa
open Go.RowKit Go.Proofs.Ytpignflebknagaa.Av Go.Proofs.Ytpignflebknagaa.Ml
open Go.Proofs.Ytpignflebknagaa.Av.AVal (av)

def meetHp (va vo ua uo n : Nat) (o : List Nat) : Hp := [(7, ⟨va, false, 27, 1, [.row 16 ua n]⟩), (6, ⟨vo, false, 27, 1, [.row 13 uo o.length]⟩), (16, ⟨ua, false, 3, 1, (atL n o).map av⟩), (13, ⟨uo, false, 3, 1, (intsO o).map av⟩)]
def MeetPost (va vo ua n : Nat) (o : List Nat) (r : AV) (hp' : Hp) : Prop := ∃ uo, r = .tup [] ∧ hp' = meetHp va vo ua uo n o
theorem meet_okb (va vo ua uo n : Nat) (o : List Nat) (v : Val) (ho : InO n o) (hn : n ≤ 4000) (hv : okV n v) (hvn : v.kind = 6 → 0 ≤ v.n) : CallsH Try.prog 31 [av v, .ptr 7 va 0 0, .ptr 6 vo 0 0] (meetHp va vo ua uo n o) (MeetPost va vo ua n (meetO o v)) := by
  have hol := ho.len
  refine funH_impl_copied_1 rfl ?_
  unfold meetHp
  by_cases k : v.kind = 6
  · have hv' := hvn k
    obtain ⟨m, hm⟩ : ∃ m : Nat, v.n = m := ⟨v.n.toNat, by omega⟩
    have hc : cellOf v = some m := by unfold cellOf; rw [if_pos k, hm, Int.toNat_natCast]
    have hmn : m < n := hv m hc
    have e := getD_map av (atL n o) m .top (by rw [atL_len]; exact hmn)
    rw [atL_get o hmn] at e
    by_cases hmo : m ∈ o
    · rw [if_pos hmo] at e
      have hmeet : meetO o v = o := by unfold meetO meetI; rw [hc]; simp [hmo]
      rw [hmeet]
      have h0 : ¬ ((o.idxOf m : Nat) : Int) < 0 := by omega
      simp +contextual -dsimp (maxSteps := 2000000) only [↓SD, SU, SB, Nat.reduceAdd, Nat.reduceBEq, Nat.reduceEqDiff, Nat.reduceLeDiff, Nat.reduceLT, Nat.reduceSub, ↓reduceIte, zA, zI, zN, reduceCtorEq, Int.reduceToNat, zE, Int.reduceEq, Int.reduceLT, Int.reduceLE, Int.reduceNeg, Int.reduceAdd, Int.reduceSub, ir_impl_copied_1, rs_impl_copied_1, av_Val, k, hm, hmn, map_len, atL_len, e, av_int, h0]
      refine Goes.post (meetHp va vo ua uo n o) ?_
      unfold meetHp
      simp +contextual -dsimp (maxSteps := 2000000) only [↓SD, SU, SB, Nat.reduceAdd, Nat.reduceBEq, Nat.reduceEqDiff, Nat.reduceLeDiff, Nat.reduceLT, Nat.reduceSub, ↓reduceIte, zA, zI, zN, reduceCtorEq, Int.reduceToNat, zE]
      exact ⟨uo, rfl, rfl⟩
    · rw [if_neg hmo] at e
      have hmeet : meetO o v = o ++ [m] := by unfold meetO meetI; rw [hc]; simp [hmo]
      rw [hmeet]
      have hset := atL_set hmn hmo
      have ht : List.take o.length ((intsO o).map (av : Int → AV)) = (intsO o).map av := List.take_of_length_le (by simp [intsO])
      have hs2 : ((atL n o).map (av : Int → AV)).set m (.int .i64 (o.length : Int)) = (atL n (o ++ [m])).map av := by rw [← hset, List.map_set]; rfl
      have hi2 : (intsO o).map (av : Int → AV) ++ [AV.int .i64 (m : Int)] = (intsO (o ++ [m])).map av := by simp [intsO, av_int]
      simp +contextual -dsimp (maxSteps := 2000000) only [↓SD, SU, SB, Nat.reduceAdd, Nat.reduceBEq, Nat.reduceEqDiff, Nat.reduceLeDiff, Nat.reduceLT, Nat.reduceSub, ↓reduceIte, zA, zI, zN, reduceCtorEq, Int.reduceToNat, zE, Int.reduceEq, Int.reduceLT, Int.reduceLE, Int.reduceNeg, Int.reduceAdd, Int.reduceSub, ir_impl_copied_1, rs_impl_copied_1, av_Val, k, hm, hmn, map_len, atL_len, intsO_len, e, av_int, ht, hs2, hi2, Nat.le_refl]
      refine ⟨⟨by omega, by unfold maxLen; omega⟩, fun u' => ?_⟩
      refine Goes.post (meetHp va vo ua u' n (o ++ [m])) ?_
      have hol2 : (o ++ [m]).length = o.length + 1 := by simp
      unfold meetHp
      simp +contextual -dsimp (maxSteps := 2000000) only [↓SD, SU, SB, Nat.reduceAdd, Nat.reduceBEq, Nat.reduceEqDiff, Nat.reduceLeDiff, Nat.reduceLT, Nat.reduceSub, ↓reduceIte, zA, zI, zN, reduceCtorEq, Int.reduceToNat, zE, hol2]
      exact ⟨u', rfl, by unfold meetHp; rw [hol2]⟩
  · have hmeet : meetO o v = o := by unfold meetO cellOf; rw [if_neg k]
    rw [hmeet]
    simp +contextual -dsimp (maxSteps := 2000000) only [↓SD, SU, SB, Nat.reduceAdd, Nat.reduceBEq, Nat.reduceEqDiff, Nat.reduceLeDiff, Nat.reduceLT, Nat.reduceSub, ↓reduceIte, zA, zI, zN, reduceCtorEq, Int.reduceToNat, zE, Int.reduceEq, Int.reduceLT, Int.reduceLE, Int.reduceNeg, Int.reduceAdd, Int.reduceSub, ir_impl_copied_1, rs_impl_copied_1, av_Val, k]
    refine Goes.post (meetHp va vo ua uo n o) ?_
    unfold meetHp
    simp +contextual -dsimp (maxSteps := 2000000) only [↓SD, SU, SB, Nat.reduceAdd, Nat.reduceBEq, Nat.reduceEqDiff, Nat.reduceLeDiff, Nat.reduceLT, Nat.reduceSub, ↓reduceIte, zA, zI, zN, reduceCtorEq, Int.reduceToNat, zE]
    exact ⟨uo, rfl, rfl⟩

theorem valB_n {v : Val} {n : Int} (hv : valB v n = true) (k : v.kind = 6) : 0 ≤ v.n := by
  simp [valB, k] at hv
  omega
theorem meet_ok (va vo ua uo n : Nat) (o : List Nat) (v : Val) (ho : InO n o) (hn : n ≤ 4000) (hv : valB v n = true) : CallsH Try.prog 31 [av v, .ptr 7 va 0 0, .ptr 6 vo 0 0] (meetHp va vo ua uo n o) (MeetPost va vo ua n (meetO o v)) :=
  meet_okb va vo ua uo n o v ho hn (fun i hi => cellOf_lt hv hi) (valB_n hv)
theorem cellB_vala {c : Cell} {n : Int} (h : cellB c n = true) : valB c.a n = true := by
  simp only [cellB, Bool.and_eq_true] at h
  exact h.1.1.1.2
theorem cellB_valb {c : Cell} {n : Nat} (h : cellB c n = true) : okV n c.b ∧ (c.b.kind = 6 → 0 ≤ c.b.n) := by
  simp only [cellB, Bool.and_eq_true] at h
  obtain ⟨⟨⟨⟨h1, h2⟩, h3⟩, h4⟩, h5⟩ := h
  split at h3
  · exact ⟨fun i hi => cellOf_lt h3 hi, valB_n h3⟩
  · simp only [noneB, Bool.and_eq_true, decide_eq_true_eq] at h3
    refine ⟨fun i hi => ?_, fun k => by omega⟩
    unfold cellOf at hi
    rw [if_neg (by omega)] at hi
    cases hi
def fillM (n k : Nat) : List AV := List.replicate k (.int .i64 (-1)) ++ List.replicate (n - k) (.int .i64 0)
theorem fillM_zero (n : Nat) : fillM n 0 = List.replicate n (.int .i64 0) := by simp [fillM]
theorem fillM_len {n k : Nat} (h : k ≤ n) : (fillM n k).length = n := by simp [fillM]; omega
theorem fillM_get {n k : Nat} (h : k < n) (d : AV) : (fillM n k).getD k d = .int .i64 0 := by
  unfold fillM
  rw [List.getD_eq_getElem?_getD, List.getElem?_append_right (by simp), List.length_replicate, Nat.sub_self, List.getElem?_replicate, if_pos (by omega)]; rfl
theorem fillM_set {n k : Nat} (h : k < n) : (fillM n k).set k (.int .i64 (-1)) = fillM n (k + 1) := by
  unfold fillM
  rw [List.set_append_right _ _ (by simp), List.length_replicate, Nat.sub_self, show n - k = (n - (k + 1)) + 1 by omega, List.replicate_succ, List.set_cons_zero, List.replicate_succ', List.append_assoc]; rfl
theorem fillM_full (n : Nat) : fillM n n = (atL n []).map av := by
  rw [atL_nil]; simp [fillM, av_int]
structure OS where
  k : Nat
  o : List Nat
  u : Nat
def CopPost (h : List Cell) (roots : List Val) (r : AV) (hp' : Hp) : Prop := ∃ ua uo, r = .tup [.row 13 uo (reachO h roots).length, .row 16 ua h.length] ∧
  hp' = [(13, ⟨uo, false, 3, 1, (intsO (reachO h roots)).map av⟩), (16, ⟨ua, false, 3, 1, (atL h.length (reachO h roots)).map av⟩)]
theorem copied_ok (h : List Cell) (roots : List Val) (hb : heapB h roots = true) (hr : roots.length ≤ 1048576) : CallsH Try.prog 17 [.sl (h.map av), .sl (roots.map av)] [] (CopPost h roots) := by
  simp only [heapB, Bool.and_eq_true, decide_eq_true_eq, List.all_eq_true] at hb
  obtain ⟨⟨hl, hc⟩, hv⟩ := hb
  refine funH_impl_copied rfl ?_
  simp +contextual -dsimp (maxSteps := 2000000) only [↓SD, SU, SB, Nat.reduceAdd, Nat.reduceBEq, Nat.reduceEqDiff, Nat.reduceLeDiff, Nat.reduceLT, Nat.reduceSub, ↓reduceIte, zA, zI, zN, reduceCtorEq, Int.reduceToNat, zE, Int.reduceEq, Int.reduceLT, Int.reduceLE, Int.reduceNeg, Int.reduceAdd, Int.reduceSub, ir_impl_copied, rs_impl_copied, map_len]
  intro uo vo
  refine ⟨by omega, fun ua va => ?_⟩
  refine aLoop_of (X := Nat) (fun k => ⟨[(0, .sl (h.map av)), (1, .sl (roots.map av)), (6, .ptr 6 vo 0 0), (7, .ptr 7 va 0 0), (18, .int .i64 h.length), (19, .int .i64 k)], [(7, ⟨va, false, 27, 1, [.row 16 ua h.length]⟩), (6, ⟨vo, false, 27, 1, [.row 13 uo 0]⟩), (16, ⟨ua, false, 3, 1, fillM h.length k⟩), (13, ⟨uo, false, 3, 1, []⟩)]⟩) (fun k => k ≤ h.length) (fun k => h.length - k) 0 (Nat.zero_le _) (by simp +contextual -dsimp only [↓SD, SU, SB, Nat.reduceAdd, Nat.reduceBEq, Nat.reduceEqDiff, Nat.reduceLeDiff, Nat.reduceLT, Nat.reduceSub, ↓reduceIte, zA, zI, zN, reduceCtorEq, Int.reduceToNat, zE]) (by simp +contextual -dsimp only [↓SD, SU, SB, Nat.reduceAdd, Nat.reduceBEq, Nat.reduceEqDiff, Nat.reduceLeDiff, Nat.reduceLT, Nat.reduceSub, ↓reduceIte, zA, zI, zN, reduceCtorEq, Int.reduceToNat, zE, fillM_zero]) ?_
  rintro k hk
  by_cases hlt : k < h.length
  · simp +contextual -dsimp (maxSteps := 2000000) only [↓SD, SU, SB, Nat.reduceAdd, Nat.reduceBEq, Nat.reduceEqDiff, Nat.reduceLeDiff, Nat.reduceLT, Nat.reduceSub, ↓reduceIte, zA, zI, zN, reduceCtorEq, Int.reduceToNat, zE, Int.reduceEq, Int.reduceLT, Int.reduceLE, Int.reduceNeg, Int.reduceAdd, Int.reduceSub, hlt, fillM_len (Nat.le_of_lt hlt), fillM_get hlt, fillM_set hlt]
    exact ⟨by omega, Goes.le ⟨k + 1, ⟨hlt, (by first | omega | (simp only; omega))⟩, rfl⟩ (by simp +contextual -dsimp only [↓SD, SU, SB, Nat.reduceAdd, Nat.reduceBEq, Nat.reduceEqDiff, Nat.reduceLeDiff, Nat.reduceLT, Nat.reduceSub, ↓reduceIte, zA, zI, zN, reduceCtorEq, Int.reduceToNat, zE, Int.natCast_add]) (by simp +contextual -dsimp only [↓SD, SU, SB, Nat.reduceAdd, Nat.reduceBEq, Nat.reduceEqDiff, Nat.reduceLeDiff, Nat.reduceLT, Nat.reduceSub, ↓reduceIte, zA, zI, zN, reduceCtorEq, Int.reduceToNat, zE])⟩
  obtain rfl : k = h.length := by omega
  simp +contextual -dsimp (maxSteps := 2000000) only [↓SD, SU, SB, Nat.reduceAdd, Nat.reduceBEq, Nat.reduceEqDiff, Nat.reduceLeDiff, Nat.reduceLT, Nat.reduceSub, ↓reduceIte, zA, zI, zN, reduceCtorEq, Int.reduceToNat, zE, Int.reduceEq, Int.reduceLT, Int.reduceLE, Int.reduceNeg, Int.reduceAdd, Int.reduceSub, Nat.lt_irrefl, map_len]
  refine aLoop_of (X := Nat × Nat) (fun x => ⟨[(0, .sl (h.map av)), (6, .ptr 6 vo 0 0), (7, .ptr 7 va 0 0), (9, .fn 31 [.ptr 7 va 0 0, .ptr 6 vo 0 0]), (27, .sl (roots.map av)), (28, .int .i64 roots.length), (29, .int .i64 x.1)], meetHp va vo ua x.2 h.length ((roots.take x.1).foldl meetO [])⟩) (fun x => x.1 ≤ roots.length) (fun x => roots.length - x.1) (0, uo) (Nat.zero_le _) (by simp +contextual -dsimp only [↓SD, SU, SB, Nat.reduceAdd, Nat.reduceBEq, Nat.reduceEqDiff, Nat.reduceLeDiff, Nat.reduceLT, Nat.reduceSub, ↓reduceIte, zA, zI, zN, reduceCtorEq, Int.reduceToNat, zE]) (by unfold meetHp; simp +contextual -dsimp (maxSteps := 2000000) only [↓SD, SU, SB, Nat.reduceAdd, Nat.reduceBEq, Nat.reduceEqDiff, Nat.reduceLeDiff, Nat.reduceLT, Nat.reduceSub, ↓reduceIte, zA, zI, zN, reduceCtorEq, Int.reduceToNat, zE, fillM_full, List.foldl_nil, intsO]) ?_
  rintro ⟨k, u⟩ hk
  simp only at hk
  have hin : ∀ k, InO h.length ((roots.take k).foldl meetO []) := fun k => fold_in ⟨List.nodup_nil, fun i hi => by cases hi⟩ (fun v hv' => fun i hi => cellOf_lt (hv v (List.mem_of_mem_take hv')) hi)
  by_cases hlt : k < roots.length
  · have e := getD_map av roots k .top hlt
    have hst : (roots.take (k + 1)).foldl meetO [] = meetO ((roots.take k).foldl meetO []) roots[k] := by rw [List.take_succ_eq_append_getElem hlt, List.foldl_append]; rfl
    have C := fun u => meet_ok va vo ua u h.length _ roots[k] (hin k) hl (hv _ (List.getElem_mem hlt))
    generalize roots[k] = v at *
    generalize (roots.take k).foldl meetO [] = o at *
    rw [av_Val] at C
    unfold meetHp at C ⊢
    simp +contextual -dsimp (maxSteps := 2000000) only [↓SD, SU, SB, Nat.reduceAdd, Nat.reduceBEq, Nat.reduceEqDiff, Nat.reduceLeDiff, Nat.reduceLT, Nat.reduceSub, ↓reduceIte, zA, zI, zN, reduceCtorEq, Int.reduceToNat, zE, Int.reduceEq, Int.reduceLT, Int.reduceLE, Int.reduceNeg, Int.reduceAdd, Int.reduceSub, hlt, map_len, e, av_Val]
    intro v11
    refine aCallH_of [7, 6, 16, 13] (C u) (by simp +contextual -dsimp only [↓SD, SU, SB, Nat.reduceAdd, Nat.reduceBEq, Nat.reduceEqDiff, Nat.reduceLeDiff, Nat.reduceLT, Nat.reduceSub, ↓reduceIte, zA, zI, zN, reduceCtorEq, Int.reduceToNat, zE]) ?_
    rintro r hp' ⟨u', rfl, rfl⟩
    unfold meetHp
    simp +contextual -dsimp (maxSteps := 2000000) only [↓SD, SU, SB, Nat.reduceAdd, Nat.reduceBEq, Nat.reduceEqDiff, Nat.reduceLeDiff, Nat.reduceLT, Nat.reduceSub, ↓reduceIte, zA, zI, zN, reduceCtorEq, Int.reduceToNat, zE, Int.reduceEq, Int.reduceLT, Int.reduceLE, Int.reduceNeg, Int.reduceAdd, Int.reduceSub]
    exact ⟨by omega, Goes.le ⟨(k + 1, u'), ⟨hlt, (by first | omega | (simp only; omega))⟩, rfl⟩ (by simp +contextual -dsimp only [↓SD, SU, SB, Nat.reduceAdd, Nat.reduceBEq, Nat.reduceEqDiff, Nat.reduceLeDiff, Nat.reduceLT, Nat.reduceSub, ↓reduceIte, zA, zI, zN, reduceCtorEq, Int.reduceToNat, zE, Int.natCast_add]) (by simp +contextual -dsimp only [↓SD, SU, SB, Nat.reduceAdd, Nat.reduceBEq, Nat.reduceEqDiff, Nat.reduceLeDiff, Nat.reduceLT, Nat.reduceSub, ↓reduceIte, zA, zI, zN, reduceCtorEq, Int.reduceToNat, zE, hst])⟩
  obtain rfl : k = roots.length := by omega
  have hin' := hin roots.length
  rw [List.take_length] at hin' ⊢
  clear hin
  unfold meetHp
  simp +contextual -dsimp (maxSteps := 2000000) only [↓SD, SU, SB, Nat.reduceAdd, Nat.reduceBEq, Nat.reduceEqDiff, Nat.reduceLeDiff, Nat.reduceLT, Nat.reduceSub, ↓reduceIte, zA, zI, zN, reduceCtorEq, Int.reduceToNat, zE, Int.reduceEq, Int.reduceLT, Int.reduceLE, Int.reduceNeg, Int.reduceAdd, Int.reduceSub, Nat.lt_irrefl, map_len]
  refine aLoop_of (X := OS) (fun x => ⟨[(0, .sl (h.map av)), (6, .ptr 6 vo 0 0), (7, .ptr 7 va 0 0), (9, .fn 31 [.ptr 7 va 0 0, .ptr 6 vo 0 0]), (12, .int .i64 x.k)], meetHp va vo ua x.u h.length x.o⟩) (fun x => InO h.length x.o ∧ x.k ≤ x.o.length ∧ bfs h (h.length + 1 - x.k) x.k x.o = reachO h roots) (fun x => h.length + 1 - x.k) ⟨0, roots.foldl meetO [], u⟩ ⟨hin', Nat.zero_le _, rfl⟩ (by simp +contextual -dsimp only [↓SD, SU, SB, Nat.reduceAdd, Nat.reduceBEq, Nat.reduceEqDiff, Nat.reduceLeDiff, Nat.reduceLT, Nat.reduceSub, ↓reduceIte, zA, zI, zN, reduceCtorEq, Int.reduceToNat, zE]) (by unfold meetHp; simp +contextual -dsimp (maxSteps := 2000000) only [↓SD, SU, SB, Nat.reduceAdd, Nat.reduceBEq, Nat.reduceEqDiff, Nat.reduceLeDiff, Nat.reduceLT, Nat.reduceSub, ↓reduceIte, zA, zI, zN, reduceCtorEq, Int.reduceToNat, zE]) ?_
  rintro ⟨k, o, u⟩ ⟨hio, hko, hbf⟩
  dsimp only at hio hko hbf
  have hol := hio.len
  by_cases hlt : k < o.length
  · obtain ⟨m, hm⟩ : ∃ m, m = o[k] := ⟨_, rfl⟩
    have hmn : m < h.length := hm ▸ hio.2 _ (List.getElem_mem hlt)
    have hmg : o.getD k 0 = m := by rw [hm, List.getD_eq_getElem?_getD, List.getElem?_eq_getElem hlt]; rfl
    have hcell := hc _ (List.getElem_mem hmn)
    have hva := cellB_vala hcell
    obtain ⟨hvb, hvbn⟩ := cellB_valb hcell
    have e := getD_map av h m .top hmn
    have hcg : h.getD m noCell = h[m] := by rw [List.getD_eq_getElem?_getD, List.getElem?_eq_getElem hmn]; rfl
    have hio1 : InO h.length (meetO o h[m].a) := meetO_in hio (fun i hi => cellOf_lt hva hi)
    have hio2 : InO h.length (meetO (meetO o h[m].a) h[m].b) := meetO_in hio1 hvb
    have hpre := meetO_pre o h[m].a
    have hlt1 : k < (meetO o h[m].a).length := Nat.lt_of_lt_of_le hlt hpre.length_le
    have hpre2 := meetO_pre (meetO o h[m].a) h[m].b
    have hlt2 := Nat.le_trans hpre.length_le hpre2.length_le
    have ints_get : ∀ (q : List Nat) (hq : k < q.length), o <+: q → ((intsO q).map (av : Int → AV)).getD k .top = .int .i64 (m : Int) := by
      intro q hq hp
      have h1 := pre_getD hp hlt
      rw [hmg, List.getD_eq_getElem?_getD, List.getElem?_eq_getElem hq] at h1
      simp only [Option.getD_some] at h1
      rw [getD_map av (intsO q) k .top (by rw [intsO_len]; exact hq)]
      simp [intsO, h1, av_int]
    have hbf' : bfs h (h.length + 1 - (k + 1)) (k + 1) (meetO (meetO o h[m].a) h[m].b) = reachO h roots := by
      rw [← hbf, show h.length + 1 - k = (h.length + 1 - (k + 1)) + 1 by omega, bfs, if_pos hlt, hmg]
      unfold nextO; rw [hcg]
    have C1 := meet_ok va vo ua u h.length o h[m].a hio hl hva
    have C2 := fun u => meet_okb va vo ua u h.length (meetO o h[m].a) h[m].b hio1 hl hvb hvbn
    have g1 := ints_get o hlt List.prefix_rfl
    have g2 := ints_get _ hlt1 hpre
    have hlo := Nat.lt_of_lt_of_le hlt hpre.length_le
    clear ints_get hcg hcell hva hvb hvbn hbf hm
    generalize h[m] = c at *
    rw [av_Val] at C1 C2
    unfold meetHp at C1 C2 ⊢
    simp +contextual -dsimp (maxSteps := 2000000) only [↓SD, SU, SB, Nat.reduceAdd, Nat.reduceBEq, Nat.reduceEqDiff, Nat.reduceLeDiff, Nat.reduceLT, Nat.reduceSub, ↓reduceIte, zA, zI, zN, reduceCtorEq, Int.reduceToNat, zE, Int.reduceEq, Int.reduceLT, Int.reduceLE, Int.reduceNeg, Int.reduceAdd, Int.reduceSub, intsO_len, map_len, hlt, g1, hmn, e, av_Cell]
    refine aCallH_of [7, 6, 16, 13] C1 (by simp +contextual -dsimp only [↓SD, SU, SB, Nat.reduceAdd, Nat.reduceBEq, Nat.reduceEqDiff, Nat.reduceLeDiff, Nat.reduceLT, Nat.reduceSub, ↓reduceIte, zA, zI, zN, reduceCtorEq, Int.reduceToNat, zE]) ?_
    rintro r hp' ⟨u1, rfl, rfl⟩
    unfold meetHp
    generalize meetO o c.a = o1 at *
    simp +contextual -dsimp (maxSteps := 2000000) only [↓SD, SU, SB, Nat.reduceAdd, Nat.reduceBEq, Nat.reduceEqDiff, Nat.reduceLeDiff, Nat.reduceLT, Nat.reduceSub, ↓reduceIte, zA, zI, zN, reduceCtorEq, Int.reduceToNat, zE, Int.reduceEq, Int.reduceLT, Int.reduceLE, Int.reduceNeg, Int.reduceAdd, Int.reduceSub, intsO_len, map_len, hlt1, g2, hmn, e, av_Cell]
    refine aCallH_of [7, 6, 16, 13] (C2 u1) (by simp +contextual -dsimp only [↓SD, SU, SB, Nat.reduceAdd, Nat.reduceBEq, Nat.reduceEqDiff, Nat.reduceLeDiff, Nat.reduceLT, Nat.reduceSub, ↓reduceIte, zA, zI, zN, reduceCtorEq, Int.reduceToNat, zE]) ?_
    rintro r hp' ⟨u2, rfl, rfl⟩
    unfold meetHp
    simp +contextual -dsimp (maxSteps := 2000000) only [↓SD, SU, SB, Nat.reduceAdd, Nat.reduceBEq, Nat.reduceEqDiff, Nat.reduceLeDiff, Nat.reduceLT, Nat.reduceSub, ↓reduceIte, zA, zI, zN, reduceCtorEq, Int.reduceToNat, zE, Int.reduceEq, Int.reduceLT, Int.reduceLE, Int.reduceNeg, Int.reduceAdd, Int.reduceSub]
    exact ⟨by omega, Goes.le ⟨⟨k + 1, meetO o1 c.b, u2⟩, ⟨⟨hio2, by dsimp only; omega, hbf'⟩, by dsimp only; omega⟩, rfl⟩ (by simp +contextual -dsimp only [↓SD, SU, SB, Nat.reduceAdd, Nat.reduceBEq, Nat.reduceEqDiff, Nat.reduceLeDiff, Nat.reduceLT, Nat.reduceSub, ↓reduceIte, zA, zI, zN, reduceCtorEq, Int.reduceToNat, zE, Int.natCast_add]) (by simp +contextual -dsimp only [↓SD, SU, SB, Nat.reduceAdd, Nat.reduceBEq, Nat.reduceEqDiff, Nat.reduceLeDiff, Nat.reduceLT, Nat.reduceSub, ↓reduceIte, zA, zI, zN, reduceCtorEq, Int.reduceToNat, zE])⟩
  · have hk2 : k = o.length := by omega
    have hR : reachO h roots = o := by
      rw [← hbf, show h.length + 1 - k = (h.length - k) + 1 by omega, bfs, if_neg hlt]
    have hlt' : ¬ (k : Int) < (o.length : Int) := by omega
    unfold meetHp
    simp +contextual -dsimp (maxSteps := 2000000) only [↓SD, SU, SB, Nat.reduceAdd, Nat.reduceBEq, Nat.reduceEqDiff, Nat.reduceLeDiff, Nat.reduceLT, Nat.reduceSub, ↓reduceIte, zA, zI, zN, reduceCtorEq, Int.reduceToNat, zE, Int.reduceEq, Int.reduceLT, Int.reduceLE, Int.reduceNeg, Int.reduceAdd, Int.reduceSub, intsO_len, map_len, hlt']
    refine Goes.post [(13, ⟨u, false, 3, 1, (intsO o).map av⟩), (16, ⟨ua, false, 3, 1, (atL h.length o).map av⟩)] ?_
    simp +contextual -dsimp (maxSteps := 2000000) only [↓SD, SU, SB, Nat.reduceAdd, Nat.reduceBEq, Nat.reduceEqDiff, Nat.reduceLeDiff, Nat.reduceLT, Nat.reduceSub, ↓reduceIte, zA, zI, zN, reduceCtorEq, Int.reduceToNat, zE, map_len, intsO_len, atL_len, Nat.le_refl]
    exact ⟨ua, u, by rw [hR], by rw [hR]⟩
end Go.Proofs.Ytpignflebknagaa
