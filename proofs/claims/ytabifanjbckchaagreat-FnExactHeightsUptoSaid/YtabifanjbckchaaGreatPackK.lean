/-
  THE GROUND OF DATA, in one text. Conditions: none.
-/
import Derived.Test.YtabifanjbckchaaGreatPackJ
import Derived.Test.YtabifanjbckchaaGreatPackI

set_option linter.unusedVariables false
set_option linter.unusedSimpArgs false
set_option maxRecDepth 100000
namespace Go.Proofs.YtabifanjbckchaaGreat
open Go.RowKit Go.Proofs.YtabifanjbckchaaGreat.Av Go.Proofs.YtabifanjbckchaaGreat.Ml
open Go.Proofs.YtabifanjbckchaaGreat.Av.AVal (av)
open OVal (ov oh on)

/-- two lists of numbers in rows of their own, and whether all is right -/
def HPost (nm : Nat) (A B : List Int) (ok : Bool) (r : AV) (hp' : Hp) : Prop := ∃ vs, r = .tup [ov nm vs A, ov (nm + 1) vs B, .bool ok] ∧ hp' = oh nm vs A ++ oh (nm + 1) vs B
theorem hpost_of (nm : Nat) (A B : List Int) (ok : Bool) (u v : Nat) : HPost nm A B ok (.tup [.row nm u A.length, .row (nm + 1) v B.length, .bool ok]) [(nm, ⟨u, false, 3, 1, A.map av⟩), (nm + 1, ⟨v, false, 3, 1, B.map av⟩)] := by
  refine ⟨fun k => if k = nm then u else v, ?_, ?_⟩
  · rw [ov_list, ov_list]
    have : ¬ nm + 1 = nm := by omega
    simp [this]
  · rw [oh_ints, oh_ints]
    have : ¬ nm + 1 = nm := by omega
    simp [this]
/-- a row that is being filled with -1 -/
def fillN (n k : Nat) : List AV := (List.replicate k (-1 : Int) ++ List.replicate (n - k) 0).map av
theorem fillN_len {n k : Nat} (h : k ≤ n) : (fillN n k).length = n := by simp [fillN]; omega
theorem fillN_zero (n : Nat) : fillN n 0 = List.replicate n (.int .i64 0) := by simp [fillN, av_int]
theorem fillN_full (n : Nat) : fillN n n = (List.replicate n (-1 : Int)).map av := by simp [fillN]
theorem fillN_set {n k : Nat} (h : k < n) : (fillN n k).set k (.int .i64 (-1)) = fillN n (k + 1) := by
  have e : (.int .i64 (-1) : AV) = av (-1 : Int) := rfl
  unfold fillN
  rw [e, ← List.map_set]
  congr 1
  rw [List.set_append_right _ _ (by simp)]
  simp only [List.length_replicate, Nat.sub_self]
  obtain ⟨m, hm⟩ : ∃ m, n - k = m + 1 := ⟨n - k - 1, by omega⟩
  have hm2 : n - (k + 1) = m := by omega
  rw [hm, hm2, List.replicate_succ, List.set_cons_zero, List.replicate_succ', List.append_assoc]
  rfl
theorem hg_skip {nm : Nat} {b : Box} {r : Hp} : hget ((nm + 1, b) :: r) nm = hget r nm := by simp [hget]
theorem hg_skip' {nm : Nat} {b : Box} {r : Hp} : hget ((nm, b) :: r) (nm + 1) = hget r (nm + 1) := by simp [hget]
theorem fillN_get {n k : Nat} (h : k < n) : (fillN n k).getD k .top = .int .i64 0 := by
  obtain ⟨m, hm⟩ : ∃ m, n - k = m + 1 := ⟨n - k - 1, by omega⟩
  simp [fillN, List.getD_eq_getElem?_getD, hm, List.replicate_succ, av_int]
structure HS where
  M : List Fc
  todo : List Fc
  u : Nat
theorem lfc (l : List Fc) : (l.map (av : Fc → AV)).length = l.length := by simp
set_option maxHeartbeats 8000000 in
theorem implHeights_ok (nm : Nat) (hnm : 1000 ≤ nm) (c : Code) (hx : Bulk.bulk c ≤ 1048576) : CallsH Tryz.prog 8 [av c] [] (HPost nm (hgtsV c) (hgtsE c) (hgtsOk c)) := by
  obtain ⟨⟨hl, hq⟩, hs, hp⟩ := code_small hx
  have CR := implReachedF_ok c hx
  refine funH_impl_Heights rfl ?_
  have no : ∀ (Q : Prop), hgtsOk c = false → (HPost nm [] [] false = HPost nm (hgtsV c) (hgtsE c) (hgtsOk c)) := fun Q h => by
    unfold hgtsV hgtsE
    rw [h]; rfl
  have no := no True
  rw [av_Code] at CR
  simp +contextual -dsimp (maxSteps := 2000000) only [↓SD, SU, SB, Nat.reduceAdd, Nat.reduceBEq, Nat.reduceEqDiff, Nat.reduceLeDiff, Nat.reduceLT, Nat.reduceSub, ↓reduceIte, zA, zI, zN, reduceCtorEq, Int.reduceToNat, zE, Int.reduceEq, Int.reduceLT, Int.reduceLE, Int.reduceNeg, Int.reduceAdd, Int.reduceSub, ir_impl_Heights, rs_impl_Heights, av_Code, map_len]
  by_cases hr : reachedL c = []
  · have e : reachA (reachedL c) = .nils := by unfold reachA; rw [if_pos hr]
    rw [e] at CR
    rw [← no (none_no hr)]
    refine aCallK_of _ CR ?_
    simp +contextual -dsimp (maxSteps := 2000000) only [↓SD, SU, SB, Nat.reduceAdd, Nat.reduceBEq, Nat.reduceEqDiff, Nat.reduceLeDiff, Nat.reduceLT, Nat.reduceSub, ↓reduceIte, zA, zI, zN, reduceCtorEq, Int.reduceToNat, zE, Int.reduceEq, Int.reduceLT, Int.reduceLE, Int.reduceNeg, Int.reduceAdd, Int.reduceSub]
    refine Goes.new 2 nm 3 1 rfl fun u => ?_
    refine Goes.new 3 (nm + 1) 3 1 rfl fun v => ?_
    refine Goes.post [(nm, ⟨u, false, 3, 1, []⟩), (nm + 1, ⟨v, false, 3, 1, []⟩)] ?_
    simp +contextual -dsimp (maxSteps := 2000000) only [↓SD, SU, SB, Nat.reduceAdd, Nat.reduceBEq, Nat.reduceEqDiff, Nat.reduceLeDiff, Nat.reduceLT, Nat.reduceSub, ↓reduceIte, zA, zI, zN, reduceCtorEq, Int.reduceToNat, zE, hg_eq, hg_skip, false_and]
    exact hpost_of nm [] [] false u v
  have e : reachA (reachedL c) = .sl ((reachedL c).map av) := by unfold reachA; rw [if_neg hr]
  rw [e] at CR
  have hne : ¬ (reachedL c).map (av : Int → AV) = [] := by simpa using hr
  refine aCallK_of _ CR ?_
  obtain ⟨hb, hin⟩ := rch_in hr
  have hn : 1 ≤ c.ins.length ∧ c.ins.length ≤ 3000 := by
    have := hb
    unfold codeB at this
    simp only [Bool.and_eq_true, decide_eq_true_eq] at this
    omega
  simp +contextual -dsimp (maxSteps := 2000000) only [↓SD, SU, SB, Nat.reduceAdd, Nat.reduceBEq, Nat.reduceEqDiff, Nat.reduceLeDiff, Nat.reduceLT, Nat.reduceSub, ↓reduceIte, zA, zI, zN, reduceCtorEq, Int.reduceToNat, zE, Int.reduceEq, Int.reduceLT, Int.reduceLE, Int.reduceNeg, Int.reduceAdd, Int.reduceSub, hne, map_len]
  clear CR e hne
  have hbig : (c.ins.length : Int) * 8 ≤ 140737488355328 := by omega
  refine ⟨⟨hbig, fun a => ⟨hbig, fun b => ?_⟩⟩, hbig, fun b => ⟨hbig, fun a => ?_⟩⟩
  all_goals
    refine aLoop_of (X := Nat) (fun k => ⟨[(1, .obj [.sl (c.ins.map av), .sl (c.pats.map av)]), (5, .row 18 a c.ins.length), (6, .row 22 b c.ins.length), (24, .int .i64 c.ins.length), (25, .int .i64 k)], [(18, ⟨a, false, 3, 1, fillN c.ins.length k⟩), (22, ⟨b, false, 3, 1, fillN c.ins.length k⟩)]⟩) (fun k => k ≤ c.ins.length) (fun k => c.ins.length - k) 0 (Nat.zero_le _) (by simp +contextual -dsimp only [↓SD, SU, SB, Nat.reduceAdd, Nat.reduceBEq, Nat.reduceEqDiff, Nat.reduceLeDiff, Nat.reduceLT, Nat.reduceSub, ↓reduceIte, zA, zI, zN, reduceCtorEq, Int.reduceToNat, zE]) (by simp +contextual -dsimp only [↓SD, SU, SB, Nat.reduceAdd, Nat.reduceBEq, Nat.reduceEqDiff, Nat.reduceLeDiff, Nat.reduceLT, Nat.reduceSub, ↓reduceIte, zA, zI, zN, reduceCtorEq, Int.reduceToNat, zE, fillN_zero]) ?_
    intro k hkn
    have hfl := fillN_len hkn
    by_cases hlt : k < c.ins.length
    · have hfs := fillN_set hlt
      have hfg := fillN_get hlt
      simp +contextual -dsimp (maxSteps := 2000000) only [↓SD, SU, SB, Nat.reduceAdd, Nat.reduceBEq, Nat.reduceEqDiff, Nat.reduceLeDiff, Nat.reduceLT, Nat.reduceSub, ↓reduceIte, zA, zI, zN, reduceCtorEq, Int.reduceToNat, zE, Int.reduceEq, Int.reduceLT, Int.reduceLE, Int.reduceNeg, Int.reduceAdd, Int.reduceSub, hlt, hfl, hfg]
      exact ⟨by omega, Goes.le ⟨k + 1, ⟨hlt, (by first | omega | (simp only; omega))⟩, rfl⟩ (by simp +contextual -dsimp only [↓SD, SU, SB, Nat.reduceAdd, Nat.reduceBEq, Nat.reduceEqDiff, Nat.reduceLeDiff, Nat.reduceLT, Nat.reduceSub, ↓reduceIte, zA, zI, zN, reduceCtorEq, Int.reduceToNat, zE, Int.natCast_add]) (by simp +contextual -dsimp only [↓SD, SU, SB, Nat.reduceAdd, Nat.reduceBEq, Nat.reduceEqDiff, Nat.reduceLeDiff, Nat.reduceLT, Nat.reduceSub, ↓reduceIte, zA, zI, zN, reduceCtorEq, Int.reduceToNat, zE, hfs])⟩
    · obtain rfl : k = c.ins.length := by omega
      clear hkn hfl
      have hff := fillN_full c.ins.length
      rw [← valsF_nil] at hff
      have hff2 : valsF c.ins.length [] = envsF c.ins.length [] := by rw [valsF_nil, envsF_nil]
      simp +contextual -dsimp (maxSteps := 2000000) only [↓SD, SU, SB, Nat.reduceAdd, Nat.reduceBEq, Nat.reduceEqDiff, Nat.reduceLeDiff, Nat.reduceLT, Nat.reduceSub, ↓reduceIte, zA, zI, zN, reduceCtorEq, Int.reduceToNat, zE, Int.reduceEq, Int.reduceLT, Int.reduceLE, Int.reduceNeg, Int.reduceAdd, Int.reduceSub, Nat.lt_irrefl]
      intro u36
      refine aLoop_of (X := HS) (fun x => ⟨[(1, .obj [.sl (c.ins.map av), .sl (c.pats.map av)]), (5, .row 18 a c.ins.length), (6, .row 22 b c.ins.length), (8, .row 36 x.u x.todo.length)], [(18, ⟨a, false, 3, 1, (valsF c.ins.length x.M).map av⟩), (22, ⟨b, false, 3, 1, (envsF c.ins.length x.M).map av⟩), (36, ⟨x.u, false, 54, 3, x.todo.map av⟩)]⟩) (fun x => HInv c x.M x.todo ∧ x.todo.length ≤ 2 * x.M.length + 1) (fun x => 3 * (c.ins.length - x.M.length) + x.todo.length) ⟨[], [⟨0, 0, 0⟩], u36⟩ ⟨HInv.start c, by simp⟩ (by simp +contextual -dsimp only [↓SD, SU, SB, Nat.reduceAdd, Nat.reduceBEq, Nat.reduceEqDiff, Nat.reduceLeDiff, Nat.reduceLT, Nat.reduceSub, ↓reduceIte, zA, zI, zN, reduceCtorEq, Int.reduceToNat, zE, av_Fc]) (by simp +contextual -dsimp only [↓SD, SU, SB, Nat.reduceAdd, Nat.reduceBEq, Nat.reduceEqDiff, Nat.reduceLeDiff, Nat.reduceLT, Nat.reduceSub, ↓reduceIte, zA, zI, zN, reduceCtorEq, Int.reduceToNat, zE, hff, hff2, av_Fc]) ?_
      rintro ⟨M, todo, u⟩ ⟨hI, hbt⟩
      dsimp only at hI hbt ⊢
      have hMl := hI.len hr
      have hvl := valsF_len c.ins.length M
      have hel := envsF_len c.ins.length M
      rcases List.eq_nil_or_concat todo with rfl | ⟨t, x, rfl⟩
      · obtain ⟨d1, d2, d3⟩ := hI.done hr
        rw [d1, d2, d3]
        simp +contextual -dsimp (maxSteps := 2000000) only [↓SD, SU, SB, Nat.reduceAdd, Nat.reduceBEq, Nat.reduceEqDiff, Nat.reduceLeDiff, Nat.reduceLT, Nat.reduceSub, ↓reduceIte, zA, zI, zN, reduceCtorEq, Int.reduceToNat, zE, Int.reduceEq, Int.reduceLT, Int.reduceLE, Int.reduceNeg, Int.reduceAdd, Int.reduceSub, false_and]
        refine Goes.ren 2 18 nm (v := a) (n := c.ins.length) rfl hg_eq rfl fun v1 => ?_
        refine Goes.ren 3 22 (nm + 1) (v := b) (n := c.ins.length) rfl (by have : ¬ nm = 22 := by omega
                                                                           simp [hget, hrest, this]; rfl) rfl fun v2 => ?_
        have hn1 : ¬ (22 : Nat) = nm := by omega
        have hn2 : ¬ nm = 22 := by omega
        have hn3 : (nm == 22) = false := by simpa using hn2
        refine Goes.post [(nm, ⟨v1, false, 3, 1, (valsF c.ins.length M).map av⟩), (nm + 1, ⟨v2, false, 3, 1, (envsF c.ins.length M).map av⟩)] ?_
        simp +contextual -dsimp (maxSteps := 2000000) only [↓SD, SU, SB, Nat.reduceAdd, Nat.reduceBEq, Nat.reduceEqDiff, Nat.reduceLeDiff, Nat.reduceLT, Nat.reduceSub, ↓reduceIte, zA, zI, zN, reduceCtorEq, Int.reduceToNat, zE, hg_eq, hg_skip, false_and, hrest, List.filter_cons, List.filter_nil, hn1, hn2, hn3]
        have := hpost_of nm (valsF c.ins.length M) (envsF c.ins.length M) true v1 v2
        rw [hvl, hel] at this
        exact this
      · rw [List.concat_eq_append] at hI hbt ⊢
        obtain ⟨hH, hB⟩ := hI.t x (by simp)
        have hk := (hin _ (hts_rch hH)).1
        have htl : (t ++ [x]).length = t.length + 1 := by simp
        rw [htl] at hbt
        have e1 : ((t ++ [x]).map (av : Fc → AV)).getD t.length .top = av x := by simp [List.getD_eq_getElem?_getD]
        have e3 : (t.length : Int) + 1 - 1 = t.length := by omega
        have e4 : (0 : Int) < (t.length : Int) + 1 := by omega
        have ev := getD_map av (valsF c.ins.length M) x.k .top (by rw [hvl]; exact hk)
        have ee := getD_map av (envsF c.ins.length M) x.k .top (by rw [hel]; exact hk)
        rw [valsF_get M hk] at ev
        rw [envsF_get M hk] at ee
        have htk : List.take t.length ((t ++ [x]).map (av : Fc → AV)) = t.map av := by simp [List.take_append]
        have htk2 : List.take t.length (t.map (av : Fc → AV) ++ [av x]) = t.map av := by simp [List.take_append]
        have hml : ((t ++ [x]).map (av : Fc → AV)).length = t.length + 1 := by simp
        cases hlk : lookF M x.k with
        | some z =>
          obtain ⟨hz, hzk⟩ := look_mem hlk
          have hzB := (hI.o z hz).2.2
          rw [hlk] at ev ee
          simp only [Option.map_some, Option.getD_some] at ev ee
          have hz0 : (0 : Int) ≤ z.v := by unfold FcB at hzB; omega
          have ht1 : -9223372036854775808 ≤ (t.length : Int) ∧ (t.length : Int) ≤ 9223372036854775807 := by omega
          by_cases hv : z.v = x.v
          · have hx0 : (0 : Int) ≤ x.v := by omega
            by_cases he : z.e = x.e
            · have hzx : z = x := by
                obtain ⟨zk, zv, ze⟩ := z
                obtain ⟨xk, xv, xe⟩ := x
                simp only at hzk hv he
                rw [hzk, hv, he]
              subst hzx
              simp +contextual -dsimp (maxSteps := 2000000) only [↓SD, SU, SB, Nat.reduceAdd, Nat.reduceBEq, Nat.reduceEqDiff, Nat.reduceLeDiff, Nat.reduceLT, Nat.reduceSub, ↓reduceIte, zA, zI, zN, reduceCtorEq, Int.reduceToNat, zE, Int.reduceEq, Int.reduceLT, Int.reduceLE, Int.reduceNeg, Int.reduceAdd, Int.reduceSub, htl, false_and, Int.natCast_add, e1, e3, e4, hk, hml, hvl, hel, map_len, ev, ee, av_Fc, av_int, hz0, ht1]
              refine ⟨by omega, fun u9 => ⟨by omega, ?_⟩⟩
              refine Goes.trim 36 t.length (by simp [hget]; rfl) ?_
              exact Goes.le ⟨⟨M, t, u⟩, ⟨⟨hI.skip hz, by dsimp only; omega⟩, by dsimp only; omega⟩, rfl⟩ (by simp +contextual -dsimp only [↓SD, SU, SB, Nat.reduceAdd, Nat.reduceBEq, Nat.reduceEqDiff, Nat.reduceLeDiff, Nat.reduceLT, Nat.reduceSub, ↓reduceIte, zA, zI, zN, reduceCtorEq, Int.reduceToNat, zE]) (by simp +contextual -dsimp only [↓SD, SU, SB, Nat.reduceAdd, Nat.reduceBEq, Nat.reduceEqDiff, Nat.reduceLeDiff, Nat.reduceLT, Nat.reduceSub, ↓reduceIte, zA, zI, zN, reduceCtorEq, Int.reduceToNat, zE, htk, htk2, List.map_append])
            · rw [← no (clash_no (hI.o z hz).1 hH hzk (fun e => he (by rw [e])))]
              simp +contextual -dsimp (maxSteps := 2000000) only [↓SD, SU, SB, Nat.reduceAdd, Nat.reduceBEq, Nat.reduceEqDiff, Nat.reduceLeDiff, Nat.reduceLT, Nat.reduceSub, ↓reduceIte, zA, zI, zN, reduceCtorEq, Int.reduceToNat, zE, Int.reduceEq, Int.reduceLT, Int.reduceLE, Int.reduceNeg, Int.reduceAdd, Int.reduceSub, htl, false_and, Int.natCast_add, e1, e3, e4, hk, hml, hvl, hel, map_len, ev, ee, av_Fc, av_int, hz0, ht1, hv, he, hx0]
              refine ⟨by omega, fun u9 => ⟨by omega, ?_⟩⟩
              refine Goes.new 2 nm 3 1 rfl fun v1 => ?_
              refine Goes.new 3 (nm + 1) 3 1 rfl fun v2 => ?_
              refine Goes.post [(nm, ⟨v1, false, 3, 1, []⟩), (nm + 1, ⟨v2, false, 3, 1, []⟩)] ?_
              simp +contextual -dsimp (maxSteps := 2000000) only [↓SD, SU, SB, Nat.reduceAdd, Nat.reduceBEq, Nat.reduceEqDiff, Nat.reduceLeDiff, Nat.reduceLT, Nat.reduceSub, ↓reduceIte, zA, zI, zN, reduceCtorEq, Int.reduceToNat, zE, hg_eq, hg_skip, false_and]
              exact hpost_of nm [] [] false v1 v2
          · rw [← no (clash_no (hI.o z hz).1 hH hzk (fun e => hv (by rw [e])))]
            simp +contextual -dsimp (maxSteps := 2000000) only [↓SD, SU, SB, Nat.reduceAdd, Nat.reduceBEq, Nat.reduceEqDiff, Nat.reduceLeDiff, Nat.reduceLT, Nat.reduceSub, ↓reduceIte, zA, zI, zN, reduceCtorEq, Int.reduceToNat, zE, Int.reduceEq, Int.reduceLT, Int.reduceLE, Int.reduceNeg, Int.reduceAdd, Int.reduceSub, htl, false_and, Int.natCast_add, e1, e3, e4, hk, hml, hvl, hel, map_len, ev, ee, av_Fc, av_int, hz0, ht1, hv]
            refine ⟨by omega, fun u9 => ⟨by omega, ?_⟩⟩
            refine Goes.new 2 nm 3 1 rfl fun v1 => ?_
            refine Goes.new 3 (nm + 1) 3 1 rfl fun v2 => ?_
            refine Goes.post [(nm, ⟨v1, false, 3, 1, []⟩), (nm + 1, ⟨v2, false, 3, 1, []⟩)] ?_
            simp +contextual -dsimp (maxSteps := 2000000) only [↓SD, SU, SB, Nat.reduceAdd, Nat.reduceBEq, Nat.reduceEqDiff, Nat.reduceLeDiff, Nat.reduceLT, Nat.reduceSub, ↓reduceIte, zA, zI, zN, reduceCtorEq, Int.reduceToNat, zE, hg_eq, hg_skip, false_and]
            exact hpost_of nm [] [] false v1 v2
        | none =>
          rw [hlk] at ev ee
          simp only [Option.map_none, Option.getD_none] at ev ee
          have ht1 : -9223372036854775808 ≤ (t.length : Int) ∧ (t.length : Int) ≤ 9223372036854775807 := by omega
          have hvs : ((valsF c.ins.length M).map (av : Int → AV)).set x.k (.int .i64 x.v) = (valsF c.ins.length (M ++ [x])).map av := by
            rw [← valsF_set hlk, List.map_set]; rfl
          have hes : ((envsF c.ins.length M).map (av : Int → AV)).set x.k (.int .i64 x.e) = (envsF c.ins.length (M ++ [x])).map av := by
            rw [← envsF_set hlk, List.map_set]; rfl
          have CL := leaps_ok c hx hb x hk (by unfold FcB at hB; omega) (by unfold FcB at hB; omega)
          rw [av_Code] at CL
          simp +contextual -dsimp (maxSteps := 2000000) only [↓SD, SU, SB, Nat.reduceAdd, Nat.reduceBEq, Nat.reduceEqDiff, Nat.reduceLeDiff, Nat.reduceLT, Nat.reduceSub, ↓reduceIte, zA, zI, zN, reduceCtorEq, Int.reduceToNat, zE, Int.reduceEq, Int.reduceLT, Int.reduceLE, Int.reduceNeg, Int.reduceAdd, Int.reduceSub, htl, false_and, Int.natCast_add, e1, e3, e4, hk, hml, hvl, hel, map_len, ev, ee, av_Fc, av_int, ht1]
          refine ⟨by omega, fun u9 => ⟨by omega, ?_⟩⟩
          refine ghost_of (Goes.frz 9 (Goes.pur 9 (Goes.here ?_)))
          simp +contextual -dsimp (maxSteps := 2000000) only [↓SD, SU, SB, Nat.reduceAdd, Nat.reduceBEq, Nat.reduceEqDiff, Nat.reduceLeDiff, Nat.reduceLT, Nat.reduceSub, ↓reduceIte, zA, zI, zN, reduceCtorEq, Int.reduceToNat, zE, Int.reduceEq, Int.reduceLT, Int.reduceLE, Int.reduceNeg, Int.reduceAdd, Int.reduceSub, htl, false_and, Int.natCast_add, hk, hml, hvl, hel, map_len, ev, ee, hvs, hes, av_int]
          refine aCallK_of _ CL ?_
          by_cases hbad : badF c x
          · have el : leapA c x = .tup [.nils, .bool false] := if_pos hbad
            rw [← no (bad_no hH hbad), el]
            simp +contextual -dsimp (maxSteps := 2000000) only [↓SD, SU, SB, Nat.reduceAdd, Nat.reduceBEq, Nat.reduceEqDiff, Nat.reduceLeDiff, Nat.reduceLT, Nat.reduceSub, ↓reduceIte, zA, zI, zN, reduceCtorEq, Int.reduceToNat, zE, Int.reduceEq, Int.reduceLT, Int.reduceLE, Int.reduceNeg, Int.reduceAdd, Int.reduceSub]
            refine Goes.new 2 nm 3 1 rfl fun v1 => ?_
            refine Goes.new 3 (nm + 1) 3 1 rfl fun v2 => ?_
            refine Goes.post [(nm, ⟨v1, false, 3, 1, []⟩), (nm + 1, ⟨v2, false, 3, 1, []⟩)] ?_
            simp +contextual -dsimp (maxSteps := 2000000) only [↓SD, SU, SB, Nat.reduceAdd, Nat.reduceBEq, Nat.reduceEqDiff, Nat.reduceLeDiff, Nat.reduceLT, Nat.reduceSub, ↓reduceIte, zA, zI, zN, reduceCtorEq, Int.reduceToNat, zE, hg_eq, hg_skip, false_and]
            exact hpost_of nm [] [] false v1 v2
          · have el : leapA c x = .tup [.sl ((leapF c x).map av), .bool true] := if_neg hbad
            have hI2 := hI.step hb hlk hk hbad
            have hll := leap_len c x
            have hM2 := hI2.len hr
            have hc3 : ∀ e ∈ (leapF c x).map (av : Fc → AV), e.cells.length = 3 := fun e he => by
              obtain ⟨y, _, rfl⟩ := List.mem_map.1 he; rfl
            rw [List.length_append] at hM2
            simp only [List.length_cons, List.length_nil] at hM2
            rw [el]
            generalize leapF c x = L at *
            simp +contextual -dsimp (maxSteps := 2000000) only [↓SD, SU, SB, Nat.reduceAdd, Nat.reduceBEq, Nat.reduceEqDiff, Nat.reduceLeDiff, Nat.reduceLT, Nat.reduceSub, ↓reduceIte, zA, zI, zN, reduceCtorEq, Int.reduceToNat, zE, Int.reduceEq, Int.reduceLT, Int.reduceLE, Int.reduceNeg, Int.reduceAdd, Int.reduceSub, map_len, hml, map_nop]
            refine ⟨⟨by omega, hc3, by omega, by unfold maxLen; omega⟩, fun u' => ?_⟩
            exact Goes.le ⟨⟨M ++ [x], t ++ L, u'⟩, ⟨⟨hI2, by simp only [List.length_append, List.length_cons, List.length_nil]; omega⟩, by simp only [List.length_append, List.length_cons, List.length_nil]; omega⟩, rfl⟩ (by simp +contextual -dsimp only [↓SD, SU, SB, Nat.reduceAdd, Nat.reduceBEq, Nat.reduceEqDiff, Nat.reduceLeDiff, Nat.reduceLT, Nat.reduceSub, ↓reduceIte, zA, zI, zN, reduceCtorEq, Int.reduceToNat, zE, List.length_append]) (by simp +contextual -dsimp only [↓SD, SU, SB, Nat.reduceAdd, Nat.reduceBEq, Nat.reduceEqDiff, Nat.reduceLeDiff, Nat.reduceLT, Nat.reduceSub, ↓reduceIte, zA, zI, zN, reduceCtorEq, Int.reduceToNat, zE, htk, htk2, List.map_append])
end Go.Proofs.YtabifanjbckchaaGreat


set_option linter.unusedVariables false
set_option linter.unusedSimpArgs false
set_option maxRecDepth 100000
namespace Go.Proofs.YtabifanjbckchaaGreat
open Go.RowKit Go.Proofs.YtabifanjbckchaaGreat.Av Go.Proofs.YtabifanjbckchaaGreat.Ml
open Go.Proofs.YtabifanjbckchaaGreat.Av.AVal (av)
open OVal (ov oh on)

theorem hgts_head {c : Code} (h : hgtsOk c = true) (hn : 0 < c.ins.length) : ∃ l : List Int, hgtsV c = 0 :: l ∧ l.length + 1 = c.ins.length := by
  have hg : Good c := by
    unfold hgtsOk at h
    simp only [decide_eq_true_eq] at h
    exact h.2
  have h0 : hgtV c 0 = 0 := by
    have hex : ∃ x, Hts c x ∧ x.k = 0 := ⟨_, .start, rfl⟩
    unfold hgtV
    rw [dif_pos hex]
    have hs := Classical.choose_spec hex
    rw [hg.2 _ _ hs.1 .start hs.2]
  obtain ⟨m, hm⟩ : ∃ m, c.ins.length = m + 1 := ⟨c.ins.length - 1, by omega⟩
  unfold hgtsV
  rw [if_pos h, hm, List.range_succ_eq_map, List.map_cons, h0]
  exact ⟨_, rfl, by simp⟩
noncomputable def deepO (c : Code) : Int := if hgtsOk c = true then (hgtsV c).tail.foldl max 0 else -1
theorem max_rng (l : List Int) : ∀ (a : Int), (-9223372036854775808 ≤ a ∧ a ≤ 9223372036854775807) → (∀ x ∈ l, -9223372036854775808 ≤ x ∧ x ≤ 9223372036854775807) → -9223372036854775808 ≤ l.foldl max a ∧ l.foldl max a ≤ 9223372036854775807 := by
  induction l with
  | nil => intro a h _; exact h
  | cons x l ih =>
    intro a h hx
    rw [List.foldl_cons]
    have := hx x (by simp)
    exact ih _ (by omega) (fun y hy => hx y (by simp [hy]))
theorem Max_ok (a : Int) (l : List Int) (hl : l.length ≤ 1048575) : CallsF Tryz.prog 29 [.sl ((a :: l).map av)] (.int .i64 (l.foldl max a)) := by
  refine fun_slices_Max_int_int rfl (by simp only [List.mem_cons, List.not_mem_nil, or_false]; rintro x rfl; exact lav_clean (a :: l)) (pint _) ?_
  have hp : ¬ ((l.length : Int) + 1 < 1) := by omega
  have hp0 : (0 : Int) < (l.length : Int) + 1 := by omega
  simp +contextual -dsimp (maxSteps := 2000000) only [↓SD, SU, SB, Nat.reduceAdd, Nat.reduceBEq, Nat.reduceEqDiff, Nat.reduceLeDiff, Nat.reduceLT, Nat.reduceSub, ↓reduceIte, zA, zI, zN, reduceCtorEq, Int.reduceToNat, zE, Int.reduceEq, Int.reduceLT, Int.reduceLE, Int.reduceNeg, Int.reduceAdd, Int.reduceSub, ir_slices_Max_int_int, rs_slices_Max_int_int, map_len, hp, hp0, Int.natCast_add, av_int]
  refine aLoop_of (X := Nat) (fun j => ⟨[(0, .sl ((a :: l).map av)), (3, .int .i64 ((l.take j).foldl max a)), (4, .int .i64 ((j : Int) + 1))], []⟩) (fun j => j ≤ l.length) (fun j => l.length - j) 0 (Nat.zero_le _) (by simp +contextual -dsimp only [↓SD, SU, SB, Nat.reduceAdd, Nat.reduceBEq, Nat.reduceEqDiff, Nat.reduceLeDiff, Nat.reduceLT, Nat.reduceSub, ↓reduceIte, zA, zI, zN, reduceCtorEq, Int.reduceToNat, zE, av_int, List.foldl_nil, Int.zero_add]) (by trivial) ?_
  intro j hj
  by_cases hlt : j < l.length
  · have e : ((a :: l).map (av : Int → AV)).getD (j + 1) .top = .int .i64 l[j] := by simp [List.getD_eq_getElem?_getD, hlt, av_int]
    have hlt' : (j : Int) + 1 < (l.length : Int) + 1 := by omega
    have h0 : (0 : Int) ≤ (j : Int) + 1 := by omega
    have ht : ((j : Int) + 1).toNat = j + 1 := by omega
    have hf : (l.take (j + 1)).foldl max a = max ((l.take j).foldl max a) l[j] := by
      rw [List.take_succ_eq_append_getElem hlt, List.foldl_append]; rfl
    have hml : ((a :: l).map (av : Int → AV)).length = l.length + 1 := by simp
    generalize (l.take j).foldl max a = m at *
    generalize l[j] = x at *
    generalize hA : (a :: l).map (av : Int → AV) = A at *
    simp +contextual -dsimp (maxSteps := 2000000) only [↓SD, SU, SB, Nat.reduceAdd, Nat.reduceBEq, Nat.reduceEqDiff, Nat.reduceLeDiff, Nat.reduceLT, Nat.reduceSub, ↓reduceIte, zA, zI, zN, reduceCtorEq, Int.reduceToNat, zE, Int.reduceEq, Int.reduceLT, Int.reduceLE, Int.reduceNeg, Int.reduceAdd, Int.reduceSub, hml, hlt', h0, ht, e, Int.natCast_add]
    exact ⟨by omega, Goes.le ⟨j + 1, ⟨hlt, (by first | omega | (simp only; omega))⟩, rfl⟩ (by simp +contextual -dsimp only [↓SD, SU, SB, Nat.reduceAdd, Nat.reduceBEq, Nat.reduceEqDiff, Nat.reduceLeDiff, Nat.reduceLT, Nat.reduceSub, ↓reduceIte, zA, zI, zN, reduceCtorEq, Int.reduceToNat, zE, hf, Int.natCast_add]) (by trivial)⟩
  · obtain rfl : j = l.length := by omega
    simp +contextual -dsimp (maxSteps := 2000000) only [↓SD, SU, SB, Nat.reduceAdd, Nat.reduceBEq, Nat.reduceEqDiff, Nat.reduceLeDiff, Nat.reduceLT, Nat.reduceSub, ↓reduceIte, zA, zI, zN, reduceCtorEq, Int.reduceToNat, zE, Int.reduceEq, Int.reduceLT, Int.reduceLE, Int.reduceNeg, Int.reduceAdd, Int.reduceSub, map_len, Int.natCast_add, Int.lt_irrefl, List.take_length]
theorem implDeepest_ok (c : Code) (hx : Bulk.bulk c ≤ 1048576) : CallsF Tryz.prog 15 [av c] (.int .i64 (deepO c)) := by
  refine fun_impl_Deepest rfl (by simp; exact AVal.clean c) (pint _) ?_
  have CH := implHeights_ok 9000 (by omega) c hx
  rw [av_Code] at CH
  simp +contextual -dsimp (maxSteps := 2000000) only [↓SD, SU, SB, Nat.reduceAdd, Nat.reduceBEq, Nat.reduceEqDiff, Nat.reduceLeDiff, Nat.reduceLT, Nat.reduceSub, ↓reduceIte, zA, zI, zN, reduceCtorEq, Int.reduceToNat, zE, Int.reduceEq, Int.reduceLT, Int.reduceLE, Int.reduceNeg, Int.reduceAdd, Int.reduceSub, ir_impl_Deepest, rs_impl_Deepest, av_Code]
  refine aCallH_of [] CH (by simp +contextual -dsimp only [↓SD, SU, SB, Nat.reduceAdd, Nat.reduceBEq, Nat.reduceEqDiff, Nat.reduceLeDiff, Nat.reduceLT, Nat.reduceSub, ↓reduceIte, zA, zI, zN, reduceCtorEq, Int.reduceToNat, zE]) ?_
  rintro r hp' ⟨vs, rfl, rfl⟩
  rw [oh_ints, oh_ints]
  have hh := @hgts_head c
  unfold deepO
  cases hok : hgtsOk c with
  | false =>
    simp +contextual -dsimp (maxSteps := 2000000) only [↓SD, SU, SB, Nat.reduceAdd, Nat.reduceBEq, Nat.reduceEqDiff, Nat.reduceLeDiff, Nat.reduceLT, Nat.reduceSub, ↓reduceIte, zA, zI, zN, reduceCtorEq, Int.reduceToNat, zE, Int.reduceEq, Int.reduceLT, Int.reduceLE, Int.reduceNeg, Int.reduceAdd, Int.reduceSub, ov_list]
  | true =>
    have hn : 0 < c.ins.length := by
      unfold hgtsOk at hok
      simp only [decide_eq_true_eq] at hok
      have hb := (rch_in hok.1).1
      unfold codeB at hb
      simp only [Bool.and_eq_true, decide_eq_true_eq] at hb
      omega
    obtain ⟨l, hl, hll⟩ := hh hok hn
    rw [hl]
    have hn3 : c.ins.length ≤ 1048576 := (code_small hx).1.1
    have CM := Max_ok 0 l (by omega)
    have t0 : List.take l.length (l.map (av : Int → AV)) = l.map av := List.take_of_length_le (by simp)
    simp +contextual -dsimp (maxSteps := 2000000) only [↓SD, SU, SB, Nat.reduceAdd, Nat.reduceBEq, Nat.reduceEqDiff, Nat.reduceLeDiff, Nat.reduceLT, Nat.reduceSub, ↓reduceIte, zA, zI, zN, reduceCtorEq, Int.reduceToNat, zE, Int.reduceEq, Int.reduceLT, Int.reduceLE, Int.reduceNeg, Int.reduceAdd, Int.reduceSub, ov_list]
    refine aCallL_of [9000] CM rfl (by simp +contextual -dsimp only [↓SD, SU, SB, Nat.reduceAdd, Nat.reduceBEq, Nat.reduceEqDiff, Nat.reduceLeDiff, Nat.reduceLT, Nat.reduceSub, ↓reduceIte, zA, zI, zN, reduceCtorEq, Int.reduceToNat, zE, map_len, map_nop, t0, false_and, Nat.le_refl, av_int]) ?_
    simp +contextual -dsimp (maxSteps := 2000000) only [↓SD, SU, SB, Nat.reduceAdd, Nat.reduceBEq, Nat.reduceEqDiff, Nat.reduceLeDiff, Nat.reduceLT, Nat.reduceSub, ↓reduceIte, zA, zI, zN, reduceCtorEq, Int.reduceToNat, zE, Int.reduceEq, Int.reduceLT, Int.reduceLE, Int.reduceNeg, Int.reduceAdd, Int.reduceSub, List.tail_cons]
theorem specDeepest_ok (c : Code) (hx : Bulk.bulk c ≤ 1048576) (hrg : ∀ i ∈ c.ins, -9223372036854775808 ≤ i.a ∧ i.a ≤ 9223372036854775807) : CallsF Tryz.prog 14 [av c] (.int .i64 (deepO c)) := by
  refine fun_spec_Deepest rfl (by simp; exact AVal.clean c) (pint _) ?_
  have CH := specHeights_ok c hx hrg
  rw [av_Code] at CH
  simp +contextual -dsimp (maxSteps := 2000000) only [↓SD, SU, SB, Nat.reduceAdd, Nat.reduceBEq, Nat.reduceEqDiff, Nat.reduceLeDiff, Nat.reduceLT, Nat.reduceSub, ↓reduceIte, zA, zI, zN, reduceCtorEq, Int.reduceToNat, zE, Int.reduceEq, Int.reduceLT, Int.reduceLE, Int.reduceNeg, Int.reduceAdd, Int.reduceSub, ir_spec_Deepest, rs_spec_Deepest, av_Code]
  have hh := @hgts_head c
  unfold deepO
  unfold hgtsA at CH
  cases hok : hgtsOk c with
  | false =>
    rw [hok, if_neg (by decide)] at CH
    refine aCallK_of _ CH ?_
    simp +contextual -dsimp (maxSteps := 2000000) only [↓SD, SU, SB, Nat.reduceAdd, Nat.reduceBEq, Nat.reduceEqDiff, Nat.reduceLeDiff, Nat.reduceLT, Nat.reduceSub, ↓reduceIte, zA, zI, zN, reduceCtorEq, Int.reduceToNat, zE, Int.reduceEq, Int.reduceLT, Int.reduceLE, Int.reduceNeg, Int.reduceAdd, Int.reduceSub]
  | true =>
    rw [hok, if_pos rfl] at CH
    have hn : 0 < c.ins.length := by
      unfold hgtsOk at hok
      simp only [decide_eq_true_eq] at hok
      have hb := (rch_in hok.1).1
      unfold codeB at hb
      simp only [Bool.and_eq_true, decide_eq_true_eq] at hb
      omega
    obtain ⟨l, hl, hll⟩ := hh hok hn
    rw [if_pos rfl, hl, List.tail_cons]
    have hV : (hgtsV c).foldl max 0 = l.foldl max 0 := by rw [hl]; rfl
    rw [← hV]
    have hn3 : c.ins.length ≤ 1048576 := (code_small hx).1.1
    have hlen : (hgtsV c).length ≤ 1048576 := by rw [hl]; simp; omega
    generalize hgtsV c = V at *
    refine aCallK_of _ CH ?_
    simp +contextual -dsimp (maxSteps := 2000000) only [↓SD, SU, SB, Nat.reduceAdd, Nat.reduceBEq, Nat.reduceEqDiff, Nat.reduceLeDiff, Nat.reduceLT, Nat.reduceSub, ↓reduceIte, zA, zI, zN, reduceCtorEq, Int.reduceToNat, zE, Int.reduceEq, Int.reduceLT, Int.reduceLE, Int.reduceNeg, Int.reduceAdd, Int.reduceSub, map_len]
    refine aLoop_of (X := Nat) (fun j => ⟨[(6, .int .i64 ((V.take j).foldl max 0)), (17, .sl (V.map av)), (18, .int .i64 V.length), (19, .int .i64 j)], []⟩) (fun j => j ≤ V.length) (fun j => V.length - j) 0 (Nat.zero_le _) (by simp +contextual -dsimp only [↓SD, SU, SB, Nat.reduceAdd, Nat.reduceBEq, Nat.reduceEqDiff, Nat.reduceLeDiff, Nat.reduceLT, Nat.reduceSub, ↓reduceIte, zA, zI, zN, reduceCtorEq, Int.reduceToNat, zE, List.foldl_nil, List.take_zero]) (by trivial) ?_
    intro j hj
    by_cases hlt : j < V.length
    · have e := getD_map av V j .top hlt
      have hf : (V.take (j + 1)).foldl max 0 = max ((V.take j).foldl max 0) V[j] := by
        rw [List.take_succ_eq_append_getElem hlt, List.foldl_append]; rfl
      generalize (V.take j).foldl max 0 = m at *
      generalize V[j] = x at *
      by_cases hgt : m < x
      · have hm : max m x = x := by omega
        simp +contextual -dsimp (maxSteps := 2000000) only [↓SD, SU, SB, Nat.reduceAdd, Nat.reduceBEq, Nat.reduceEqDiff, Nat.reduceLeDiff, Nat.reduceLT, Nat.reduceSub, ↓reduceIte, zA, zI, zN, reduceCtorEq, Int.reduceToNat, zE, Int.reduceEq, Int.reduceLT, Int.reduceLE, Int.reduceNeg, Int.reduceAdd, Int.reduceSub, map_len, hlt, e, av_int, hgt]
        exact ⟨by omega, Goes.le ⟨j + 1, ⟨hlt, (by first | omega | (simp only; omega))⟩, rfl⟩ (by simp +contextual -dsimp only [↓SD, SU, SB, Nat.reduceAdd, Nat.reduceBEq, Nat.reduceEqDiff, Nat.reduceLeDiff, Nat.reduceLT, Nat.reduceSub, ↓reduceIte, zA, zI, zN, reduceCtorEq, Int.reduceToNat, zE, hf, hm, Int.natCast_add]) (by trivial)⟩
      · have hm : max m x = m := by omega
        simp +contextual -dsimp (maxSteps := 2000000) only [↓SD, SU, SB, Nat.reduceAdd, Nat.reduceBEq, Nat.reduceEqDiff, Nat.reduceLeDiff, Nat.reduceLT, Nat.reduceSub, ↓reduceIte, zA, zI, zN, reduceCtorEq, Int.reduceToNat, zE, Int.reduceEq, Int.reduceLT, Int.reduceLE, Int.reduceNeg, Int.reduceAdd, Int.reduceSub, map_len, hlt, e, av_int, hgt]
        exact ⟨by omega, Goes.le ⟨j + 1, ⟨hlt, (by first | omega | (simp only; omega))⟩, rfl⟩ (by simp +contextual -dsimp only [↓SD, SU, SB, Nat.reduceAdd, Nat.reduceBEq, Nat.reduceEqDiff, Nat.reduceLeDiff, Nat.reduceLT, Nat.reduceSub, ↓reduceIte, zA, zI, zN, reduceCtorEq, Int.reduceToNat, zE, hf, hm, Int.natCast_add]) (by trivial)⟩
    · obtain rfl : j = V.length := by omega
      simp +contextual -dsimp (maxSteps := 2000000) only [↓SD, SU, SB, Nat.reduceAdd, Nat.reduceBEq, Nat.reduceEqDiff, Nat.reduceLeDiff, Nat.reduceLT, Nat.reduceSub, ↓reduceIte, zA, zI, zN, reduceCtorEq, Int.reduceToNat, zE, Int.reduceEq, Int.reduceLT, Int.reduceLE, Int.reduceNeg, Int.reduceAdd, Int.reduceSub, map_len, Nat.lt_irrefl, List.take_length]
end Go.Proofs.YtabifanjbckchaaGreat
