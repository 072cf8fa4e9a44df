/-
  AsksRun OF THE PROGRAM AND OF THE REFERENCE, by abstract texts. Conditions: none.
-/
import Derived.Test.YtfkchfdbaikccaaPxP
import Derived.Test.YtfkchfdbaikccaaDataS
import Derived.Test.YtfkchfdbaikccaaFAsk4
import Derived.Test.YtfkchfdbaikccaaIrARun
set_option linter.unusedVariables false
set_option linter.unusedSimpArgs false
set_option maxRecDepth 100000
namespace Go.Proofs.Ytfkchfdbaikccaa
open Go.RowKit Go.Proofs.Ytfkchfdbaikccaa.Av Go.Proofs.Ytfkchfdbaikccaa.Ml
open Go.Proofs.Ytfkchfdbaikccaa.Av.AVal (av)

theorem growData_ok (l : List DNode) (hk : ∀ i, i < l.length → ∀ k ∈ dkids l i, (i : Int) < k ∧ k < l.length) (hx : Bulk.bulk l ≤ 1048576) : ∀ (f i : Nat), i < l.length → l.length - i ≤ f → CallsF Try.prog 50 [.sl (l.map av), .int .i64 i] (av (growX (dhd l) (dkids l) f i)) := by
  intro f
  induction f with
  | zero => intro i hi hf; omega
  | succ f ih =>
    intro i hi hf
    have hl := bulk_length l
    have e := getD_map av l i .top hi
    have hs := (dnode_small hx i hi).1
    have hK : dkids l i = l[i].kids := by rw [dkids, getD_at hi]
    have hH : dhd l i = ⟨l[i].kind, l[i].n, l[i].s⟩ := by rw [dhd, getD_at hi]
    have hg : growX (dhd l) (dkids l) (f + 1) i = .mk ⟨l[i].kind, l[i].n, l[i].s⟩ (l[i].kids.map fun k => growX (dhd l) (dkids l) f k.toNat) := by rw [growX, hK, hH]
    have hks := hk i hi
    rw [hK] at hks
    refine fun_impl_growData rfl (by simp; exact ⟨lav_clean l, pint _⟩) (AVal.clean _) ?_
    rw [hg]
    clear hg hK hH
    generalize l[i] = n at *
    simp +contextual -dsimp (maxSteps := 2000000) only [↓SD, SU, SB, Nat.reduceAdd, Nat.reduceBEq, Nat.reduceEqDiff, Nat.reduceLeDiff, Nat.reduceLT, Nat.reduceSub, ↓reduceIte, forall_const, implies_true, ne_eq, reduceCtorEq, Int.reduceToNat, forall_eq, ir_impl_growData, rs_impl_growData, map_len, hi, e, av_DNode]
    intro w5 w
    refine aLoop_goes (X := Nat × Nat) (fun x => ⟨[(0, .sl (l.map av)), (6, .ptr 20 w 0 0), (22, .sl (n.kids.map av)), (23, .int .i64 n.kids.length), (24, .int .i64 x.1)], [(20, ⟨w, false, 141, 4, [.agg [.int .i64 n.kind, .int .i64 n.n, .str n.s, .row 37 x.2 x.1]]⟩), (37, ⟨x.2, false, 85, 1, ((n.kids.take x.1).map fun k => growX (dhd l) (dkids l) f k.toNat).map av⟩)]⟩) (fun x => x.1 ≤ n.kids.length) (fun x => n.kids.length - x.1) (Goes.adoptB 20 0 3 37 85 1 rfl rfl Nat.zero_lt_one rfl (by decide) (fun v => Goes.le ⟨(0, v), Nat.zero_le _, rfl⟩ (by simp +contextual -dsimp (maxSteps := 2000000) only [↓SD, SU, SB, Nat.reduceAdd, Nat.reduceBEq, Nat.reduceEqDiff, Nat.reduceLeDiff, Nat.reduceLT, Nat.reduceSub, ↓reduceIte, forall_const, implies_true, ne_eq, reduceCtorEq, Int.reduceToNat, forall_eq]) (by simp +contextual -dsimp (maxSteps := 2000000) only [↓SD, SU, SB, Nat.reduceAdd, Nat.reduceBEq, Nat.reduceEqDiff, Nat.reduceLeDiff, Nat.reduceLT, Nat.reduceSub, ↓reduceIte, forall_const, implies_true, ne_eq, reduceCtorEq, Int.reduceToNat, forall_eq]))) ?_
    rintro ⟨j, u⟩ hj
    simp only at hj
    by_cases hlt : j < n.kids.length
    · have e2 := getD_map av n.kids j .top hlt
      have hkj := hks _ (List.getElem_mem hlt)
      have ht : n.kids.take (j + 1) = n.kids.take j ++ [n.kids[j]] := List.take_succ_eq_append_getElem hlt
      obtain ⟨m, hm⟩ : ∃ m : Nat, n.kids[j] = m := ⟨n.kids[j].toNat, by omega⟩
      rw [hm] at e2 hkj ht
      have C2 := ih m (by omega) (by omega)
      have hk2 : (n.kids.take j).length = j := by simp; omega
      have ht2 : List.take j (((n.kids.take j).map fun k => growX (dhd l) (dkids l) f k.toNat).map av) = ((n.kids.take j).map fun k => growX (dhd l) (dkids l) f k.toNat).map av := List.take_of_length_le (by simp; omega)
      simp +contextual -dsimp (maxSteps := 2000000) only [↓SD, SU, SB, Nat.reduceAdd, Nat.reduceBEq, Nat.reduceEqDiff, Nat.reduceLeDiff, Nat.reduceLT, Nat.reduceSub, ↓reduceIte, forall_const, implies_true, ne_eq, reduceCtorEq, Int.reduceToNat, forall_eq, map_len, hlt, e2, av_int]
      refine aCallK_of _ C2 ?_
      simp +contextual -dsimp (maxSteps := 2000000) only [↓SD, SU, SB, Nat.reduceAdd, Nat.reduceBEq, Nat.reduceEqDiff, Nat.reduceLeDiff, Nat.reduceLT, Nat.reduceSub, ↓reduceIte, forall_const, implies_true, ne_eq, reduceCtorEq, Int.reduceToNat, forall_eq, map_len, hlt, px_cells, px_pur, px_pur1, px_purA, px_one, px_ok, hk2, ht2]
      refine ⟨⟨by omega, by unfold maxLen; omega⟩, fun u' => ⟨by omega, Goes.le ⟨(j + 1, u'), ⟨hlt, (by first | omega | (simp only; omega))⟩, rfl⟩ (by simp +contextual -dsimp (maxSteps := 2000000) only [↓SD, SU, SB, Nat.reduceAdd, Nat.reduceBEq, Nat.reduceEqDiff, Nat.reduceLeDiff, Nat.reduceLT, Nat.reduceSub, ↓reduceIte, forall_const, implies_true, ne_eq, reduceCtorEq, Int.reduceToNat, forall_eq, Int.natCast_add]) (by simp +contextual -dsimp (maxSteps := 2000000) only [↓SD, SU, SB, Nat.reduceAdd, Nat.reduceBEq, Nat.reduceEqDiff, Nat.reduceLeDiff, Nat.reduceLT, Nat.reduceSub, ↓reduceIte, forall_const, implies_true, ne_eq, reduceCtorEq, Int.reduceToNat, forall_eq, ht, List.map_append, Int.toNat_natCast])⟩⟩
    · obtain rfl : j = n.kids.length := by omega
      simp +contextual -dsimp (maxSteps := 2000000) only [↓SD, SU, SB, Nat.reduceAdd, Nat.reduceBEq, Nat.reduceEqDiff, Nat.reduceLeDiff, Nat.reduceLT, Nat.reduceSub, ↓reduceIte, forall_const, implies_true, ne_eq, reduceCtorEq, Int.reduceToNat, forall_eq, map_len, Nat.lt_irrefl, map_nop, List.take_length, take_map]
      rw [av_Px, List.take_of_length_le (by simp)]

/-- the part of a value at a path -/
def goPx : Px → List Int → Option Px
  | t, [] => some t
  | t, p :: r => match t.kids[p.toNat]? with
    | some k => goPx k r
    | none => none
def passT (a : Ask) (t : Px) : Bool := decide (t.hd.kind = a.kind) && decide (t.hd.n = a.n) && decide (t.hd.s = a.s) && (!decide (a.kind = 4) || (a.has == decide (0 < t.kids.length)))
/-- whether a value passes a question -/
def passB (a : Ask) (d : Px) : Bool :=
  match goPx d a.path with
  | some t => passT a t
  | none => false
theorem passes_ok (a : Ask) (d : Px) (hp : ∀ k ∈ a.path, 0 ≤ k) (hl : a.path.length ≤ 1048576) : CallsF Try.prog 51 [av a, av d] (.bool (passB a d)) := by
  refine fun_impl_passes rfl (by simp; exact ⟨AVal.clean a, AVal.clean d⟩) (AvPure.bool _) ?_
  obtain ⟨arm, path, kind, n, s, has, yes, no⟩ := a
  simp only at hp hl
  obtain ⟨B, hB⟩ : ∃ B, B = passB ⟨arm, path, kind, n, s, has, yes, no⟩ d := ⟨_, rfl⟩
  have hB' : B = match goPx d path with | some t => passT ⟨arm, path, kind, n, s, has, yes, no⟩ t | none => false := hB
  rw [← hB]
  clear hB
  simp +contextual -dsimp (maxSteps := 2000000) only [↓SD, SU, SB, Nat.reduceAdd, Nat.reduceBEq, Nat.reduceEqDiff, Nat.reduceLeDiff, Nat.reduceLT, Nat.reduceSub, ↓reduceIte, forall_const, implies_true, ne_eq, reduceCtorEq, Int.reduceToNat, forall_eq, ir_impl_passes, rs_impl_passes, av_Ask, map_len]
  refine aLoop_of (X := Nat × Px) (fun x => ⟨[(1, av x.2), (2, .obj [.int .i64 arm, .sl (path.map av), .int .i64 kind, .int .i64 n, .str s, .bool has, .int .i64 yes, .int .i64 no]), (8, .sl (path.map av)), (9, .int .i64 path.length), (10, .int .i64 x.1)], []⟩) (fun x => x.1 ≤ path.length ∧ goPx d path = goPx x.2 (path.drop x.1)) (fun x => path.length - x.1) (0, d) ⟨Nat.zero_le _, rfl⟩ (by simp +contextual -dsimp (maxSteps := 2000000) only [↓SD, SU, SB, Nat.reduceAdd, Nat.reduceBEq, Nat.reduceEqDiff, Nat.reduceLeDiff, Nat.reduceLT, Nat.reduceSub, ↓reduceIte, forall_const, implies_true, ne_eq, reduceCtorEq, Int.reduceToNat, forall_eq]) trivial ?_
  rintro ⟨j, t⟩ ⟨hj, hg⟩
  dsimp only at hj hg ⊢
  rw [hg] at hB'
  rw [av_px]
  by_cases hlt : j < path.length
  · have e2 := getD_map av path j .top hlt
    have h0 := hp _ (List.getElem_mem hlt)
    rw [List.drop_eq_getElem_cons hlt] at hg hB'
    rw [goPx] at hg hB'
    generalize path[j] = p at *
    by_cases hin : p.toNat < t.kids.length
    · rw [List.getElem?_eq_getElem hin] at hg hB'
      have e3 := getD_map av t.kids p.toNat .top hin
      have h1 : ¬ ((t.kids.length : Int) ≤ p) := by omega
      have h2 : p < t.kids.length := by omega
      generalize t.kids[p.toNat] = k at *
      simp +contextual -dsimp (maxSteps := 2000000) only [↓SD, SU, SB, Nat.reduceAdd, Nat.reduceBEq, Nat.reduceEqDiff, Nat.reduceLeDiff, Nat.reduceLT, Nat.reduceSub, ↓reduceIte, forall_const, implies_true, ne_eq, reduceCtorEq, Int.reduceToNat, forall_eq, map_len, hlt, e2, av_int, h1, h0, h2, e3, hin, px_cells]
      refine ⟨by omega, Goes.le ⟨(j + 1, k), ⟨⟨hlt, hg⟩, (by first | omega | (simp only; omega))⟩, rfl⟩ (by simp +contextual -dsimp (maxSteps := 2000000) only [↓SD, SU, SB, Nat.reduceAdd, Nat.reduceBEq, Nat.reduceEqDiff, Nat.reduceLeDiff, Nat.reduceLT, Nat.reduceSub, ↓reduceIte, forall_const, implies_true, ne_eq, reduceCtorEq, Int.reduceToNat, forall_eq, Int.natCast_add]) trivial⟩
    · rw [List.getElem?_eq_none (by omega)] at hg hB'
      have h1 : (t.kids.length : Int) ≤ p := by omega
      simp +contextual -dsimp (maxSteps := 2000000) only [↓SD, SU, SB, Nat.reduceAdd, Nat.reduceBEq, Nat.reduceEqDiff, Nat.reduceLeDiff, Nat.reduceLT, Nat.reduceSub, ↓reduceIte, forall_const, implies_true, ne_eq, reduceCtorEq, Int.reduceToNat, forall_eq, map_len, hlt, e2, av_int, h1]
      rw [hB']
  · obtain rfl : j = path.length := by omega
    rw [List.drop_length, goPx] at hB'
    simp only at hB'
    rw [hB']
    simp +contextual -dsimp (maxSteps := 2000000) only [↓SD, SU, SB, Nat.reduceAdd, Nat.reduceBEq, Nat.reduceEqDiff, Nat.reduceLeDiff, Nat.reduceLT, Nat.reduceSub, ↓reduceIte, forall_const, implies_true, ne_eq, reduceCtorEq, Int.reduceToNat, forall_eq, Int.reduceEq, Int.reduceLT, Int.reduceLE, Int.reduceNeg, Int.reduceAdd, Int.reduceSub, map_len, Nat.lt_irrefl]
    (repeat' (first | intro _ | refine And.intro ?_ ?_))
    all_goals first | omega | (simp [passT, *]; done) | trace_state
/-- at a question that is right, the reference's test of a node's form is the program's -/
theorem has_same {a : Ask} {i n : Int} {l : List DNode} {x : DNode} (ha : askB a i n = true) (h0 : ¬ a.kind = 0) (hx : dnodeB l x = true) :
    (decide (x.kind = a.kind) && decide (x.n = a.n) && decide (x.s = a.s) && (a.has == (decide (x.kind = 4) && decide ((x.kids.length : Int) = 1)))) =
    (decide (x.kind = a.kind) && decide (x.n = a.n) && decide (x.s = a.s) && (!decide (a.kind = 4) || (a.has == decide (0 < x.kids.length)))) := by
  by_cases hk : x.kind = a.kind
  · by_cases h4 : a.kind = 4
    · have hl : x.kids.length ≤ 1 := by
        unfold dnodeB at hx
        have e4 : x.kind = 4 := hk.trans h4
        rw [if_neg (by omega), if_neg (by omega), if_neg (by omega), if_pos e4] at hx
        simp only [Bool.and_eq_true] at hx
        have hs := hx.2
        unfold shapeB at hs
        split at hs
        · simp only [decide_eq_true_eq] at hs; omega
        · split at hs
          · simp only [Bool.and_eq_true, decide_eq_true_eq] at hs; omega
          · simp only [Bool.and_eq_true, decide_eq_true_eq] at hs; omega
      have e : decide ((x.kids.length : Int) = 1) = decide (0 < x.kids.length) := decide_eq_decide.2 (by omega)
      rw [e, decide_eq_true h4, decide_eq_true (hk.trans h4)]
      simp
    · have hh : a.has = false := by
        unfold askB at ha
        rw [if_neg h0] at ha
        simp only [Bool.and_eq_true] at ha
        have hkb := ha.1.1.1.2
        unfold kindB at hkb
        split at hkb
        · simp at hkb; exact hkb.1.2
        · split at hkb
          · simp at hkb; exact hkb.1.2
          · first | (rw [if_neg h4] at hkb; cases hkb) | cases hkb
      rw [hh, decide_eq_false h4, decide_eq_false (fun e => h4 (hk.symm.trans e))]
      simp
  · rw [decide_eq_false hk]; simp
theorem dkids_at {l : List DNode} {i : Nat} (h : i < l.length) : dkids l i = l[i].kids := by rw [dkids, getD_at h]
theorem l17Goes_ok (l : List DNode) (hb : dataB l = true) (hx : Bulk.bulk l ≤ 1048576) (a : Ask) {i n : Int} (ha : askB a i n = true) (h0 : ¬ a.kind = 0) (hp : ∀ k ∈ a.path, 0 ≤ k) (hpl : a.path.length ≤ 1048576) :
    CallsF Try.prog 45 [.agg [.sl (l.map av)], av a] (.bool (passB a (dtree l 0))) := by
  have hl := bulk_length l
  have hd := hb
  unfold dataB at hd
  simp only [Bool.and_eq_true, decide_eq_true_eq] at hd
  obtain ⟨⟨⟨hn1, hn2⟩, ht⟩, hall⟩ := hd
  refine fun_spec_l17Goes rfl (by simp; exact ⟨AvPure.agg (by simp; exact lav_clean l), AVal.clean a⟩) (AvPure.bool _) ?_
  have hsame := fun (x : DNode) (hx : dnodeB l x = true) => has_same ha h0 hx
  obtain ⟨arm, path, kind, n', s, has, yes, no⟩ := a
  simp only at hp hpl h0 hsame
  obtain ⟨B, hB⟩ : ∃ B, B = passB ⟨arm, path, kind, n', s, has, yes, no⟩ (dtree l 0) := ⟨_, rfl⟩
  have hB' : B = match goPx (dtree l 0) path with | some t => passT ⟨arm, path, kind, n', s, has, yes, no⟩ t | none => false := hB
  rw [← hB]
  clear hB ha
  simp +contextual -dsimp (maxSteps := 2000000) only [↓SD, SU, SB, Nat.reduceAdd, Nat.reduceBEq, Nat.reduceEqDiff, Nat.reduceLeDiff, Nat.reduceLT, Nat.reduceSub, ↓reduceIte, forall_const, implies_true, ne_eq, reduceCtorEq, Int.reduceToNat, forall_eq, ir_spec_l17Goes, rs_spec_l17Goes, av_Ask, map_len]
  refine aLoop_of (X := Nat × Nat) (fun x => ⟨[(2, .obj [.sl (l.map av)]), (3, .obj [.int .i64 arm, .sl (path.map av), .int .i64 kind, .int .i64 n', .str s, .bool has, .int .i64 yes, .int .i64 no]), (5, .int .i64 x.2), (10, .sl (path.map av)), (11, .int .i64 path.length), (12, .int .i64 x.1)], []⟩) (fun x => x.1 ≤ path.length ∧ x.2 < l.length ∧ goPx (dtree l 0) path = goPx (dtree l x.2) (path.drop x.1)) (fun x => path.length - x.1) (0, 0) ⟨Nat.zero_le _, by simp only; omega, rfl⟩ (by simp +contextual -dsimp (maxSteps := 2000000) only [↓SD, SU, SB, Nat.reduceAdd, Nat.reduceBEq, Nat.reduceEqDiff, Nat.reduceLeDiff, Nat.reduceLT, Nat.reduceSub, ↓reduceIte, forall_const, implies_true, ne_eq, reduceCtorEq, Int.reduceToNat, forall_eq]) trivial ?_
  rintro ⟨j, q⟩ ⟨hj, hq, hg⟩
  dsimp only at hj hq hg ⊢
  rw [hg] at hB'
  have hmk := dtree_mk ht hq
  rw [dkids_at hq] at hmk
  have hH : dhd l q = ⟨l[q].kind, l[q].n, l[q].s⟩ := by rw [dhd, getD_at hq]
  rw [hH] at hmk
  have e1 := getD_map av l q .top hq
  have hin := fun k (hk : k ∈ l[q].kids) => tree_in ht hq (k := k) (by rw [dkids_at hq]; exact hk)
  have hnode := List.all_eq_true.1 hall _ (List.getElem_mem hq)
  by_cases hlt : j < path.length
  · have e2 := getD_map av path j .top hlt
    have hp0 := hp _ (List.getElem_mem hlt)
    rw [List.drop_eq_getElem_cons hlt] at hg hB'
    rw [goPx, hmk] at hg hB'
    simp only [Px.kids, List.getElem?_map] at hg hB'
    clear hmk hH hnode
    generalize path[j] = p at *
    generalize l[q] = x at *
    by_cases hi : p.toNat < x.kids.length
    · rw [List.getElem?_eq_getElem hi] at hg hB'
      simp only [Option.map_some] at hg hB'
      have e3 := getD_map av x.kids p.toNat .top hi
      have h1 : ¬ ((x.kids.length : Int) ≤ p) := by omega
      have h2 : p < x.kids.length := by omega
      have hk := hin _ (List.getElem_mem hi)
      obtain ⟨m, hm⟩ : ∃ m : Nat, x.kids[p.toNat] = m := ⟨x.kids[p.toNat].toNat, by omega⟩
      rw [hm] at e3 hk hg hB'
      rw [Int.toNat_natCast] at hg hB'
      simp +contextual -dsimp (maxSteps := 2000000) only [↓SD, SU, SB, Nat.reduceAdd, Nat.reduceBEq, Nat.reduceEqDiff, Nat.reduceLeDiff, Nat.reduceLT, Nat.reduceSub, ↓reduceIte, forall_const, implies_true, ne_eq, reduceCtorEq, Int.reduceToNat, forall_eq, map_len, hlt, hq, e1, e2, av_int, av_DNode, h1, hp0, h2, e3, hi]
      refine ⟨by omega, Goes.le ⟨(j + 1, m), ⟨⟨hlt, by simp only; omega, hg⟩, (by first | omega | (simp only; omega))⟩, rfl⟩ (by simp +contextual -dsimp (maxSteps := 2000000) only [↓SD, SU, SB, Nat.reduceAdd, Nat.reduceBEq, Nat.reduceEqDiff, Nat.reduceLeDiff, Nat.reduceLT, Nat.reduceSub, ↓reduceIte, forall_const, implies_true, ne_eq, reduceCtorEq, Int.reduceToNat, forall_eq, Int.natCast_add]) trivial⟩
    · rw [List.getElem?_eq_none (by omega)] at hg hB'
      simp only [Option.map_none] at hg hB'
      have h1 : (x.kids.length : Int) ≤ p := by omega
      simp +contextual -dsimp (maxSteps := 2000000) only [↓SD, SU, SB, Nat.reduceAdd, Nat.reduceBEq, Nat.reduceEqDiff, Nat.reduceLeDiff, Nat.reduceLT, Nat.reduceSub, ↓reduceIte, forall_const, implies_true, ne_eq, reduceCtorEq, Int.reduceToNat, forall_eq, map_len, hlt, hq, e1, e2, av_int, av_DNode, h1]
      rw [hB']
  · obtain rfl : j = path.length := by omega
    rw [List.drop_length, goPx] at hB'
    simp only at hB'
    rw [hmk, passT] at hB'
    simp only [Px.hd, Px.kids, List.length_map] at hB'
    have hs := hsame _ hnode
    try simp only at hs
    have hB2 := hB'.trans hs.symm
    clear hmk hH hs hsame hg hB'
    generalize l[q] = x at *
    rw [hB2]
    simp +contextual -dsimp (maxSteps := 2000000) only [↓SD, SU, SB, Nat.reduceAdd, Nat.reduceBEq, Nat.reduceEqDiff, Nat.reduceLeDiff, Nat.reduceLT, Nat.reduceSub, ↓reduceIte, forall_const, implies_true, ne_eq, reduceCtorEq, Int.reduceToNat, forall_eq, Int.reduceEq, Int.reduceLT, Int.reduceLE, Int.reduceNeg, Int.reduceAdd, Int.reduceSub, map_len, Nat.lt_irrefl, hq, e1, av_DNode]
    (repeat' (first | intro _ | refine And.intro ?_ ?_))
    all_goals first | omega | (simp [*]; done) | (simp_all; done) | trace_state
/-- how the questions lead -/
def runA (l : List Ask) (d : Px) : Nat → Nat → Int
  | 0, i => (l.getD i default).arm
  | f + 1, i => if (l.getD i default).kind = 0 then (l.getD i default).arm else runA l d f (if passB (l.getD i default) d = true then (l.getD i default).yes.toNat else (l.getD i default).no.toNat)
theorem runA_any {l : List Ask} (d : Px) (h : ∀ i (hi : i < l.length), ¬ l[i].kind = 0 → (i < l[i].yes.toNat ∧ l[i].yes.toNat < l.length) ∧ (i < l[i].no.toNat ∧ l[i].no.toNat < l.length)) : ∀ (f g i : Nat), i < l.length → l.length - i ≤ f → l.length - i ≤ g → runA l d f i = runA l d g i
  | 0, g, i, hi, hf, _ => by omega
  | f + 1, 0, i, hi, _, hg => by omega
  | f + 1, g + 1, i, hi, hf, hg => by
    rw [runA, runA, getD_at hi]
    by_cases h0 : l[i].kind = 0
    · rw [if_pos h0, if_pos h0]
    · rw [if_neg h0, if_neg h0]
      have := h i hi h0
      split
      · exact runA_any d h f g _ this.1.2 (by omega) (by omega)
      · exact runA_any d h f g _ this.2.2 (by omega) (by omega)
def askR (l : List Ask) (d : Px) (i : Nat) : Int := runA l d l.length i
theorem askR_step {l : List Ask} (d : Px) (h : ∀ i (hi : i < l.length), ¬ l[i].kind = 0 → (i < l[i].yes.toNat ∧ l[i].yes.toNat < l.length) ∧ (i < l[i].no.toNat ∧ l[i].no.toNat < l.length)) {i : Nat} (hi : i < l.length) :
    askR l d i = if l[i].kind = 0 then l[i].arm else askR l d (if passB l[i] d = true then l[i].yes.toNat else l[i].no.toNat) := by
  unfold askR
  obtain ⟨m, hm⟩ : ∃ m, l.length = m + 1 := ⟨l.length - 1, by omega⟩
  rw [hm, runA, getD_at hi]
  by_cases h0 : l[i].kind = 0
  · rw [if_pos h0, if_pos h0]
  · rw [if_neg h0, if_neg h0]
    have := h i hi h0
    split
    · exact runA_any d h m (m + 1) _ this.1.2 (by omega) (by omega)
    · exact runA_any d h m (m + 1) _ this.2.2 (by omega) (by omega)
/-- what AsksRun tells -/
def asksRunO (l : List Ask) (d : List DNode) : Int := if asksB l = true ∧ dataB d = true then askR l (dtree d 0) 0 else -2
theorem asks_go {l : List Ask} (hb : asksB l = true) : ∀ i (hi : i < l.length), ¬ l[i].kind = 0 → (i < l[i].yes.toNat ∧ l[i].yes.toNat < l.length) ∧ (i < l[i].no.toNat ∧ l[i].no.toNat < l.length) := fun i hi h0 => by
  have h := (asksB_at hb).1 i hi
  unfold askB at h
  rw [if_neg h0] at h
  simp only [Bool.and_eq_true, decide_eq_true_eq] at h
  omega
theorem asks_nat {l : List Ask} (hb : asksB l = true) : ∀ i (hi : i < l.length), ¬ l[i].kind = 0 → (l[i].yes = (l[i].yes.toNat : Int) ∧ l[i].no = (l[i].no.toNat : Int)) ∧ ∀ k ∈ l[i].path, 0 ≤ k := fun i hi h0 => by
  have h := (asksB_at hb).1 i hi
  unfold askB at h
  rw [if_neg h0] at h
  simp only [Bool.and_eq_true, decide_eq_true_eq] at h
  refine ⟨by omega, fun k hk => ?_⟩
  have hp := h.1.1.1.1
  simp only [Bool.not_eq_true', List.any_eq_false] at hp
  have := hp k hk
  simp [badK] at this
  omega
theorem implAsksRun_ok (l : List Ask) (d : List DNode) (hx : Bulk.bulk l ≤ 1048576) (hy : Bulk.bulk d ≤ 1048576) : CallsF Try.prog 13 [.agg [.sl (l.map av)], .agg [.sl (d.map av)]] (.int .i64 (asksRunO l d)) := by
  have hl := bulk_length l
  refine fun_impl_AsksRun rfl (by simp; exact ⟨AvPure.agg (by simp; exact lav_clean l), AvPure.agg (by simp; exact lav_clean d)⟩) (pint _) ?_
  have C1 := implAsksOk_ok l hx
  have C2 := implDataOk_ok d hy
  simp +contextual -dsimp (maxSteps := 2000000) only [↓SD, SU, SB, Nat.reduceAdd, Nat.reduceBEq, Nat.reduceEqDiff, Nat.reduceLeDiff, Nat.reduceLT, Nat.reduceSub, ↓reduceIte, forall_const, implies_true, ne_eq, reduceCtorEq, Int.reduceToNat, forall_eq, ir_impl_AsksRun, rs_impl_AsksRun, map_len]
  cases hb : asksB l
  case false =>
    rw [hb] at C1
    refine aCallK_of _ C1 ?_
    simp +contextual -dsimp (maxSteps := 2000000) only [↓SD, SU, SB, Nat.reduceAdd, Nat.reduceBEq, Nat.reduceEqDiff, Nat.reduceLeDiff, Nat.reduceLT, Nat.reduceSub, ↓reduceIte, forall_const, implies_true, ne_eq, reduceCtorEq, Int.reduceToNat, forall_eq]
    simp [asksRunO, hb]
  rw [hb] at C1
  refine aCallK_of _ C1 ?_
  simp +contextual -dsimp (maxSteps := 2000000) only [↓SD, SU, SB, Nat.reduceAdd, Nat.reduceBEq, Nat.reduceEqDiff, Nat.reduceLeDiff, Nat.reduceLT, Nat.reduceSub, ↓reduceIte, forall_const, implies_true, ne_eq, reduceCtorEq, Int.reduceToNat, forall_eq]
  cases hd : dataB d
  case false =>
    rw [hd] at C2
    refine aCallK_of _ C2 ?_
    simp +contextual -dsimp (maxSteps := 2000000) only [↓SD, SU, SB, Nat.reduceAdd, Nat.reduceBEq, Nat.reduceEqDiff, Nat.reduceLeDiff, Nat.reduceLT, Nat.reduceSub, ↓reduceIte, forall_const, implies_true, ne_eq, reduceCtorEq, Int.reduceToNat, forall_eq]
    simp [asksRunO, hd]
  rw [hd] at C2
  refine aCallK_of _ C2 ?_
  have hR : asksRunO l d = askR l (dtree d 0) 0 := by simp [asksRunO, hb, hd]
  rw [hR]
  have hdd := hd
  unfold dataB at hdd
  simp only [Bool.and_eq_true, decide_eq_true_eq] at hdd
  obtain ⟨⟨⟨hn1, hn2⟩, ht⟩, hall⟩ := hdd
  obtain ⟨hal, hl1, hl2⟩ := asksB_at hb
  have CG := growData_ok d (fun i hi k hk => tree_in ht hi hk) hy d.length 0 (by omega) (by omega)
  rw [show growX (dhd d) (dkids d) d.length 0 = dtree d 0 from rfl] at CG
  simp +contextual -dsimp (maxSteps := 2000000) only [↓SD, SU, SB, Nat.reduceAdd, Nat.reduceBEq, Nat.reduceEqDiff, Nat.reduceLeDiff, Nat.reduceLT, Nat.reduceSub, ↓reduceIte, forall_const, implies_true, ne_eq, reduceCtorEq, Int.reduceToNat, forall_eq]
  refine aCallK_of _ CG ?_
  simp +contextual -dsimp (maxSteps := 2000000) only [↓SD, SU, SB, Nat.reduceAdd, Nat.reduceBEq, Nat.reduceEqDiff, Nat.reduceLeDiff, Nat.reduceLT, Nat.reduceSub, ↓reduceIte, forall_const, implies_true, ne_eq, reduceCtorEq, Int.reduceToNat, forall_eq]
  refine aLoop_of (X := Nat) (fun i => ⟨[(2, .obj [.sl (l.map av)]), (5, av (dtree d 0)), (6, .int .i64 i)], []⟩) (fun i => i < l.length ∧ askR l (dtree d 0) 0 = askR l (dtree d 0) i) (fun i => l.length - i) 0 ⟨by omega, rfl⟩ (by simp +contextual -dsimp (maxSteps := 2000000) only [↓SD, SU, SB, Nat.reduceAdd, Nat.reduceBEq, Nat.reduceEqDiff, Nat.reduceLeDiff, Nat.reduceLT, Nat.reduceSub, ↓reduceIte, forall_const, implies_true, ne_eq, reduceCtorEq, Int.reduceToNat, forall_eq]) trivial ?_
  rintro i ⟨hi, hg⟩
  have e := getD_map av l i .top hi
  have hst := askR_step (dtree d 0) (asks_go hb) hi
  have hgo := asks_go hb i hi
  have hna := asks_nat hb i hi
  obtain ⟨s1, s2⟩ := asks_path hx i hi
  rw [hg]
  clear hR
  by_cases h0 : l[i].kind = 0
  · rw [if_pos h0] at hst
    rw [hst]
    clear hst hg hgo hna
    generalize l[i] = a at *
    simp +contextual -dsimp (maxSteps := 2000000) only [↓SD, SU, SB, Nat.reduceAdd, Nat.reduceBEq, Nat.reduceEqDiff, Nat.reduceLeDiff, Nat.reduceLT, Nat.reduceSub, ↓reduceIte, forall_const, implies_true, ne_eq, reduceCtorEq, Int.reduceToNat, forall_eq, Int.reduceEq, Int.reduceLT, Int.reduceLE, Int.reduceNeg, Int.reduceAdd, Int.reduceSub, map_len, hi, e, av_Ask, h0]
  · rw [if_neg h0] at hst
    obtain ⟨⟨y1, y2⟩, n1, n2⟩ := hgo h0
    obtain ⟨⟨hy1, hn1'⟩, hpath⟩ := hna h0
    have CP := passes_ok l[i] (dtree d 0) hpath s1
    generalize l[i] = a at *
    rw [av_Ask] at CP
    simp +contextual -dsimp (maxSteps := 2000000) only [↓SD, SU, SB, Nat.reduceAdd, Nat.reduceBEq, Nat.reduceEqDiff, Nat.reduceLeDiff, Nat.reduceLT, Nat.reduceSub, ↓reduceIte, forall_const, implies_true, ne_eq, reduceCtorEq, Int.reduceToNat, forall_eq, Int.reduceEq, Int.reduceLT, Int.reduceLE, Int.reduceNeg, Int.reduceAdd, Int.reduceSub, map_len, hi, e, av_Ask, h0, px_purA]
    refine aCallK_of _ CP ?_
    generalize passB a (dtree d 0) = b at *
    cases b
    · rw [if_neg (by decide)] at hst
      simp +contextual -dsimp (maxSteps := 2000000) only [↓SD, SU, SB, Nat.reduceAdd, Nat.reduceBEq, Nat.reduceEqDiff, Nat.reduceLeDiff, Nat.reduceLT, Nat.reduceSub, ↓reduceIte, forall_const, implies_true, ne_eq, reduceCtorEq, Int.reduceToNat, forall_eq, Int.reduceEq, Int.reduceLT, Int.reduceLE, Int.reduceNeg, Int.reduceAdd, Int.reduceSub, map_len, hi, e, av_Ask]
      refine Goes.le ⟨a.no.toNat, ⟨⟨n2, hst⟩, (by first | omega | (simp only; omega))⟩, rfl⟩ (by rw [hn1']; simp +contextual -dsimp (maxSteps := 2000000) only [↓SD, SU, SB, Nat.reduceAdd, Nat.reduceBEq, Nat.reduceEqDiff, Nat.reduceLeDiff, Nat.reduceLT, Nat.reduceSub, ↓reduceIte, forall_const, implies_true, ne_eq, reduceCtorEq, Int.reduceToNat, forall_eq, Int.toNat_natCast]) trivial
    · rw [if_pos rfl] at hst
      simp +contextual -dsimp (maxSteps := 2000000) only [↓SD, SU, SB, Nat.reduceAdd, Nat.reduceBEq, Nat.reduceEqDiff, Nat.reduceLeDiff, Nat.reduceLT, Nat.reduceSub, ↓reduceIte, forall_const, implies_true, ne_eq, reduceCtorEq, Int.reduceToNat, forall_eq, Int.reduceEq, Int.reduceLT, Int.reduceLE, Int.reduceNeg, Int.reduceAdd, Int.reduceSub, map_len, hi, e, av_Ask]
      refine Goes.le ⟨a.yes.toNat, ⟨⟨y2, hst⟩, (by first | omega | (simp only; omega))⟩, rfl⟩ (by rw [hy1]; simp +contextual -dsimp (maxSteps := 2000000) only [↓SD, SU, SB, Nat.reduceAdd, Nat.reduceBEq, Nat.reduceEqDiff, Nat.reduceLeDiff, Nat.reduceLT, Nat.reduceSub, ↓reduceIte, forall_const, implies_true, ne_eq, reduceCtorEq, Int.reduceToNat, forall_eq, Int.toNat_natCast]) trivial
theorem specAsksRun_ok (l : List Ask) (d : List DNode) (hx : Bulk.bulk l ≤ 1048576) (hy : Bulk.bulk d ≤ 1048576) (hr : ∀ n ∈ d, -9223372036854775808 ≤ n.n ∧ n.n ≤ 9223372036854775807) : CallsF Try.prog 10 [.agg [.sl (l.map av)], .agg [.sl (d.map av)]] (.int .i64 (asksRunO l d)) := by
  have hl := bulk_length l
  refine fun_spec_AsksRun rfl (by simp; exact ⟨AvPure.agg (by simp; exact lav_clean l), AvPure.agg (by simp; exact lav_clean d)⟩) (pint _) ?_
  have C1 := specAsksOk_ok l hx
  have C2 := specDataOk_ok d hy hr
  simp +contextual -dsimp (maxSteps := 2000000) only [↓SD, SU, SB, Nat.reduceAdd, Nat.reduceBEq, Nat.reduceEqDiff, Nat.reduceLeDiff, Nat.reduceLT, Nat.reduceSub, ↓reduceIte, forall_const, implies_true, ne_eq, reduceCtorEq, Int.reduceToNat, forall_eq, ir_spec_AsksRun, rs_spec_AsksRun, map_len]
  cases hb : asksB l
  case false =>
    rw [hb] at C1
    refine aCallK_of _ C1 ?_
    simp +contextual -dsimp (maxSteps := 2000000) only [↓SD, SU, SB, Nat.reduceAdd, Nat.reduceBEq, Nat.reduceEqDiff, Nat.reduceLeDiff, Nat.reduceLT, Nat.reduceSub, ↓reduceIte, forall_const, implies_true, ne_eq, reduceCtorEq, Int.reduceToNat, forall_eq]
    simp [asksRunO, hb]
  rw [hb] at C1
  refine aCallK_of _ C1 ?_
  simp +contextual -dsimp (maxSteps := 2000000) only [↓SD, SU, SB, Nat.reduceAdd, Nat.reduceBEq, Nat.reduceEqDiff, Nat.reduceLeDiff, Nat.reduceLT, Nat.reduceSub, ↓reduceIte, forall_const, implies_true, ne_eq, reduceCtorEq, Int.reduceToNat, forall_eq]
  cases hd : dataB d
  case false =>
    rw [hd] at C2
    refine aCallK_of _ C2 ?_
    simp +contextual -dsimp (maxSteps := 2000000) only [↓SD, SU, SB, Nat.reduceAdd, Nat.reduceBEq, Nat.reduceEqDiff, Nat.reduceLeDiff, Nat.reduceLT, Nat.reduceSub, ↓reduceIte, forall_const, implies_true, ne_eq, reduceCtorEq, Int.reduceToNat, forall_eq]
    simp [asksRunO, hd]
  rw [hd] at C2
  refine aCallK_of _ C2 ?_
  have hR : asksRunO l d = askR l (dtree d 0) 0 := by simp [asksRunO, hb, hd]
  rw [hR]
  obtain ⟨hal, hl1, hl2⟩ := asksB_at hb
  simp +contextual -dsimp (maxSteps := 2000000) only [↓SD, SU, SB, Nat.reduceAdd, Nat.reduceBEq, Nat.reduceEqDiff, Nat.reduceLeDiff, Nat.reduceLT, Nat.reduceSub, ↓reduceIte, forall_const, implies_true, ne_eq, reduceCtorEq, Int.reduceToNat, forall_eq]
  refine aLoop_of (X := Nat) (fun i => ⟨[(2, .obj [.sl (l.map av)]), (3, .obj [.sl (d.map av)]), (5, .int .i64 i)], []⟩) (fun i => i < l.length ∧ askR l (dtree d 0) 0 = askR l (dtree d 0) i) (fun i => l.length - i) 0 ⟨by omega, rfl⟩ (by simp +contextual -dsimp (maxSteps := 2000000) only [↓SD, SU, SB, Nat.reduceAdd, Nat.reduceBEq, Nat.reduceEqDiff, Nat.reduceLeDiff, Nat.reduceLT, Nat.reduceSub, ↓reduceIte, forall_const, implies_true, ne_eq, reduceCtorEq, Int.reduceToNat, forall_eq]) trivial ?_
  rintro i ⟨hi, hg⟩
  have e := getD_map av l i .top hi
  have hst := askR_step (dtree d 0) (asks_go hb) hi
  have hgo := asks_go hb i hi
  have hna := asks_nat hb i hi
  have hai := hal i hi
  obtain ⟨s1, s2⟩ := asks_path hx i hi
  rw [hg]
  clear hR
  by_cases h0 : l[i].kind = 0
  · rw [if_pos h0] at hst
    rw [hst]
    clear hst hg hgo hna
    generalize l[i] = a at *
    simp +contextual -dsimp (maxSteps := 2000000) only [↓SD, SU, SB, Nat.reduceAdd, Nat.reduceBEq, Nat.reduceEqDiff, Nat.reduceLeDiff, Nat.reduceLT, Nat.reduceSub, ↓reduceIte, forall_const, implies_true, ne_eq, reduceCtorEq, Int.reduceToNat, forall_eq, Int.reduceEq, Int.reduceLT, Int.reduceLE, Int.reduceNeg, Int.reduceAdd, Int.reduceSub, map_len, hi, e, av_Ask, h0]
  · rw [if_neg h0] at hst
    obtain ⟨⟨y1, y2⟩, n1, n2⟩ := hgo h0
    obtain ⟨⟨hy1, hn1'⟩, hpath⟩ := hna h0
    have CP := l17Goes_ok d hd hy l[i] hai h0 hpath s1
    generalize l[i] = a at *
    rw [av_Ask] at CP
    simp +contextual -dsimp (maxSteps := 2000000) only [↓SD, SU, SB, Nat.reduceAdd, Nat.reduceBEq, Nat.reduceEqDiff, Nat.reduceLeDiff, Nat.reduceLT, Nat.reduceSub, ↓reduceIte, forall_const, implies_true, ne_eq, reduceCtorEq, Int.reduceToNat, forall_eq, Int.reduceEq, Int.reduceLT, Int.reduceLE, Int.reduceNeg, Int.reduceAdd, Int.reduceSub, map_len, hi, e, av_Ask, h0]
    refine aCallK_of _ CP ?_
    generalize passB a (dtree d 0) = b at *
    cases b
    · rw [if_neg (by decide)] at hst
      simp +contextual -dsimp (maxSteps := 2000000) only [↓SD, SU, SB, Nat.reduceAdd, Nat.reduceBEq, Nat.reduceEqDiff, Nat.reduceLeDiff, Nat.reduceLT, Nat.reduceSub, ↓reduceIte, forall_const, implies_true, ne_eq, reduceCtorEq, Int.reduceToNat, forall_eq, Int.reduceEq, Int.reduceLT, Int.reduceLE, Int.reduceNeg, Int.reduceAdd, Int.reduceSub, map_len, hi, e, av_Ask]
      refine Goes.le ⟨a.no.toNat, ⟨⟨n2, hst⟩, (by first | omega | (simp only; omega))⟩, rfl⟩ (by rw [hn1']; simp +contextual -dsimp (maxSteps := 2000000) only [↓SD, SU, SB, Nat.reduceAdd, Nat.reduceBEq, Nat.reduceEqDiff, Nat.reduceLeDiff, Nat.reduceLT, Nat.reduceSub, ↓reduceIte, forall_const, implies_true, ne_eq, reduceCtorEq, Int.reduceToNat, forall_eq, Int.toNat_natCast]) trivial
    · rw [if_pos rfl] at hst
      simp +contextual -dsimp (maxSteps := 2000000) only [↓SD, SU, SB, Nat.reduceAdd, Nat.reduceBEq, Nat.reduceEqDiff, Nat.reduceLeDiff, Nat.reduceLT, Nat.reduceSub, ↓reduceIte, forall_const, implies_true, ne_eq, reduceCtorEq, Int.reduceToNat, forall_eq, Int.reduceEq, Int.reduceLT, Int.reduceLE, Int.reduceNeg, Int.reduceAdd, Int.reduceSub, map_len, hi, e, av_Ask]
      refine Goes.le ⟨a.yes.toNat, ⟨⟨y2, hst⟩, (by first | omega | (simp only; omega))⟩, rfl⟩ (by rw [hy1]; simp +contextual -dsimp (maxSteps := 2000000) only [↓SD, SU, SB, Nat.reduceAdd, Nat.reduceBEq, Nat.reduceEqDiff, Nat.reduceLeDiff, Nat.reduceLT, Nat.reduceSub, ↓reduceIte, forall_const, implies_true, ne_eq, reduceCtorEq, Int.reduceToNat, forall_eq, Int.toNat_natCast]) trivial
theorem data_range {S : Nat → Prop} {w : World} {v : Value} {c : List DNode} (h : VR S w mu0 v (.agg [.sl (c.map av)])) : ∀ n ∈ c, -9223372036854775808 ≤ n.n ∧ n.n ≤ 9223372036854775807 := by
  intro i hi
  cases h with
  | agg cs _ hl h1 hh =>
    have h0 : (0 : Nat) < cs.size := by simp at hl; omega
    have hs := hh 0 cs[0] _ (Array.getElem?_eq_getElem h0) rfl
    have hm : av i ∈ c.map av := List.mem_map.2 ⟨i, hi, rfl⟩
    obtain ⟨u, hu⟩ := vr_sl_cells hs hm (x := .int .i64 i.n) (by rw [av_DNode]; simp [AV.cells])
    exact vr_int hu
end Go.Proofs.Ytfkchfdbaikccaa
