/-
 Hit OF THE REFERENCE, by its abstract text. Conditions: none.
-/
import Derived.Test.YteeiaaogmjbcjaaGreatHPartW
import Derived.Test.YteeiaaogmjbcjaaGreatHJ45
set_option linter.unusedVariables false
set_option linter.unusedSimpArgs false
set_option maxRecDepth 100000
namespace Go.Proofs.YteeiaaogmjbcjaaGreat
open Go.RowKit Go.Proofs.YteeiaaogmjbcjaaGreat.Av Go.Proofs.YteeiaaogmjbcjaaGreat.Ml
open Go.Proofs.YteeiaaogmjbcjaaGreat.Av.AVal (av)

theorem kids_some {e : Nat → Option Nat} {n : Nat} (hle : ∀ a m, e a = some m → a < m ∧ m ≤ n) (he : ∀ a m, e a = some m → ∀ i, a ≤ i → i < m → ∃ m', e i = some m') : ∀ {ks : List Int} {nx m : Nat}, kidsF e ks nx = some m → ∀ i, nx ≤ i → i < m → ∃ m', e i = some m'
 | [], nx, m, h, i, h1, h2 => by rw [kidsF] at h; cases h; omega
 | k :: ks, nx, m, h, i, h1, h2 => by
  rw [kidsF] at h
  split at h
  ·cases hc : e nx with
   | none => rw [hc] at h; cases h
   | some m1 =>
    rw [hc] at h
    by_cases hi : i < m1
    ·exact he nx m1 hc i h1 hi
    ·exact kids_some hle he h i (by omega) h2
  ·cases h
theorem end_some (K : Nat → List Int) (n : Nat) : ∀ (f a m : Nat), endF K n f a = some m → ∀ i, a ≤ i → i < m → ∃ m', endF K n f i = some m'
 | 0, a, m, h, i, _, _ => by rw [endF] at h; cases h
 | f + 1, a, m, h, i, h1, h2 => by
  by_cases hi : i = a
  ·exact ⟨m, by rw [hi]; exact h⟩
  rw [endF] at h
  split at h
  ·obtain ⟨m', hm⟩ := kids_some (end_le K n f) (end_some K n f) h i (by omega) h2
   exact ⟨m', end_mono K n f i m' hm⟩
  ·cases h
theorem tree_end {K : Nat → List Int} {n : Nat} (h : treeB K n = true) {i : Nat} (hi : i < n) : ∃ m, endF K n (n + 1) i = some m :=
 end_some K n (n + 1) 0 n (of_decide_eq_true h) i (Nat.zero_le _) hi

def hitV (q d : Px) : AV := match hitX q d with
 | none => .tup [.nils, .bool false]
 | some l => .tup [if q.hd.kind = 1 then .nils else .sl ((l.map fun x => (⟨dflat x⟩ : Data)).map av), .bool true]
theorem hitV_pure (q d : Px) : AvPure (hitV q d) := by
 unfold hitV
 split
 ·exact AvPure.tup (by simp; exact ⟨AvPure.nils, AvPure.bool _⟩)
 ·refine AvPure.tup ?_
  simp only [List.mem_cons, List.not_mem_nil, or_false]
  rintro x (rfl | rfl)
  ·split
   ·exact AvPure.nils
   ·exact lav_clean _
  ·exact AvPure.bool _
theorem hit_same {Q : List PNode} {D : List DNode} {n : PNode} {v : DNode} (hn : pnodeB Q n = true) (hv : dnodeB D v = true) (h1 : ¬ n.kind = 1) (h2 : ¬ n.kind = 2) (hk : n.kind = v.kind) :
  (n.n = v.n ∧ n.s = v.s ∧ n.kids.length = v.kids.length) ↔ (n.kind = 3 → n.n = v.n) ∧ (n.kind = 4 → n.s = v.s ∧ n.kids.length = v.kids.length) := by
 unfold pnodeB at hn
 unfold dnodeB at hv
 rw [← hk] at hv
 by_cases c6 : n.kind = 6
 ·simp [c6] at hn hv
  simp [c6, hn, hv]
 by_cases c3 : n.kind = 3
 ·simp [c3] at hn hv
  simp [c3, hn, hv]
 by_cases c4 : n.kind = 4
 ·simp [c4] at hn hv
  simp [c4, hn, hv]
 by_cases c5 : n.kind = 5
 ·simp [c5] at hn hv
  simp [c5, hn, hv]
 ·simp [c6, h1, h2, c3, c4, c5] at hn
theorem hitV_some {q d : Px} {b : List Px} (h : hitX q d = some b) : (b = [] ∧ hitV q d = .tup [.nils, .bool true]) ∨ hitV q d = .tup [.sl ((b.map fun x => (⟨dflat x⟩ : Data)).map av), .bool true] := by
 cases q with | mk n ks =>
 unfold hitV
 rw [h]
 by_cases h1 : n.kind = 1
 ·rw [hitX, if_pos h1] at h
  cases h
  exact .inl ⟨rfl, by simp [Px.hd, h1]⟩
 ·exact .inr (by simp [Px.hd, h1])
theorem hitV_none {q d : Px} (h : hitX q d = none) : hitV q d = .tup [.nils, .bool false] := by unfold hitV; rw [h]
theorem app_row0 {hp : Hp} {K : AV → Hp → Prop} (i j v n : Nat) (ty : TypeId) (e b : Nat) : aAppK hp i ty e b (.row j v n) .nils K = aAppB (hget hp j) hp j v n ty e b [] K := by
 unfold aAppK aApp aAppB aTail; simp only [Option.map_some, List.map_nil]; cases hget hp j <;> rfl
structure HsS where
 j : Nat
 a : List Px
 u : Nat
theorem l07Hit_ok (Q : List PNode) (D : List DNode) (hQ : Bulk.bulk Q ≤ 1048576) (hD : Bulk.bulk D ≤ 1048576) (hq : patB Q = true) (hd : dataB D = true) :
  ∀ (f i k : Nat), i < Q.length → Q.length - i ≤ f → k < D.length → CallsF Tryz.prog 35 [.agg [.sl (Q.map av)], .int .i64 i, .agg [.sl (D.map av)], .int .i64 k] (hitV (ptree Q i) (dtree D k)) := by
 obtain ⟨pl, pt, pn⟩ := patB_at hq
 obtain ⟨dl, dt⟩ := dataB_at hd
 have hpk : ∀ i, i < Q.length → ∀ k ∈ pkids Q i, (i : Int) < k ∧ k < Q.length := fun i hi k hk => tree_in pt hi hk
 have hdk : ∀ i, i < D.length → ∀ k ∈ dkids D i, (i : Int) < k ∧ k < D.length := fun i hi k hk => tree_in dt hi hk
 intro f
 induction f with
 | zero => intro i k hi hf; omega
 | succ f ih =>
  intro i k hi hf hk
  refine ir_spec_l07Hit.F rfl (by simp; exact ⟨AvPure.agg (by simp; exact lav_clean Q), pint _, AvPure.agg (by simp; exact lav_clean D), pint _⟩) (hitV_pure _ _) ?_
  obtain ⟨m, hm⟩ := tree_end dt hk
  have CP := l07Part_ok D hD k m hm hdk
  have e1 := getD_map av Q i .top hi
  have e2 := getD_map av D k .top hk
  have hn : pnodeB Q Q[i] = true := by
   have := pn i hi
   unfold patIB at this
   rw [getD_at hi] at this
   simp only [Bool.and_eq_true] at this
   exact this.1
  have hv : dnodeB D D[k] = true := by
   have h1 := hd
   unfold dataB at h1
   simp only [Bool.and_eq_true] at h1
   exact List.all_eq_true.1 h1.2 _ (List.getElem_mem hk)
  have tq := ptree_mk pt hi
  have td := dtree_mk dt hk
  rw [show phd Q i = ⟨Q[i].kind, Q[i].n, Q[i].s⟩ by rw [phd, getD_at hi], show pkids Q i = Q[i].kids by rw [pkids, getD_at hi]] at tq
  rw [show dhd D k = ⟨D[k].kind, D[k].n, D[k].s⟩ by rw [dhd, getD_at hk], show dkids D k = D[k].kids by rw [dkids, getD_at hk]] at td
  have hks := hpk i hi
  have hds := hdk k hk
  rw [pkids, getD_at hi] at hks
  rw [dkids, getD_at hk] at hds
  have sn := (pnode_small hQ i hi).1
  have sv := (dnode_small hD k hk).1
  have hsame := hit_same hn hv
  rw [av_Data] at CP
  have hT : ∀ d, hitX (ptree Q i) d = hitX (ptree Q i) d := fun _ => rfl
  generalize Q[i] = n at *
  generalize D[k] = v at *
  by_cases h1 : n.kind = 1
  ·have hr : hitV (ptree Q i) (dtree D k) = .tup [.nils, .bool true] := by rw [tq]; simp [hitV, hitX, h1, Px.hd]
   rw [hr]
   simp +contextual -dsimp (maxSteps := 2000000) only [↓SD, SU, SB, Nat.reduceAdd, Nat.reduceBEq, Nat.reduceEqDiff, Nat.reduceLeDiff, Nat.reduceLT, Nat.reduceSub, ↓reduceIte, reduceCtorEq, Int.reduceToNat, Int.reduceEq, Int.reduceLT, Int.reduceLE, Int.reduceNeg, Int.reduceAdd, Int.reduceSub, ir_spec_l07Hit, map_len, hi, hk, e1, e2, av_PNode, av_DNode, h1]
  by_cases h2 : n.kind = 2
  ·have hr : hitV (ptree Q i) (dtree D k) = .tup [.sl [.agg [.sl ((dflat (dtree D k)).map av)]], .bool true] := by rw [tq]; simp [hitV, hitX, h1, h2, Px.hd, av_Data]
   rw [hr]
   clear tq td
   simp +contextual -dsimp (maxSteps := 2000000) only [↓SD, SU, SB, Nat.reduceAdd, Nat.reduceBEq, Nat.reduceEqDiff, Nat.reduceLeDiff, Nat.reduceLT, Nat.reduceSub, ↓reduceIte, reduceCtorEq, Int.reduceToNat, Int.reduceEq, Int.reduceLT, Int.reduceLE, Int.reduceNeg, Int.reduceAdd, Int.reduceSub, ir_spec_l07Hit, map_len, hi, hk, e1, e2, av_PNode, av_DNode, h1, h2]
   intro u1 u2
   refine aCallK_of _ CP ?_
   simp +contextual -dsimp (maxSteps := 2000000) only [↓SD, SU, SB, Nat.reduceAdd, Nat.reduceBEq, Nat.reduceEqDiff, Nat.reduceLeDiff, Nat.reduceLT, Nat.reduceSub, ↓reduceIte, reduceCtorEq, Int.reduceToNat, Int.reduceEq, Int.reduceLT, Int.reduceLE, Int.reduceNeg, Int.reduceAdd, Int.reduceSub, map_nop]
  have hX : hitX (ptree Q i) (dtree D k) = if n.kind = v.kind ∧ n.n = v.n ∧ n.s = v.s ∧ n.kids.length = v.kids.length then hitXs (n.kids.map fun k => ptree Q k.toNat) (v.kids.map fun k => dtree D k.toNat) else none := by
   rw [tq, td, hitX, if_neg h1, if_neg h2]
   simp only [Px.hd, Px.kids, List.length_map]
  have hV : hitV (ptree Q i) (dtree D k) = match hitX (ptree Q i) (dtree D k) with
    | none => .tup [.nils, .bool false]
    | some l => .tup [.sl ((l.map fun x => (⟨dflat x⟩ : Data)).map av), .bool true] := by
   unfold hitV
   rw [show (ptree Q i).hd.kind = n.kind by rw [tq]; rfl]
   simp only [if_neg h1]
  have hsz : pxN (ptree Q i) + i ≤ Q.length := by
   obtain ⟨m2, hm2⟩ := tree_end pt hi
   have h3 := grow_size (H := phd Q) (Q.length + 1) i m2 hm2
   have h4 := end_le _ _ _ _ _ hm2
   have h5 : ptree Q i = growX (phd Q) (pkids Q) (Q.length + 1) i := growX_any hpk _ _ _ hi (by omega) (by omega)
   rw [h5]; omega
  rw [tq, pxN] at hsz
  rw [hV, hX]
  clear tq td hV hX hT CP
  have hvk : n.kind = v.kind → v.kind = n.kind := fun h => h.symm
  by_cases c0 : n.kind = v.kind
  case neg =>
   rw [if_neg (fun h => c0 h.1)]
   simp +contextual -dsimp (maxSteps := 2000000) only [↓SD, SU, SB, Nat.reduceAdd, Nat.reduceBEq, Nat.reduceEqDiff, Nat.reduceLeDiff, Nat.reduceLT, Nat.reduceSub, ↓reduceIte, reduceCtorEq, Int.reduceToNat, Int.reduceEq, Int.reduceLT, Int.reduceLE, Int.reduceNeg, Int.reduceAdd, Int.reduceSub, ir_spec_l07Hit, map_len, hi, hk, e1, e2, av_PNode, av_DNode, h1, h2, c0]
  replace hvk := hvk c0
  have hs2 := hsame h1 h2 c0
  by_cases c3 : n.kind = 3 ∧ ¬ n.n = v.n
  ·obtain ⟨A, B⟩ := c3
   rw [if_neg (fun h => B h.2.1)]
   simp +contextual -dsimp (maxSteps := 2000000) only [↓SD, SU, SB, Nat.reduceAdd, Nat.reduceBEq, Nat.reduceEqDiff, Nat.reduceLeDiff, Nat.reduceLT, Nat.reduceSub, ↓reduceIte, reduceCtorEq, Int.reduceToNat, Int.reduceEq, Int.reduceLT, Int.reduceLE, Int.reduceNeg, Int.reduceAdd, Int.reduceSub, ir_spec_l07Hit, map_len, hi, hk, e1, e2, av_PNode, av_DNode, hvk, A, B]
  by_cases c4 : n.kind = 4 ∧ ¬ n.s = v.s
  ·obtain ⟨A, B⟩ := c4
   rw [if_neg (fun h => B h.2.2.1)]
   simp +contextual -dsimp (maxSteps := 2000000) only [↓SD, SU, SB, Nat.reduceAdd, Nat.reduceBEq, Nat.reduceEqDiff, Nat.reduceLeDiff, Nat.reduceLT, Nat.reduceSub, ↓reduceIte, reduceCtorEq, Int.reduceToNat, Int.reduceEq, Int.reduceLT, Int.reduceLE, Int.reduceNeg, Int.reduceAdd, Int.reduceSub, ir_spec_l07Hit, map_len, hi, hk, e1, e2, av_PNode, av_DNode, hvk, A, B]
  by_cases c5 : n.kind = 4 ∧ ¬ n.kids.length = v.kids.length
  ·obtain ⟨A, B⟩ := c5
   have B2 : n.s = v.s := Classical.byContradiction fun h => c4 ⟨A, h⟩
   rw [if_neg (fun h => B h.2.2.2)]
   simp +contextual -dsimp (maxSteps := 2000000) only [↓SD, SU, SB, Nat.reduceAdd, Nat.reduceBEq, Nat.reduceEqDiff, Nat.reduceLeDiff, Nat.reduceLT, Nat.reduceSub, ↓reduceIte, reduceCtorEq, Int.reduceToNat, Int.reduceEq, Int.reduceLT, Int.reduceLE, Int.reduceNeg, Int.reduceAdd, Int.reduceSub, ir_spec_l07Hit, map_len, hi, hk, e1, e2, av_PNode, av_DNode, hvk, A, B, B2]
  have hall : n.n = v.n ∧ n.s = v.s ∧ n.kids.length = v.kids.length := hs2.2 ⟨fun h => Classical.byContradiction fun g => c3 ⟨h, g⟩, fun h => ⟨Classical.byContradiction fun g => c4 ⟨h, g⟩, Classical.byContradiction fun g => c5 ⟨h, g⟩⟩⟩
  rw [if_pos ⟨c0, hall⟩]
  obtain ⟨g1, g2, g3⟩ := hall
  have hcase : (n.kind = 3 ∧ n.n = v.n ∧ True) ∨ (n.kind = 4 ∧ n.s = v.s ∧ n.kids.length = v.kids.length) ∨ (¬ n.kind = 3 ∧ ¬ n.kind = 4 ∧ True) := by
   by_cases a3 : n.kind = 3
   ·exact .inl ⟨a3, g1, trivial⟩
   by_cases a4 : n.kind = 4
   ·exact .inr (.inl ⟨a4, g2, g3⟩)
   ·exact .inr (.inr ⟨a3, a4, trivial⟩)
  clear hs2 hsame c3 c4 c5 hn hv
  rcases hcase with ⟨A, B, C⟩ | ⟨A, B, C⟩ | ⟨A, B, C⟩
  all_goals
   simp +contextual -dsimp (maxSteps := 2000000) only [↓SD, SU, SB, Nat.reduceAdd, Nat.reduceBEq, Nat.reduceEqDiff, Nat.reduceLeDiff, Nat.reduceLT, Nat.reduceSub, ↓reduceIte, reduceCtorEq, Int.reduceToNat, Int.reduceEq, Int.reduceLT, Int.reduceLE, Int.reduceNeg, Int.reduceAdd, Int.reduceSub, ir_spec_l07Hit, map_len, hi, hk, e1, e2, av_PNode, av_DNode, hvk, h1, h2, A, B, C]
   intro u10 u11 u74
   refine aLoop_of (X := HsS) (fun q => ⟨[(4, .obj [.sl (Q.map av)]), (6, .obj [.sl (D.map av)]), (10, .ptr 10 u10 0 0), (11, .ptr 11 u11 0 0), (12, .row 74 q.u q.a.length), (77, .int .i64 n.kids.length), (78, .int .i64 q.j)], [(10, ⟨u10, false, 36, 4, [.agg [.int .i64 n.kind, .int .i64 n.n, .str n.s, .sl (n.kids.map av)]]⟩), (11, ⟨u11, false, 116, 4, [.agg [.int .i64 n.kind, .int .i64 v.n, .str v.s, .sl (v.kids.map av)]]⟩), (74, ⟨q.u, false, 28, 1, (q.a.map fun x => (⟨dflat x⟩ : Data)).map av⟩)]⟩) (fun q => q.j ≤ n.kids.length ∧ hitXs ((n.kids.map fun k => ptree Q k.toNat).take q.j) ((v.kids.map fun k => dtree D k.toNat).take q.j) = some q.a) (fun q => n.kids.length - q.j) ⟨0, [], u74⟩ ⟨Nat.zero_le _, by rw [List.take_zero, hitXs]⟩ (by simp +contextual -dsimp only [↓SD, SU, SB, Nat.reduceAdd, Nat.reduceBEq, Nat.reduceEqDiff, Nat.reduceLeDiff, Nat.reduceLT, Nat.reduceSub, ↓reduceIte, reduceCtorEq, Int.reduceToNat, A, B, C]) (by simp +contextual -dsimp only [↓SD, SU, SB, Nat.reduceAdd, Nat.reduceBEq, Nat.reduceEqDiff, Nat.reduceLeDiff, Nat.reduceLT, Nat.reduceSub, ↓reduceIte, reduceCtorEq, Int.reduceToNat, A, B, C]) ?_
   rintro ⟨j, a, u⟩ ⟨hj, ha⟩
   dsimp only at hj ha ⊢
   by_cases hlt : j < n.kids.length
   ·have hltv : j < v.kids.length := by omega
    have q1 := getD_map av n.kids j .top hlt
    have q2 := getD_map av v.kids j .top hltv
    have b1 := hks _ (List.getElem_mem hlt)
    have b2 := hds _ (List.getElem_mem hltv)
    have hls : (n.kids.map fun k => ptree Q k.toNat).length = (v.kids.map fun k => dtree D k.toNat).length := by simp [g3]
    have hj1 : j < (n.kids.map fun k => ptree Q k.toNat).length := by simpa using hlt
    have hst := hitXs_step hls hj1
    rw [ha] at hst
    have hno := fun (h : hitXs ((n.kids.map fun k => ptree Q k.toNat).take (j + 1)) ((v.kids.map fun k => dtree D k.toNat).take (j + 1)) = none) => hitXs_no hls hj1 h
    have hal := hitXs_take_len ha
    have hpt := pxNs_take _ j hj1
    simp only [List.getElem_map] at hst hpt
    obtain ⟨m1, hm1⟩ : ∃ m : Nat, n.kids[j] = m := ⟨n.kids[j].toNat, by omega⟩
    obtain ⟨m2, hm2⟩ : ∃ m : Nat, v.kids[j] = m := ⟨v.kids[j].toNat, by omega⟩
    rw [hm1] at q1 b1 hst hpt
    rw [hm2] at q2 b2 hst
    simp only [Int.toNat_natCast] at hst hpt
    have CR := ih m1 m2 (by omega) (by omega) (by omega)
    have hbl := hitX_len (ptree Q m1) (dtree D m2)
    rw [av_int] at q1 q2
    simp +contextual -dsimp (maxSteps := 2000000) only [↓SD, SU, SB, Nat.reduceAdd, Nat.reduceBEq, Nat.reduceEqDiff, Nat.reduceLeDiff, Nat.reduceLT, Nat.reduceSub, ↓reduceIte, reduceCtorEq, Int.reduceToNat, Int.reduceEq, Int.reduceLT, Int.reduceLE, Int.reduceNeg, Int.reduceAdd, Int.reduceSub, hlt, q1, q2, hltv, map_len]
    cases hh : hitX (ptree Q m1) (dtree D m2) with
    | none =>
     rw [hh] at hst
     rw [hitV_none hh] at CR
     rw [hno hst]
     refine aCallK_of _ CR ?_
     simp +contextual -dsimp (maxSteps := 2000000) only [↓SD, SU, SB, Nat.reduceAdd, Nat.reduceBEq, Nat.reduceEqDiff, Nat.reduceLeDiff, Nat.reduceLT, Nat.reduceSub, ↓reduceIte, reduceCtorEq, Int.reduceToNat, Int.reduceEq, Int.reduceLT, Int.reduceLE, Int.reduceNeg, Int.reduceAdd, Int.reduceSub]
    | some b =>
     have hb2 := hbl b hh
     rw [hh] at hst
     have haa : List.take a.length ((a.map fun x => (⟨dflat x⟩ : Data)).map (av : Data → AV)) = (a.map fun x => (⟨dflat x⟩ : Data)).map av := List.take_of_length_le (by simp)
     rcases hitV_some hh with ⟨hb0, hV⟩ | hV
     ·rw [hV] at CR
      subst hb0
      refine aCallK_of _ CR ?_
      simp only [List.append_nil] at hst
      simp +contextual -dsimp (maxSteps := 2000000) only [↓SD, SU, SB, Nat.reduceAdd, Nat.reduceBEq, Nat.reduceEqDiff, Nat.reduceLeDiff, Nat.reduceLT, Nat.reduceSub, ↓reduceIte, reduceCtorEq, Int.reduceToNat, Int.reduceEq, Int.reduceLT, Int.reduceLE, Int.reduceNeg, Int.reduceAdd, Int.reduceSub, haa, map_len, app_row0, List.append_nil, Nat.add_zero]
      exact ⟨⟨by omega, by unfold maxLen; omega⟩, fun w => ⟨by omega, Goes.le ⟨⟨j + 1, a, w⟩, ⟨⟨hlt, hst⟩, (by first | omega | (simp only; omega))⟩, rfl⟩ (by simp +contextual -dsimp only [↓SD, SU, SB, Nat.reduceAdd, Nat.reduceBEq, Nat.reduceEqDiff, Nat.reduceLeDiff, Nat.reduceLT, Nat.reduceSub, ↓reduceIte, reduceCtorEq, Int.reduceToNat, Int.natCast_add]) (by simp +contextual -dsimp only [↓SD, SU, SB, Nat.reduceAdd, Nat.reduceBEq, Nat.reduceEqDiff, Nat.reduceLeDiff, Nat.reduceLT, Nat.reduceSub, ↓reduceIte, reduceCtorEq, Int.reduceToNat])⟩⟩
     ·rw [hV] at CR
      refine aCallK_of _ CR ?_
      simp only at hst
      simp +contextual -dsimp (maxSteps := 2000000) only [↓SD, SU, SB, Nat.reduceAdd, Nat.reduceBEq, Nat.reduceEqDiff, Nat.reduceLeDiff, Nat.reduceLT, Nat.reduceSub, ↓reduceIte, reduceCtorEq, Int.reduceToNat, Int.reduceEq, Int.reduceLT, Int.reduceLE, Int.reduceNeg, Int.reduceAdd, Int.reduceSub, haa, map_len, map_nop]
      exact ⟨⟨fun y hy => (by obtain ⟨x, _, rfl⟩ := List.mem_map.1 hy; exact AVal.len x), by omega, by unfold maxLen; omega⟩, fun w => ⟨by omega, Goes.le ⟨⟨j + 1, a ++ b, w⟩, ⟨⟨hlt, hst⟩, (by first | omega | (simp only; omega))⟩, rfl⟩ (by simp +contextual -dsimp only [↓SD, SU, SB, Nat.reduceAdd, Nat.reduceBEq, Nat.reduceEqDiff, Nat.reduceLeDiff, Nat.reduceLT, Nat.reduceSub, ↓reduceIte, reduceCtorEq, Int.reduceToNat, Int.natCast_add, List.length_append]) (by simp +contextual -dsimp only [↓SD, SU, SB, Nat.reduceAdd, Nat.reduceBEq, Nat.reduceEqDiff, Nat.reduceLeDiff, Nat.reduceLT, Nat.reduceSub, ↓reduceIte, reduceCtorEq, Int.reduceToNat, List.map_append])⟩⟩
   ·obtain rfl : j = n.kids.length := by omega
    have ha2 : hitXs (n.kids.map fun k => ptree Q k.toNat) (v.kids.map fun k => dtree D k.toNat) = some a := by
     have h1 : (n.kids.map fun k => ptree Q k.toNat).take n.kids.length = n.kids.map fun k => ptree Q k.toNat := List.take_of_length_le (by simp)
     have h2 : (v.kids.map fun k => dtree D k.toNat).take n.kids.length = v.kids.map fun k => dtree D k.toNat := List.take_of_length_le (by simp [g3])
     rw [h1, h2] at ha
     exact ha
    have haa : List.take a.length ((a.map fun x => (⟨dflat x⟩ : Data)).map (av : Data → AV)) = (a.map fun x => (⟨dflat x⟩ : Data)).map av := List.take_of_length_le (by simp)
    rw [ha2]
    simp +contextual -dsimp (maxSteps := 2000000) only [↓SD, SU, SB, Nat.reduceAdd, Nat.reduceBEq, Nat.reduceEqDiff, Nat.reduceLeDiff, Nat.reduceLT, Nat.reduceSub, ↓reduceIte, reduceCtorEq, Int.reduceToNat, Int.reduceEq, Int.reduceLT, Int.reduceLE, Int.reduceNeg, Int.reduceAdd, Int.reduceSub, Nat.lt_irrefl, haa, map_nop, map_len]

def hitW (q : List PNode) (d : List DNode) : AV := if patB q = true ∧ dataB d = true then hitV (ptree q 0) (dtree d 0) else .tup [.nils, .bool false]
theorem hitW_ok (q : List PNode) (d : List DNode) : ∃ x, hitW q d = .tup [x, .bool (hitB q d)] := by
 unfold hitW hitB hitO
 split
 ·cases h : hitX (ptree q 0) (dtree d 0) with
  | none => exact ⟨_, hitV_none h⟩
  | some l =>
   rcases hitV_some h with ⟨_, hV⟩ | hV
   ·exact ⟨_, hV⟩
   ·exact ⟨_, hV⟩
 ·exact ⟨_, rfl⟩
theorem hitW_pure (q : List PNode) (d : List DNode) : AvPure (hitW q d) := by
 unfold hitW
 split
 ·exact hitV_pure _ _
 ·exact AvPure.tup (by simp; exact ⟨AvPure.nils, AvPure.bool _⟩)
theorem specHit_ok (q : List PNode) (d : List DNode) (hq : Bulk.bulk q ≤ 1048576) (hd : Bulk.bulk d ≤ 1048576) (hr : ∀ n ∈ d, -9223372036854775808 ≤ n.n ∧ n.n ≤ 9223372036854775807) : CallsF Tryz.prog 8 [.agg [.sl (q.map av)], .agg [.sl (d.map av)]] (hitW q d) := by
 refine ir_spec_Hit.F rfl (by simp; exact ⟨AvPure.agg (by simp; exact lav_clean q), AvPure.agg (by simp; exact lav_clean d)⟩) (hitW_pure _ _) ?_
 have CP := specPatOk_ok q hq
 have CD := specDataOk_ok d hd hr
 by_cases hp : patB q = true
 case neg =>
  have hp' : patB q = false := by simpa using hp
  rw [hp'] at CP
  rw [show hitW q d = .tup [.nils, .bool false] from if_neg (fun h => hp h.1)]
  simp +contextual -dsimp (maxSteps := 2000000) only [↓SD, SU, SB, Nat.reduceAdd, Nat.reduceBEq, Nat.reduceEqDiff, Nat.reduceLeDiff, Nat.reduceLT, Nat.reduceSub, ↓reduceIte, reduceCtorEq, Int.reduceToNat, Int.reduceEq, Int.reduceLT, Int.reduceLE, Int.reduceNeg, Int.reduceAdd, Int.reduceSub, ir_spec_Hit]
  refine aCallK_of _ CP ?_
  simp +contextual -dsimp (maxSteps := 2000000) only [↓SD, SU, SB, Nat.reduceAdd, Nat.reduceBEq, Nat.reduceEqDiff, Nat.reduceLeDiff, Nat.reduceLT, Nat.reduceSub, ↓reduceIte, reduceCtorEq, Int.reduceToNat, Int.reduceEq, Int.reduceLT, Int.reduceLE, Int.reduceNeg, Int.reduceAdd, Int.reduceSub]
 rw [hp] at CP
 by_cases hv : dataB d = true
 case neg =>
  have hv' : dataB d = false := by simpa using hv
  rw [hv'] at CD
  rw [show hitW q d = .tup [.nils, .bool false] from if_neg (fun h => hv h.2)]
  simp +contextual -dsimp (maxSteps := 2000000) only [↓SD, SU, SB, Nat.reduceAdd, Nat.reduceBEq, Nat.reduceEqDiff, Nat.reduceLeDiff, Nat.reduceLT, Nat.reduceSub, ↓reduceIte, reduceCtorEq, Int.reduceToNat, Int.reduceEq, Int.reduceLT, Int.reduceLE, Int.reduceNeg, Int.reduceAdd, Int.reduceSub, ir_spec_Hit]
  refine aCallK_of _ CP ?_
  simp +contextual -dsimp (maxSteps := 2000000) only [↓SD, SU, SB, Nat.reduceAdd, Nat.reduceBEq, Nat.reduceEqDiff, Nat.reduceLeDiff, Nat.reduceLT, Nat.reduceSub, ↓reduceIte, reduceCtorEq, Int.reduceToNat, Int.reduceEq, Int.reduceLT, Int.reduceLE, Int.reduceNeg, Int.reduceAdd, Int.reduceSub]
  refine aCallK_of _ CD ?_
  simp +contextual -dsimp (maxSteps := 2000000) only [↓SD, SU, SB, Nat.reduceAdd, Nat.reduceBEq, Nat.reduceEqDiff, Nat.reduceLeDiff, Nat.reduceLT, Nat.reduceSub, ↓reduceIte, reduceCtorEq, Int.reduceToNat, Int.reduceEq, Int.reduceLT, Int.reduceLE, Int.reduceNeg, Int.reduceAdd, Int.reduceSub]
 rw [hv] at CD
 have CH := l07Hit_ok q d hq hd hp hv q.length 0 0 (by have := (patB_at hp).1; omega) (by omega) (by have := (dataB_at hv).1; omega)
 have hw : hitV (ptree q 0) (dtree d 0) = hitW q d := (if_pos ⟨hp, hv⟩).symm
 obtain ⟨x, hx⟩ := hitW_ok q d
 have hpu := hitW_pure q d
 rw [hw] at CH
 rw [hx] at CH hpu ⊢
 simp +contextual -dsimp (maxSteps := 2000000) only [↓SD, SU, SB, Nat.reduceAdd, Nat.reduceBEq, Nat.reduceEqDiff, Nat.reduceLeDiff, Nat.reduceLT, Nat.reduceSub, ↓reduceIte, reduceCtorEq, Int.reduceToNat, Int.reduceEq, Int.reduceLT, Int.reduceLE, Int.reduceNeg, Int.reduceAdd, Int.reduceSub, ir_spec_Hit]
 refine aCallK_of _ CP ?_
 simp +contextual -dsimp (maxSteps := 2000000) only [↓SD, SU, SB, Nat.reduceAdd, Nat.reduceBEq, Nat.reduceEqDiff, Nat.reduceLeDiff, Nat.reduceLT, Nat.reduceSub, ↓reduceIte, reduceCtorEq, Int.reduceToNat, Int.reduceEq, Int.reduceLT, Int.reduceLE, Int.reduceNeg, Int.reduceAdd, Int.reduceSub]
 refine aCallK_of _ CD ?_
 simp +contextual -dsimp (maxSteps := 2000000) only [↓SD, SU, SB, Nat.reduceAdd, Nat.reduceBEq, Nat.reduceEqDiff, Nat.reduceLeDiff, Nat.reduceLT, Nat.reduceSub, ↓reduceIte, reduceCtorEq, Int.reduceToNat, Int.reduceEq, Int.reduceLT, Int.reduceLE, Int.reduceNeg, Int.reduceAdd, Int.reduceSub]
 refine aCallK_of _ CH ?_
 simp +contextual -dsimp (maxSteps := 2000000) only [↓SD, SU, SB, Nat.reduceAdd, Nat.reduceBEq, Nat.reduceEqDiff, Nat.reduceLeDiff, Nat.reduceLT, Nat.reduceSub, ↓reduceIte, reduceCtorEq, Int.reduceToNat, Int.reduceEq, Int.reduceLT, Int.reduceLE, Int.reduceNeg, Int.reduceAdd, Int.reduceSub]
end Go.Proofs.YteeiaaogmjbcjaaGreat
