/-
  THE MARKS OF WHAT ONE COMES TO, of the reference, by abstract texts. Conditions: none.
-/
import Derived.Test.YtpignflebknagaaCopied
set_option linter.unusedVariables false
set_option linter.unusedSimpArgs false
set_option maxRecDepth 100000
namespace Go.Proofs.Ytpignflebknagaa
open Go.RowKit Go.Proofs.Ytpignflebknagaa.Av Go.Proofs.Ytpignflebknagaa.Ml
open Go.Proofs.Ytpignflebknagaa.Av.AVal (av)

/-- place i is marked -/
def mkd (m : List Bool) (i : Nat) : Prop := m.getD i false = true
instance (m : List Bool) (i : Nat) : Decidable (mkd m i) := inferInstanceAs (Decidable (m.getD i false = true))
def cf (m : List Bool) : Nat := m.count false
theorem mk_set {m : List Bool} {i j : Nat} (hi : i < m.length) : mkd (m.set i true) j ↔ mkd m j ∨ j = i := by
  unfold mkd
  rw [List.getD_eq_getElem?_getD, List.getD_eq_getElem?_getD, List.getElem?_set]
  by_cases h : i = j
  · subst h; simp [hi]
  · rw [if_neg h]; simp [Ne.symm h]
theorem cf_set {m : List Bool} {i : Nat} (hi : i < m.length) (h : ¬ mkd m i) : cf (m.set i true) + 1 = cf m := by
  unfold cf
  have h0 : m[i] = false := by
    unfold mkd at h
    rw [List.getD_eq_getElem?_getD, List.getElem?_eq_getElem hi] at h
    simpa using h
  have hpos : 0 < m.count false := List.count_pos_iff.2 (h0 ▸ List.getElem_mem hi)
  rw [List.count_set hi, h0]
  simp
  omega
theorem mk_get {m : List Bool} {i : Nat} (hi : i < m.length) : (m.map (av : Bool → AV)).getD i .top = .bool (decide (mkd m i)) := by
  have h : decide (mkd m i) = m[i] := by
    apply Bool.eq_iff_iff.2
    rw [decide_eq_true_iff]
    unfold mkd
    rw [List.getD_eq_getElem?_getD, List.getElem?_eq_getElem hi]; rfl
  rw [getD_map av m i .top hi, av_bool, h]
theorem mkd_lt {m : List Bool} {i : Nat} (h : mkd m i) : i < m.length := by
  unfold mkd at h
  rw [List.getD_eq_getElem?_getD] at h
  by_cases hi : i < m.length
  · exact hi
  · rw [List.getElem?_eq_none (by omega)] at h; cases h
theorem set_av {m : List Bool} {i : Nat} : (m.map (av : Bool → AV)).set i (.bool true) = (m.set i true).map av := by rw [List.map_set]; rfl
/-- nothing is marked that one does not come to -/
def Mok (h : List Cell) (R : List Nat) (m : List Bool) : Prop := m.length = h.length ∧ ∀ i, mkd m i → i ∈ R
theorem Mok.set {h : List Cell} {R : List Nat} {m : List Bool} (hm : Mok h R m) {i : Nat} (hi : i ∈ R) (hl : i < h.length) : Mok h R (m.set i true) :=
  ⟨by rw [List.length_set]; exact hm.1, fun j hj => (mk_set (by rw [hm.1]; exact hl)).1 hj |>.elim (hm.2 j) (fun e => e ▸ hi)⟩
structure MS where
  k : Nat
  m : List Bool
structure MA where
  a : Bool
  m : List Bool
structure MP where
  k : Nat
  a : Bool
  m : List Bool
/-- a pass from m0 has come to m -/
structure Pass (h : List Cell) (R : List Nat) (m0 : List Bool) (a : Bool) (m : List Bool) : Prop where
  ok : Mok h R m
  up : ∀ i, mkd m0 i → mkd m i
  yes : a = true → cf m < cf m0
  no : a = false → m = m0
theorem Pass.step {h : List Cell} {R : List Nat} {m0 m : List Bool} {a : Bool} (p : Pass h R m0 a m) {j : Nat} (hj : j ∈ R) (hl : j < h.length) (hn : ¬ mkd m j) : Pass h R m0 true (m.set j true) := by
  have hlm : j < m.length := by rw [p.ok.1]; exact hl
  refine ⟨p.ok.set hj hl, fun i hi => (mk_set hlm).2 (.inl (p.up i hi)), fun _ => ?_, fun e => by cases e⟩
  have := cf_set hlm hn
  cases a with
  | true => have := p.yes rfl; omega
  | false => have := p.no rfl; subst this; omega
theorem marks_full {h : List Cell} {roots : List Val} {m : List Bool} {R : List Nat} (hm : Mok h R m) (e : EndO h (startO roots) R) (hr : ∀ v ∈ roots, ∀ i, cellOf v = some i → mkd m i) (hc : ∀ i, mkd m i → ∀ j, kid h i j → mkd m j) : m = (List.range h.length).map fun i => decide (i ∈ R) := by
  have h1 : ∀ i ∈ R, mkd m i := e.least (mkd m) (fun j hj => by
    rcases fold_mem.1 hj with hj | ⟨v, hv, hj⟩
    · cases hj
    · exact hr v hv j hj) (fun i j hi hk => hc i hi j hk)
  apply List.ext_getElem (by simp [hm.1])
  intro i h2 h3
  simp only [List.getElem_map, List.getElem_range]
  have h4 : m.getD i false = m[i] := by rw [List.getD_eq_getElem?_getD, List.getElem?_eq_getElem h2]; rfl
  rw [← h4]
  by_cases hR : i ∈ R
  · rw [decide_eq_true hR]; exact h1 i hR
  · rw [decide_eq_false hR]
    have : ¬ mkd m i := fun hh => hR (hm.2 i hh)
    unfold mkd at this
    simpa using this

theorem marks_ok (h : List Cell) (roots : List Val) (hb : heapB h roots = true) (hrl : roots.length ≤ 1048576) : CallsF Try.prog 25 [.sl (h.map av), .sl (roots.map av)] (.sl (((List.range h.length).map fun i => decide (i ∈ reachO h roots)).map av)) := by
  simp only [heapB, Bool.and_eq_true, decide_eq_true_eq, List.all_eq_true] at hb
  obtain ⟨⟨hl, hc⟩, hv⟩ := hb
  have hh : okH h := fun c hc' => ⟨fun i hi => cellOf_lt (cellB_vala (hc c hc')) hi, (cellB_valb (hc c hc')).1⟩
  have hE := reach_end hh (roots := roots) (fun v hv' i hi => cellOf_lt (hv v hv') hi)
  obtain ⟨R, hR⟩ : ∃ R, R = reachO h roots := ⟨_, rfl⟩
  rw [← hR] at hE ⊢
  have hroot : ∀ v ∈ roots, ∀ i, cellOf v = some i → i ∈ R := fun v hv' i hi => hE.sub i (fold_mem.2 (.inr ⟨v, hv', hi⟩))
  refine fun_spec_l11Marks rfl (by simp; exact ⟨lav_clean h, lav_clean roots⟩) (lav_clean _) ?_
  simp +contextual -dsimp (maxSteps := 2000000) only [↓SD, SU, SB, Nat.reduceAdd, Nat.reduceBEq, Nat.reduceEqDiff, Nat.reduceLeDiff, Nat.reduceLT, Nat.reduceSub, ↓reduceIte, zA, zI, zN, reduceCtorEq, Int.reduceToNat, zE, Int.reduceEq, Int.reduceLT, Int.reduceLE, Int.reduceNeg, Int.reduceAdd, Int.reduceSub, ir_spec_l11Marks, rs_spec_l11Marks, map_len]
  refine ⟨by omega, fun u => ?_⟩
  refine aLoop_of (X := MS) (fun x => ⟨[(0, .sl (h.map av)), (5, .row 15 u h.length), (16, .sl (roots.map av)), (17, .int .i64 roots.length), (18, .int .i64 x.k)], [(15, ⟨u, false, 4, 1, x.m.map av⟩)]⟩) (fun x => x.k ≤ roots.length ∧ Mok h R x.m ∧ ∀ v ∈ roots.take x.k, ∀ i, cellOf v = some i → mkd x.m i) (fun x => roots.length - x.k) ⟨0, List.replicate h.length false⟩ ⟨Nat.zero_le _, ⟨by simp, fun i hi => by simp [mkd, List.getD_eq_getElem?_getD, List.getElem?_replicate] at hi; split at hi <;> simp at hi⟩, fun v hv' => by simp at hv'⟩ (by simp +contextual -dsimp only [↓SD, SU, SB, Nat.reduceAdd, Nat.reduceBEq, Nat.reduceEqDiff, Nat.reduceLeDiff, Nat.reduceLT, Nat.reduceSub, ↓reduceIte, zA, zI, zN, reduceCtorEq, Int.reduceToNat, zE]) (by simp +contextual -dsimp only [↓SD, SU, SB, Nat.reduceAdd, Nat.reduceBEq, Nat.reduceEqDiff, Nat.reduceLeDiff, Nat.reduceLT, Nat.reduceSub, ↓reduceIte, zA, zI, zN, reduceCtorEq, Int.reduceToNat, zE, List.map_replicate, av_bool]) ?_
  rintro ⟨k, m⟩ ⟨hk, hm, hr⟩
  dsimp only at hk hm hr
  have hml := hm.1
  by_cases hlt : k < roots.length
  · have e := getD_map av roots k .top hlt
    have ht : roots.take (k + 1) = roots.take k ++ [roots[k]] := List.take_succ_eq_append_getElem hlt
    have hvk := hv _ (List.getElem_mem hlt)
    have hrk := hroot _ (List.getElem_mem hlt)
    generalize roots[k] = v at *
    by_cases k6 : v.kind = 6
    · have hn0 := valB_n hvk k6
      obtain ⟨j, hj⟩ : ∃ j : Nat, v.n = j := ⟨v.n.toNat, by omega⟩
      have hcj : cellOf v = some j := by unfold cellOf; rw [if_pos k6, hj, Int.toNat_natCast]
      have hjl := cellOf_lt hvk hcj
      have hjm : j < m.length := by omega
      simp +contextual -dsimp (maxSteps := 2000000) only [↓SD, SU, SB, Nat.reduceAdd, Nat.reduceBEq, Nat.reduceEqDiff, Nat.reduceLeDiff, Nat.reduceLT, Nat.reduceSub, ↓reduceIte, zA, zI, zN, reduceCtorEq, Int.reduceToNat, zE, Int.reduceEq, Int.reduceLT, Int.reduceLE, Int.reduceNeg, Int.reduceAdd, Int.reduceSub, hlt, map_len, e, av_Val, k6, hj, hjl, hml, mk_get hjm, set_av]
      intro v7
      exact ⟨by omega, Goes.le ⟨⟨k + 1, m.set j true⟩, ⟨⟨hlt, hm.set (hrk j hcj) hjl, fun w hw i hi => by
        rw [ht] at hw
        rcases List.mem_append.1 hw with hw | hw
        · exact (mk_set hjm).2 (.inl (hr w hw i hi))
        · simp at hw; subst hw; rw [hcj] at hi; cases hi; exact (mk_set hjm).2 (.inr rfl)⟩, by dsimp only; omega⟩, rfl⟩ (by simp +contextual -dsimp only [↓SD, SU, SB, Nat.reduceAdd, Nat.reduceBEq, Nat.reduceEqDiff, Nat.reduceLeDiff, Nat.reduceLT, Nat.reduceSub, ↓reduceIte, zA, zI, zN, reduceCtorEq, Int.reduceToNat, zE, Int.natCast_add]) (by simp +contextual -dsimp only [↓SD, SU, SB, Nat.reduceAdd, Nat.reduceBEq, Nat.reduceEqDiff, Nat.reduceLeDiff, Nat.reduceLT, Nat.reduceSub, ↓reduceIte, zA, zI, zN, reduceCtorEq, Int.reduceToNat, zE])⟩
    · have hcj : cellOf v = none := by unfold cellOf; rw [if_neg k6]
      simp +contextual -dsimp (maxSteps := 2000000) only [↓SD, SU, SB, Nat.reduceAdd, Nat.reduceBEq, Nat.reduceEqDiff, Nat.reduceLeDiff, Nat.reduceLT, Nat.reduceSub, ↓reduceIte, zA, zI, zN, reduceCtorEq, Int.reduceToNat, zE, Int.reduceEq, Int.reduceLT, Int.reduceLE, Int.reduceNeg, Int.reduceAdd, Int.reduceSub, hlt, map_len, e, av_Val, k6]
      intro v7
      exact ⟨by omega, Goes.le ⟨⟨k + 1, m⟩, ⟨⟨hlt, hm, fun w hw i hi => by
        rw [ht] at hw
        rcases List.mem_append.1 hw with hw | hw
        · exact hr w hw i hi
        · simp at hw; subst hw; rw [hcj] at hi; cases hi⟩, by dsimp only; omega⟩, rfl⟩ (by simp +contextual -dsimp only [↓SD, SU, SB, Nat.reduceAdd, Nat.reduceBEq, Nat.reduceEqDiff, Nat.reduceLeDiff, Nat.reduceLT, Nat.reduceSub, ↓reduceIte, zA, zI, zN, reduceCtorEq, Int.reduceToNat, zE, Int.natCast_add]) (by simp +contextual -dsimp only [↓SD, SU, SB, Nat.reduceAdd, Nat.reduceBEq, Nat.reduceEqDiff, Nat.reduceLeDiff, Nat.reduceLT, Nat.reduceSub, ↓reduceIte, zA, zI, zN, reduceCtorEq, Int.reduceToNat, zE])⟩
  obtain rfl : k = roots.length := by omega
  rw [List.take_length] at hr
  simp +contextual -dsimp (maxSteps := 2000000) only [↓SD, SU, SB, Nat.reduceAdd, Nat.reduceBEq, Nat.reduceEqDiff, Nat.reduceLeDiff, Nat.reduceLT, Nat.reduceSub, ↓reduceIte, zA, zI, zN, reduceCtorEq, Int.reduceToNat, zE, Int.reduceEq, Int.reduceLT, Int.reduceLE, Int.reduceNeg, Int.reduceAdd, Int.reduceSub, Nat.lt_irrefl, map_len]
  refine aLoop_of (X := MA) (fun x => ⟨[(0, .sl (h.map av)), (5, .row 15 u h.length), (8, .bool x.a)], [(15, ⟨u, false, 4, 1, x.m.map av⟩)]⟩) (fun x => Mok h R x.m ∧ (∀ v ∈ roots, ∀ i, cellOf v = some i → mkd x.m i) ∧ (x.a = false → ∀ i, mkd x.m i → ∀ j, kid h i j → mkd x.m j)) (fun x => 2 * cf x.m + (if x.a then 1 else 0)) ⟨true, m⟩ ⟨hm, hr, fun e => by cases e⟩ (by simp +contextual -dsimp only [↓SD, SU, SB, Nat.reduceAdd, Nat.reduceBEq, Nat.reduceEqDiff, Nat.reduceLeDiff, Nat.reduceLT, Nat.reduceSub, ↓reduceIte, zA, zI, zN, reduceCtorEq, Int.reduceToNat, zE]) (by simp +contextual -dsimp only [↓SD, SU, SB, Nat.reduceAdd, Nat.reduceBEq, Nat.reduceEqDiff, Nat.reduceLeDiff, Nat.reduceLT, Nat.reduceSub, ↓reduceIte, zA, zI, zN, reduceCtorEq, Int.reduceToNat, zE]) ?_
  clear hm hr hml m
  rintro ⟨a, m0⟩ ⟨hm0, hr0, hc0⟩
  dsimp only at hm0 hr0 hc0
  cases a with
  | false =>
    have hfull := marks_full hm0 hE hr0 (hc0 rfl)
    have hlen : m0.length = h.length := hm0.1
    have ht : List.take h.length (m0.map (av : Bool → AV)) = m0.map av := List.take_of_length_le (by simp [hlen])
    simp +contextual -dsimp (maxSteps := 2000000) only [↓SD, SU, SB, Nat.reduceAdd, Nat.reduceBEq, Nat.reduceEqDiff, Nat.reduceLeDiff, Nat.reduceLT, Nat.reduceSub, ↓reduceIte, zA, zI, zN, reduceCtorEq, Int.reduceToNat, zE, Int.reduceEq, Int.reduceLT, Int.reduceLE, Int.reduceNeg, Int.reduceAdd, Int.reduceSub, map_len, hlen, map_nop, ht, Nat.le_refl]
    rw [hfull]
  | true =>
    simp +contextual -dsimp (maxSteps := 2000000) only [↓SD, SU, SB, Nat.reduceAdd, Nat.reduceBEq, Nat.reduceEqDiff, Nat.reduceLeDiff, Nat.reduceLT, Nat.reduceSub, ↓reduceIte, zA, zI, zN, reduceCtorEq, Int.reduceToNat, zE, Int.reduceEq, Int.reduceLT, Int.reduceLE, Int.reduceNeg, Int.reduceAdd, Int.reduceSub, map_len]
    refine aLoop_of (X := MP) (fun x => ⟨[(0, .sl (h.map av)), (5, .row 15 u h.length), (8, .bool x.a), (31, .sl (h.map av)), (32, .int .i64 h.length), (33, .int .i64 x.k)], [(15, ⟨u, false, 4, 1, x.m.map av⟩)]⟩) (fun x => x.k ≤ h.length ∧ Pass h R m0 x.a x.m ∧ ∀ i, i < x.k → mkd m0 i → ∀ j, kid h i j → mkd x.m j) (fun x => h.length - x.k) ⟨0, false, m0⟩ ⟨Nat.zero_le _, ⟨hm0, fun _ h => h, fun e => (by cases e), fun _ => rfl⟩, fun i hi => by dsimp only at hi; omega⟩ (by simp +contextual -dsimp only [↓SD, SU, SB, Nat.reduceAdd, Nat.reduceBEq, Nat.reduceEqDiff, Nat.reduceLeDiff, Nat.reduceLT, Nat.reduceSub, ↓reduceIte, zA, zI, zN, reduceCtorEq, Int.reduceToNat, zE]) (by simp +contextual -dsimp only [↓SD, SU, SB, Nat.reduceAdd, Nat.reduceBEq, Nat.reduceEqDiff, Nat.reduceLeDiff, Nat.reduceLT, Nat.reduceSub, ↓reduceIte, zA, zI, zN, reduceCtorEq, Int.reduceToNat, zE]) ?_
    rintro ⟨k, a1, m1⟩ ⟨hk, p1, hd1⟩
    dsimp only at hk p1 hd1
    have hml1 : m1.length = h.length := p1.ok.1
    by_cases hlt : k < h.length
    · have e := getD_map av h k .top hlt
      have hkm : k < m1.length := by rw [hml1]; exact hlt
      have hcg : h.getD k noCell = h[k] := by rw [List.getD_eq_getElem?_getD, List.getElem?_eq_getElem hlt]; rfl
      have hcell := hc _ (List.getElem_mem hlt)
      have hva := cellB_vala hcell
      have hna := valB_n hva
      have hoa : okV h.length h[k].a := fun i hi => cellOf_lt hva hi
      obtain ⟨hob, hnb⟩ := cellB_valb hcell
      have hkids : ∀ j, kid h k j ↔ (cellOf h[k].a = some j ∨ cellOf h[k].b = some j) := fun j => by unfold kid; rw [hcg]
      have hclosed := hE.closed k
      generalize h[k] = c at *
      by_cases hmk : mkd m1 k
      · have hkR := p1.ok.2 k hmk
        have hka : ∀ j, cellOf c.a = some j → j ∈ R := fun j hj => hclosed hkR j ((hkids j).2 (.inl hj))
        have hkb : ∀ j, cellOf c.b = some j → j ∈ R := fun j hj => hclosed hkR j ((hkids j).2 (.inr hj))
        simp +contextual -dsimp (maxSteps := 2000000) only [↓SD, SU, SB, Nat.reduceAdd, Nat.reduceBEq, Nat.reduceEqDiff, Nat.reduceLeDiff, Nat.reduceLT, Nat.reduceSub, ↓reduceIte, zA, zI, zN, reduceCtorEq, Int.reduceToNat, zE, Int.reduceEq, Int.reduceLT, Int.reduceLE, Int.reduceNeg, Int.reduceAdd, Int.reduceSub, map_len, hlt, e, av_Cell, hml1, mk_get hkm, hmk]
        intro v10
        refine aLoop_of (X := MP) (fun x => ⟨[(0, .sl (h.map av)), (5, .row 15 u h.length), (8, .bool x.a), (31, .sl (h.map av)), (32, .int .i64 h.length), (33, .int .i64 k), (47, .sl [.agg [.int .i64 c.a.kind, .int .i64 c.a.n, .str c.a.s], .agg [.int .i64 c.b.kind, .int .i64 c.b.n, .str c.b.s]]), (48, .int .i64 2), (49, .int .i64 x.k)], [(15, ⟨u, false, 4, 1, x.m.map av⟩)]⟩) (fun x => x.k ≤ 2 ∧ Pass h R m0 x.a x.m ∧ (∀ i, i < k → mkd m0 i → ∀ j, kid h i j → mkd x.m j) ∧ (1 ≤ x.k → ∀ j, cellOf c.a = some j → mkd x.m j) ∧ (2 ≤ x.k → ∀ j, cellOf c.b = some j → mkd x.m j)) (fun x => 2 - x.k) ⟨0, a1, m1⟩ ⟨Nat.zero_le _, p1, hd1, fun hq => absurd hq (by simp), fun hq => absurd hq (by simp)⟩ (by simp +contextual -dsimp only [↓SD, SU, SB, Nat.reduceAdd, Nat.reduceBEq, Nat.reduceEqDiff, Nat.reduceLeDiff, Nat.reduceLT, Nat.reduceSub, ↓reduceIte, zA, zI, zN, reduceCtorEq, Int.reduceToNat, zE, Int.reduceEq, Int.reduceLT, Int.reduceLE, Int.reduceNeg, Int.reduceAdd, Int.reduceSub, Int.natCast_zero]) (by simp +contextual -dsimp only [↓SD, SU, SB, Nat.reduceAdd, Nat.reduceBEq, Nat.reduceEqDiff, Nat.reduceLeDiff, Nat.reduceLT, Nat.reduceSub, ↓reduceIte, zA, zI, zN, reduceCtorEq, Int.reduceToNat, zE]) ?_
        rintro ⟨q, a2, m2⟩ ⟨hq, p2, hd2, ha2, hb2⟩
        dsimp only at hq p2 hd2 ha2 hb2
        have hml2 : m2.length = h.length := p2.ok.1
        obtain rfl | rfl | rfl : q = 0 ∨ q = 1 ∨ q = 2 := by omega
        · by_cases k6 : c.a.kind = 6
          · obtain ⟨j, hj⟩ : ∃ j : Nat, c.a.n = j := ⟨c.a.n.toNat, by have := hna k6; omega⟩
            have hcj : cellOf c.a = some j := by unfold cellOf; rw [if_pos k6, hj, Int.toNat_natCast]
            have hjl := hoa j hcj
            have hjR := hka j hcj
            have hjm : j < m2.length := by rw [hml2]; exact hjl
            by_cases hmj : mkd m2 j
            · simp +contextual -dsimp (maxSteps := 2000000) only [↓SD, SU, SB, Nat.reduceAdd, Nat.reduceBEq, Nat.reduceEqDiff, Nat.reduceLeDiff, Nat.reduceLT, Nat.reduceSub, ↓reduceIte, zA, zI, zN, reduceCtorEq, Int.reduceToNat, zE, Int.reduceEq, Int.reduceLT, Int.reduceLE, Int.reduceNeg, Int.reduceAdd, Int.reduceSub, k6, hj, hjl, hml2, map_len, mk_get hjm, hmj]
              intro v12
              exact Goes.le ⟨⟨1, a2, m2⟩, ⟨⟨by simp, p2, hd2, fun _ j' hj' => by rw [hcj] at hj'; cases hj'; exact hmj, fun hq => absurd hq (by simp)⟩, by dsimp only; omega⟩, rfl⟩ (by simp +contextual -dsimp only [↓SD, SU, SB, Nat.reduceAdd, Nat.reduceBEq, Nat.reduceEqDiff, Nat.reduceLeDiff, Nat.reduceLT, Nat.reduceSub, ↓reduceIte, zA, zI, zN, reduceCtorEq, Int.reduceToNat, zE, Int.reduceEq, Int.reduceLT, Int.reduceLE, Int.reduceNeg, Int.reduceAdd, Int.reduceSub]) (by simp +contextual -dsimp only [↓SD, SU, SB, Nat.reduceAdd, Nat.reduceBEq, Nat.reduceEqDiff, Nat.reduceLeDiff, Nat.reduceLT, Nat.reduceSub, ↓reduceIte, zA, zI, zN, reduceCtorEq, Int.reduceToNat, zE])
            · simp +contextual -dsimp (maxSteps := 2000000) only [↓SD, SU, SB, Nat.reduceAdd, Nat.reduceBEq, Nat.reduceEqDiff, Nat.reduceLeDiff, Nat.reduceLT, Nat.reduceSub, ↓reduceIte, zA, zI, zN, reduceCtorEq, Int.reduceToNat, zE, Int.reduceEq, Int.reduceLT, Int.reduceLE, Int.reduceNeg, Int.reduceAdd, Int.reduceSub, k6, hj, hjl, hml2, map_len, mk_get hjm, hmj, set_av]
              intro v12
              exact Goes.le ⟨⟨1, true, m2.set j true⟩, ⟨⟨by simp, p2.step hjR hjl hmj, fun i hi hm0 j' hj' => (mk_set hjm).2 (.inl (hd2 i hi hm0 j' hj')), fun _ j' hj' => by rw [hcj] at hj'; cases hj'; exact (mk_set hjm).2 (.inr rfl), fun hq => absurd hq (by simp)⟩, by dsimp only; omega⟩, rfl⟩ (by simp +contextual -dsimp only [↓SD, SU, SB, Nat.reduceAdd, Nat.reduceBEq, Nat.reduceEqDiff, Nat.reduceLeDiff, Nat.reduceLT, Nat.reduceSub, ↓reduceIte, zA, zI, zN, reduceCtorEq, Int.reduceToNat, zE, Int.reduceEq, Int.reduceLT, Int.reduceLE, Int.reduceNeg, Int.reduceAdd, Int.reduceSub]) (by simp +contextual -dsimp only [↓SD, SU, SB, Nat.reduceAdd, Nat.reduceBEq, Nat.reduceEqDiff, Nat.reduceLeDiff, Nat.reduceLT, Nat.reduceSub, ↓reduceIte, zA, zI, zN, reduceCtorEq, Int.reduceToNat, zE])
          · have hcj : cellOf c.a = none := by unfold cellOf; rw [if_neg k6]
            simp +contextual -dsimp (maxSteps := 2000000) only [↓SD, SU, SB, Nat.reduceAdd, Nat.reduceBEq, Nat.reduceEqDiff, Nat.reduceLeDiff, Nat.reduceLT, Nat.reduceSub, ↓reduceIte, zA, zI, zN, reduceCtorEq, Int.reduceToNat, zE, Int.reduceEq, Int.reduceLT, Int.reduceLE, Int.reduceNeg, Int.reduceAdd, Int.reduceSub, k6]
            intro v12
            exact Goes.le ⟨⟨1, a2, m2⟩, ⟨⟨by simp, p2, hd2, fun _ j' hj' => (by rw [hcj] at hj'; cases hj'), fun hq => absurd hq (by simp)⟩, by dsimp only; omega⟩, rfl⟩ (by simp +contextual -dsimp only [↓SD, SU, SB, Nat.reduceAdd, Nat.reduceBEq, Nat.reduceEqDiff, Nat.reduceLeDiff, Nat.reduceLT, Nat.reduceSub, ↓reduceIte, zA, zI, zN, reduceCtorEq, Int.reduceToNat, zE, Int.reduceEq, Int.reduceLT, Int.reduceLE, Int.reduceNeg, Int.reduceAdd, Int.reduceSub]) (by simp +contextual -dsimp only [↓SD, SU, SB, Nat.reduceAdd, Nat.reduceBEq, Nat.reduceEqDiff, Nat.reduceLeDiff, Nat.reduceLT, Nat.reduceSub, ↓reduceIte, zA, zI, zN, reduceCtorEq, Int.reduceToNat, zE])
        · by_cases k6 : c.b.kind = 6
          · obtain ⟨j, hj⟩ : ∃ j : Nat, c.b.n = j := ⟨c.b.n.toNat, by have := hnb k6; omega⟩
            have hcj : cellOf c.b = some j := by unfold cellOf; rw [if_pos k6, hj, Int.toNat_natCast]
            have hjl := hob j hcj
            have hjR := hkb j hcj
            have hjm : j < m2.length := by rw [hml2]; exact hjl
            by_cases hmj : mkd m2 j
            · simp +contextual -dsimp (maxSteps := 2000000) only [↓SD, SU, SB, Nat.reduceAdd, Nat.reduceBEq, Nat.reduceEqDiff, Nat.reduceLeDiff, Nat.reduceLT, Nat.reduceSub, ↓reduceIte, zA, zI, zN, reduceCtorEq, Int.reduceToNat, zE, Int.reduceEq, Int.reduceLT, Int.reduceLE, Int.reduceNeg, Int.reduceAdd, Int.reduceSub, k6, hj, hjl, hml2, map_len, mk_get hjm, hmj]
              intro v12
              exact Goes.le ⟨⟨2, a2, m2⟩, ⟨⟨by simp, p2, hd2, fun _ => ha2 (by decide), fun _ j' hj' => by rw [hcj] at hj'; cases hj'; exact hmj⟩, by dsimp only; omega⟩, rfl⟩ (by simp +contextual -dsimp only [↓SD, SU, SB, Nat.reduceAdd, Nat.reduceBEq, Nat.reduceEqDiff, Nat.reduceLeDiff, Nat.reduceLT, Nat.reduceSub, ↓reduceIte, zA, zI, zN, reduceCtorEq, Int.reduceToNat, zE, Int.reduceEq, Int.reduceLT, Int.reduceLE, Int.reduceNeg, Int.reduceAdd, Int.reduceSub]) (by simp +contextual -dsimp only [↓SD, SU, SB, Nat.reduceAdd, Nat.reduceBEq, Nat.reduceEqDiff, Nat.reduceLeDiff, Nat.reduceLT, Nat.reduceSub, ↓reduceIte, zA, zI, zN, reduceCtorEq, Int.reduceToNat, zE])
            · simp +contextual -dsimp (maxSteps := 2000000) only [↓SD, SU, SB, Nat.reduceAdd, Nat.reduceBEq, Nat.reduceEqDiff, Nat.reduceLeDiff, Nat.reduceLT, Nat.reduceSub, ↓reduceIte, zA, zI, zN, reduceCtorEq, Int.reduceToNat, zE, Int.reduceEq, Int.reduceLT, Int.reduceLE, Int.reduceNeg, Int.reduceAdd, Int.reduceSub, k6, hj, hjl, hml2, map_len, mk_get hjm, hmj, set_av]
              intro v12
              exact Goes.le ⟨⟨2, true, m2.set j true⟩, ⟨⟨by simp, p2.step hjR hjl hmj, fun i hi hm0 j' hj' => (mk_set hjm).2 (.inl (hd2 i hi hm0 j' hj')), fun _ j' hj' => (mk_set hjm).2 (.inl (ha2 (by decide) j' hj')), fun _ j' hj' => by rw [hcj] at hj'; cases hj'; exact (mk_set hjm).2 (.inr rfl)⟩, by dsimp only; omega⟩, rfl⟩ (by simp +contextual -dsimp only [↓SD, SU, SB, Nat.reduceAdd, Nat.reduceBEq, Nat.reduceEqDiff, Nat.reduceLeDiff, Nat.reduceLT, Nat.reduceSub, ↓reduceIte, zA, zI, zN, reduceCtorEq, Int.reduceToNat, zE, Int.reduceEq, Int.reduceLT, Int.reduceLE, Int.reduceNeg, Int.reduceAdd, Int.reduceSub]) (by simp +contextual -dsimp only [↓SD, SU, SB, Nat.reduceAdd, Nat.reduceBEq, Nat.reduceEqDiff, Nat.reduceLeDiff, Nat.reduceLT, Nat.reduceSub, ↓reduceIte, zA, zI, zN, reduceCtorEq, Int.reduceToNat, zE])
          · have hcj : cellOf c.b = none := by unfold cellOf; rw [if_neg k6]
            simp +contextual -dsimp (maxSteps := 2000000) only [↓SD, SU, SB, Nat.reduceAdd, Nat.reduceBEq, Nat.reduceEqDiff, Nat.reduceLeDiff, Nat.reduceLT, Nat.reduceSub, ↓reduceIte, zA, zI, zN, reduceCtorEq, Int.reduceToNat, zE, Int.reduceEq, Int.reduceLT, Int.reduceLE, Int.reduceNeg, Int.reduceAdd, Int.reduceSub, k6]
            intro v12
            exact Goes.le ⟨⟨2, a2, m2⟩, ⟨⟨by simp, p2, hd2, fun _ => ha2 (by decide), fun _ j' hj' => by rw [hcj] at hj'; cases hj'⟩, by dsimp only; omega⟩, rfl⟩ (by simp +contextual -dsimp only [↓SD, SU, SB, Nat.reduceAdd, Nat.reduceBEq, Nat.reduceEqDiff, Nat.reduceLeDiff, Nat.reduceLT, Nat.reduceSub, ↓reduceIte, zA, zI, zN, reduceCtorEq, Int.reduceToNat, zE, Int.reduceEq, Int.reduceLT, Int.reduceLE, Int.reduceNeg, Int.reduceAdd, Int.reduceSub]) (by simp +contextual -dsimp only [↓SD, SU, SB, Nat.reduceAdd, Nat.reduceBEq, Nat.reduceEqDiff, Nat.reduceLeDiff, Nat.reduceLT, Nat.reduceSub, ↓reduceIte, zA, zI, zN, reduceCtorEq, Int.reduceToNat, zE])
        · simp +contextual -dsimp (maxSteps := 2000000) only [↓SD, SU, SB, Nat.reduceAdd, Nat.reduceBEq, Nat.reduceEqDiff, Nat.reduceLeDiff, Nat.reduceLT, Nat.reduceSub, ↓reduceIte, zA, zI, zN, reduceCtorEq, Int.reduceToNat, zE, Int.reduceEq, Int.reduceLT, Int.reduceLE, Int.reduceNeg, Int.reduceAdd, Int.reduceSub]
          refine ⟨by omega, Goes.le ⟨⟨k + 1, a2, m2⟩, ⟨⟨hlt, p2, fun i hi hmi j hj => ?_⟩, by dsimp only; omega⟩, rfl⟩ (by simp +contextual -dsimp only [↓SD, SU, SB, Nat.reduceAdd, Nat.reduceBEq, Nat.reduceEqDiff, Nat.reduceLeDiff, Nat.reduceLT, Nat.reduceSub, ↓reduceIte, zA, zI, zN, reduceCtorEq, Int.reduceToNat, zE, Int.natCast_add]) (by simp +contextual -dsimp only [↓SD, SU, SB, Nat.reduceAdd, Nat.reduceBEq, Nat.reduceEqDiff, Nat.reduceLeDiff, Nat.reduceLT, Nat.reduceSub, ↓reduceIte, zA, zI, zN, reduceCtorEq, Int.reduceToNat, zE])⟩
          by_cases hik : i = k
          · subst hik
            rcases (hkids j).1 hj with hj | hj
            · exact ha2 (by decide) j hj
            · exact hb2 (by decide) j hj
          · exact hd2 i (by dsimp only at hi; omega) hmi j hj
      · simp +contextual -dsimp (maxSteps := 2000000) only [↓SD, SU, SB, Nat.reduceAdd, Nat.reduceBEq, Nat.reduceEqDiff, Nat.reduceLeDiff, Nat.reduceLT, Nat.reduceSub, ↓reduceIte, zA, zI, zN, reduceCtorEq, Int.reduceToNat, zE, Int.reduceEq, Int.reduceLT, Int.reduceLE, Int.reduceNeg, Int.reduceAdd, Int.reduceSub, map_len, hlt, e, av_Cell, hml1, mk_get hkm, hmk]
        intro v10
        refine ⟨by omega, Goes.le ⟨⟨k + 1, a1, m1⟩, ⟨⟨hlt, p1, fun i hi hmi j hj => ?_⟩, by dsimp only; omega⟩, rfl⟩ (by simp +contextual -dsimp only [↓SD, SU, SB, Nat.reduceAdd, Nat.reduceBEq, Nat.reduceEqDiff, Nat.reduceLeDiff, Nat.reduceLT, Nat.reduceSub, ↓reduceIte, zA, zI, zN, reduceCtorEq, Int.reduceToNat, zE, Int.natCast_add]) (by simp +contextual -dsimp only [↓SD, SU, SB, Nat.reduceAdd, Nat.reduceBEq, Nat.reduceEqDiff, Nat.reduceLeDiff, Nat.reduceLT, Nat.reduceSub, ↓reduceIte, zA, zI, zN, reduceCtorEq, Int.reduceToNat, zE])⟩
        by_cases hik : i = k
        · subst hik; exact absurd (p1.up _ hmi) hmk
        · exact hd1 i (by dsimp only at hi; omega) hmi j hj
    · obtain rfl : k = h.length := by omega
      simp +contextual -dsimp (maxSteps := 2000000) only [↓SD, SU, SB, Nat.reduceAdd, Nat.reduceBEq, Nat.reduceEqDiff, Nat.reduceLeDiff, Nat.reduceLT, Nat.reduceSub, ↓reduceIte, zA, zI, zN, reduceCtorEq, Int.reduceToNat, zE, Int.reduceEq, Int.reduceLT, Int.reduceLE, Int.reduceNeg, Int.reduceAdd, Int.reduceSub, Nat.lt_irrefl, map_len]
      refine Goes.le ⟨⟨a1, m1⟩, ⟨⟨p1.ok, fun v hv' i hi => p1.up i (hr0 v hv' i hi), fun ha i hi j hj => ?_⟩, ?_⟩, rfl⟩ (by simp +contextual -dsimp only [↓SD, SU, SB, Nat.reduceAdd, Nat.reduceBEq, Nat.reduceEqDiff, Nat.reduceLeDiff, Nat.reduceLT, Nat.reduceSub, ↓reduceIte, zA, zI, zN, reduceCtorEq, Int.reduceToNat, zE]) (by simp +contextual -dsimp only [↓SD, SU, SB, Nat.reduceAdd, Nat.reduceBEq, Nat.reduceEqDiff, Nat.reduceLeDiff, Nat.reduceLT, Nat.reduceSub, ↓reduceIte, zA, zI, zN, reduceCtorEq, Int.reduceToNat, zE])
      · have hmm := p1.no ha
        dsimp only at hi ⊢
        have hi0 : mkd m0 i := by rw [← hmm]; exact hi
        exact hd1 i (hm0.1 ▸ mkd_lt hi0) hi0 j hj
      · dsimp only
        cases a1 with
        | true => have := p1.yes rfl; simp; omega
        | false => have := p1.no rfl; rw [this]; simp
end Go.Proofs.Ytpignflebknagaa
