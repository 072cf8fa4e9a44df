/-
 THE LAW FnHit, by its abstract text: it returns true. Conditions: the code's bulk is at most 1048576.
-/
import Derived.Test.YteeiaaogmjbcjaaGreatHJ43
import Derived.Test.YteeiaaogmjbcjaaGreatHJ45
import Derived.Test.YteeiaaogmjbcjaaGreatHHitS
set_option linter.unusedVariables false
set_option linter.unusedSimpArgs false
set_option maxRecDepth 100000
namespace Go.Proofs.YteeiaaogmjbcjaaGreat
open Go.RowKit Go.Proofs.YteeiaaogmjbcjaaGreat.Av Go.Proofs.YteeiaaogmjbcjaaGreat.Ml
open Go.Proofs.YteeiaaogmjbcjaaGreat.Av.AVal (av)
open OVal (ov oh on)

theorem bulk_each {α : Type} [Bulk α] {m : Nat} : ∀ {l : List α}, (∀ x ∈ l, Bulk.bulk x ≤ m) → Bulk.bulk l ≤ l.length * m + 1
 | [], _ => by show (([] : List α).map Bulk.bulk).sum + 1 ≤ _; simp
 | a :: l, h => by
  have h1 := bulk_each (l := l) fun x hx => h x (List.mem_cons_of_mem _ hx)
  have h2 := h a (by simp)
  have h3 : Bulk.bulk (a :: l) = Bulk.bulk a + Bulk.bulk l := by show ((a :: l).map Bulk.bulk).sum + 1 = Bulk.bulk a + ((l.map Bulk.bulk).sum + 1); simp; omega
  rw [h3, List.length_cons, Nat.add_mul]
  omega
theorem pnode_bulk (x : PNode) : Bulk.bulk x = x.s.size + x.kids.length + 5 := by
 have h : Bulk.bulk x = 1 + 1 + (x.s.size + 1) + Bulk.bulk x.kids + 1 := rfl
 rw [h, bulk_len_int]; omega
theorem patSm_bulk {l : List PNode} (h : PatSm ⟨l⟩) : Bulk.bulk l ≤ 1048576 := by
 have h1 := bulk_each (m := 410) (l := l) fun x hx => by rw [pnode_bulk]; have := h.2 x hx; omega
 have h2 := h.1
 have h3 := Nat.mul_le_mul_right 410 h2
 dsimp only at h3
 omega
theorem patSm_wide {l : List PNode} (h : PatSm ⟨l⟩) : PatSm ⟨l.map wideN⟩ := ⟨by have := h.1; simpa using this, fun x hx => by
 obtain ⟨y, hy, rfl⟩ := List.mem_map.1 hx
 unfold wideN
 split
 ·exact ⟨by decide, by simp⟩
 ·exact h.2 y hy⟩
theorem flat_rng {m : Nat} : ∀ t : Px, PxW m t → ∀ b, ∀ x ∈ flatX b t, -9000000000000000000 ≤ x.n ∧ x.n ≤ 9000000000000000000 := Px.ind fun n ks ih hw b x hx => by
 cases hw with
 | mk _ _ h1 h2 h3 h4 h5 =>
  rw [flatX] at hx
  rcases List.mem_cons.1 hx with rfl | hx
  ·exact h2
  ·have key2 : ∀ (l : List Px), (∀ k ∈ l, ∀ b, ∀ x ∈ flatX b k, -9000000000000000000 ≤ x.n ∧ x.n ≤ 9000000000000000000) → ∀ b, ∀ x ∈ flatXs b l, -9000000000000000000 ≤ x.n ∧ x.n ≤ 9000000000000000000 := by
    intro l
    induction l with
    | nil => intro _ b x hx; rw [flatXs] at hx; cases hx
    | cons k l ih2 =>
     intro hl b x hx
     rw [flatXs] at hx
     rcases List.mem_append.1 hx with h | h
     ·exact hl k (by simp) b x h
     ·exact ih2 (fun k hk => hl k (by simp [hk])) _ x h
   exact key2 ks (fun k hk b x hx => ih k hk (h5 k hk) b x hx) _ x hx
theorem dat_rng {t : Px} (h : DT 4 t) : ∀ n ∈ dflat t, -9223372036854775808 ≤ n.n ∧ n.n ≤ 9223372036854775807 := fun n hn => by
 unfold dflat at hn
 obtain ⟨p, hp, rfl⟩ := List.mem_map.1 hn
 have := flat_rng t (dt_w h) 0 p hp
 dsimp only
 omega
theorem dat_bulk {t : Px} (h : DT 4 t) : Bulk.bulk (dflat t) ≤ 1048576 := by
 have h1 := bulk_each (m := 200) (l := dflat t) fun n hn => by
  unfold dflat at hn
  obtain ⟨p, hp, rfl⟩ := List.mem_map.1 hn
  have h2 := qnodes_ok (q := ⟨flatX 0 t⟩) rfl (dt_w h) p hp
  have h3 : Bulk.bulk (⟨p.kind, p.n, p.s, p.kids⟩ : DNode) = 1 + 1 + (p.s.size + 1) + Bulk.bulk p.kids + 1 := rfl
  rw [h3, bulk_len_int]
  omega
 have h4 := dt_n h
 rw [dflat_len] at h1
 omega
theorem implHitF_ok (q : List PNode) (d : List DNode) (hq : Bulk.bulk q ≤ 1048576) (hd : Bulk.bulk d ≤ 1048576) : CallsF Tryz.prog 7 [.agg [.sl (q.map av)], .agg [.sl (d.map av)]] (.tup [match hitO q d with | none => .nils | some l => .sl (l.map av), .bool (hitB q d)]) := by
 refine callsF_frz (implHit_ok q d hq hd) (by simp; exact ⟨AvPure.agg (by simp; exact lav_clean q), AvPure.agg (by simp; exact lav_clean d)⟩) ?_ ?_
 ·refine AvPure.tup ?_
  simp only [List.mem_cons, List.not_mem_nil, or_false]
  rintro x (rfl | rfl)
  ·cases hitO q d with
   | none => exact AvPure.nils
   | some l => exact lav_clean l
  ·exact AvPure.bool _
 ·unfold hitB HitsPost
  intro r hp' h
  cases ho : hitO q d with
  | none =>
   rw [ho] at h
   obtain ⟨rfl, rfl⟩ := h
   rfl
  | some l =>
   rw [ho] at h
   obtain ⟨v, rfl, rfl⟩ := h
   have e := map_nop l
   have hl : (l.map (av : Data → AV)).length = l.length := List.length_map _
   have ht : List.take l.length (l.map (av : Data → AV)) = l.map av := List.take_of_length_le (by rw [hl]; exact Nat.le_refl _)
   simp [frzAll, frzL, hnames, hfrz, hget, AV.pur, AV.pur1, e, ht, Nat.le_refl]
theorem lawHitD_ok (c : List UInt8) (hc : Bulk.bulk c ≤ 1048576) : CallsF Tryz.prog 3 [.sl (c.map av)] (.bool true) := by
 have hcl := bulk_length c
 refine ir_laws_FnHit.F rfl (by simp; exact lav_clean c) (AvPure.bool _) ?_
 have h20 : ¬ (1048576 : Int) < c.length := by omega
 simp +contextual -dsimp (maxSteps := 2000000) only [↓SD, SU, SB, simprocAttr, ir_laws_FnHit, map_len, h20]
 refine aCallH_of [] (drawHit_ok c (by omega)) (by simp +contextual -dsimp only [↓SD, SU, SB, simprocAttr, map_nop]) ?_
 rintro r hp' ⟨q, t, rfl, ht, hq, rfl⟩
 have hqb := patSm_bulk hq
 have hwb := patSm_bulk (patSm_wide hq)
 have hdb := dat_bulk ht
 have CI := implHitF_ok q.nodes (dflat t) hqb hdb
 have CS := specHit_ok q.nodes (dflat t) hqb hdb (dat_rng ht)
 have CW := implHitF_ok (q.nodes.map wideN) (dflat t) hwb hdb
 have CP := specPatOk_ok q.nodes hqb
 obtain ⟨x, hx⟩ := hitW_ok q.nodes (dflat t)
 rw [hx] at CS
 obtain ⟨X5, hX5⟩ : ∃ X5 : AV, X5 = (match hitO q.nodes (dflat t) with | none => .nils | some l => .sl (l.map av)) := ⟨_, rfl⟩
 have hXl : aLen false X5 = fun F => F (.int .i64 (if hitB q.nodes (dflat t) = true then ((q.nodes.filter fun p => p.kind = 2).length : Int) else 0)) := by
  rw [hX5]
  unfold hitB
  cases ho : hitO q.nodes (dflat t) with
  | none => funext F; simp [aLen]
  | some l =>
   have := hit_names ho
   funext F
   simp [aLen, this]
 have hX1 : X5.one = true := by rw [hX5]; cases hitO q.nodes (dflat t) <;> rfl
 have hXp : ∀ hp, X5.pur1 hp = X5 := fun hp => by rw [hX5]; cases hitO q.nodes (dflat t) <;> rfl
 rw [← hX5] at CI
 obtain ⟨B, hB⟩ : ∃ B, B = hitB q.nodes (dflat t) := ⟨_, rfl⟩
 rw [← hB] at CI CS hXl
 have hnil : ∀ hp, ((q.nodes.map (av : PNode → AV)).map (AV.pur hp)) = q.nodes.map av := fun hp => map_nop _ hp
 simp +contextual -dsimp (maxSteps := 2000000) only [↓SD, SU, SB, simprocAttr, av_Pat, av_Data]
 intro v3 v4
 refine aCallK_of _ CI ?_
 simp +contextual -dsimp (maxSteps := 2000000) only [↓SD, SU, SB, simprocAttr, av_Pat, av_Data, hX1, hXp]
 refine aCallK_of _ CS ?_
 have hBB : (B == B) = true := by cases B <;> rfl
 simp +contextual -dsimp (maxSteps := 2000000) only [↓SD, SU, SB, simprocAttr, av_Pat, av_Data, hX1, hXp, map_len, hBB]
 intro v10
 refine aLoop_goes (X := Nat × Nat) (fun x : Nat × Nat => ⟨[(3, .ptr 3 v3 0 0), (4, .ptr 4 v4 0 0), (5, X5), (6, .bool B), (9, .int .i64 ((q.nodes.take x.1).filter fun p => p.kind = 2).length), (10, .ptr 10 v10 0 0), (40, .sl (q.nodes.map av)), (41, .int .i64 q.nodes.length), (42, .int .i64 x.1)], [(10, ⟨v10, false, 25, 1, [.agg [.row 56 x.2 x.1]]⟩), (56, ⟨x.2, false, 36, 4, ((q.nodes.take x.1).map wideN).map av⟩), (3, ⟨v3, false, 25, 1, [.agg [.sl (q.nodes.map av)]]⟩), (4, ⟨v4, false, 28, 1, [.agg [.sl ((dflat t).map av)]]⟩)]⟩) (fun x => x.1 ≤ q.nodes.length) (fun x => q.nodes.length - x.1) ?_ ?_
 ·refine Goes.adoptB 10 0 0 56 36 4 rfl rfl Nat.zero_lt_one rfl (by omega) fun z => ?_
  exact Goes.le ⟨(0, z), Nat.zero_le _, rfl⟩ (by simp +contextual -dsimp only [↓SD, SU, SB, simprocAttr, List.take_zero, List.filter_nil]) (by simp +contextual -dsimp only [↓SD, SU, SB, simprocAttr, List.take_zero, List.map_nil])
 rintro ⟨j, u⟩ hj
 dsimp only at hj ⊢
 by_cases hlt : j < q.nodes.length
 ·have e1 := getD_map av q.nodes j .top hlt
  have hb2 := bulk_length q.nodes
  have ht1 : q.nodes.take (j + 1) = q.nodes.take j ++ [q.nodes[j]] := List.take_succ_eq_append_getElem hlt
  have htl : (((q.nodes.take j).map wideN).map (av : PNode → AV)).length = j := by simp; omega
  have htt : List.take j (((q.nodes.take j).map wideN).map (av : PNode → AV)) = ((q.nodes.take j).map wideN).map av := List.take_of_length_le (by rw [htl]; exact Nat.le_refl _)
  have hfl : ((q.nodes.take j).filter fun p => p.kind = 2).length ≤ j := by
   have h1 := List.length_filter_le (fun p : PNode => decide (p.kind = 2)) (q.nodes.take j)
   rw [List.length_take] at h1
   omega
  have hst : ((q.nodes.take (j + 1)).map wideN).map (av : PNode → AV) = ((q.nodes.take j).map wideN).map av ++ [av (wideN q.nodes[j])] := by rw [ht1, List.map_append, List.map_append]; rfl
  have hcnt : ((q.nodes.take (j + 1)).filter fun p => p.kind = 2).length = ((q.nodes.take j).filter fun p => p.kind = 2).length + (if q.nodes[j].kind = 2 then 1 else 0) := by
   rw [ht1, List.filter_append, List.length_append]
   congr 1
   by_cases h : q.nodes[j].kind = 2 <;> simp [h]
  generalize ((q.nodes.take j).filter fun p => p.kind = 2).length = N at *
  generalize q.nodes[j] = a at *
  rw [av_PNode] at e1
  obtain ⟨W, hW⟩ : ∃ W, W = ((q.nodes.take j).map wideN).map (av : PNode → AV) := ⟨_, rfl⟩
  rw [← hW] at htl htt hst ⊢
  by_cases hk : a.kind = 2
  ·have f1 := eq_true hk
   rw [show wideN a = ⟨1, 0, bs [], []⟩ from if_pos hk, av_PNode] at hst
   rw [if_pos hk] at hcnt
   simp +contextual -dsimp (maxSteps := 2000000) only [↓SD, SU, SB, simprocAttr, hlt, e1, map_len, f1, htl, htt]
   intro v12
   refine ⟨by omega, ⟨by omega, by unfold maxLen; omega⟩, fun w => ⟨by omega, ?_⟩⟩
   have hg : (W ++ [AV.agg [.int .i64 1, .int .i64 0, .str (bs []), .nils]])[j]? = some (.agg [.int .i64 1, .int .i64 0, .str (bs []), .nils]) := by
    rw [List.getElem?_append_right (by omega), htl]; simp
   have hset : (W ++ [AV.agg [.int .i64 1, .int .i64 0, .str (bs []), .nils]]).set j (.agg [.int .i64 1, .int .i64 0, .str (bs []), .sl []]) = W ++ [.agg [.int .i64 1, .int .i64 0, .str (bs []), .sl []]] := by
    rw [List.set_append_right _ _ (by omega), htl, Nat.sub_self]; rfl
   refine Goes.slB 56 j 3 (b := ⟨w, false, 36, 4, W ++ [.agg [.int .i64 1, .int .i64 0, .str (bs []), .nils]]⟩) rfl hg (fun y hy => by
    simp only [List.mem_cons, List.not_mem_nil, or_false] at hy
    rcases hy with rfl | rfl | rfl | rfl <;> rfl) rfl ?_
   dsimp only
   refine Goes.le ⟨(j + 1, w), ⟨hlt, (by first | omega | (simp only; omega))⟩, rfl⟩ (by simp +contextual -dsimp only [↓SD, SU, SB, simprocAttr, Int.natCast_add, hcnt]) ?_
   dsimp only
   rw [hst]
   simp +contextual -dsimp (maxSteps := 2000000) only [↓SD, SU, SB, simprocAttr, List.map_nil, hset]
  ·have f1 := eq_false hk
   rw [show wideN a = a from if_neg hk, av_PNode] at hst
   rw [if_neg hk] at hcnt
   simp +contextual -dsimp (maxSteps := 2000000) only [↓SD, SU, SB, simprocAttr, hlt, e1, map_len, f1, htl, htt]
   intro v12
   refine ⟨⟨by omega, by unfold maxLen; omega⟩, fun w => ⟨by omega, ?_⟩⟩
   refine Goes.le ⟨(j + 1, w), ⟨hlt, (by first | omega | (simp only; omega))⟩, rfl⟩ (by simp +contextual -dsimp only [↓SD, SU, SB, simprocAttr, Int.natCast_add, hcnt]) ?_
   dsimp only
   rw [hst]
   simp +contextual -dsimp (maxSteps := 2000000) only [↓SD, SU, SB, simprocAttr]
 ·obtain rfl : j = q.nodes.length := by omega
  rw [List.take_length]
  simp +contextual -dsimp (maxSteps := 2000000) only [↓SD, SU, SB, simprocAttr, Nat.lt_irrefl, map_len]
  have hwm : ∀ hp, ((q.nodes.map wideN).map (av : PNode → AV)).map (AV.pur hp) = (q.nodes.map wideN).map av := fun hp => map_nop _ hp
  have hwl : ((q.nodes.map wideN).map (av : PNode → AV)).length = q.nodes.length := by simp
  have hwt : List.take q.nodes.length ((q.nodes.map wideN).map (av : PNode → AV)) = (q.nodes.map wideN).map av := List.take_of_length_le (by rw [hwl]; exact Nat.le_refl _)
  generalize hN : (q.nodes.filter fun p => p.kind = 2).length = N at *
  obtain ⟨WL, hWL⟩ : ∃ WL, WL = (q.nodes.map wideN).map (av : PNode → AV) := ⟨_, rfl⟩
  rw [← hWL] at hwm hwl hwt CW ⊢
  cases hp : patB q.nodes with
  | false =>
   rw [hp] at CP
   refine aCallK_of _ CP ?_
   have hBf : B = false := by rw [hB]; unfold hitB hitO; rw [hp]; simp
   simp +contextual -dsimp (maxSteps := 2000000) only [↓SD, SU, SB, simprocAttr, hX1, hXp, hBf]
  | true =>
   rw [hp] at CP
   have hBw := hitB_wide (dflat t) hp
   rw [hBw, ← hB] at CW
   refine aCallK_of _ CP ?_
   simp +contextual -dsimp (maxSteps := 2000000) only [↓SD, SU, SB, simprocAttr, hX1, hXp]
   refine ghost_of (Goes.frz 56 (Goes.purB 10 rfl (Goes.here ?_)))
   simp +contextual -dsimp (maxSteps := 2000000) only [↓SD, SU, SB, simprocAttr, hX1, hXp, hwm, hwl, hwt, Nat.le_refl]
   refine aCallK_of _ CW ?_
   simp +contextual -dsimp (maxSteps := 2000000) only [↓SD, SU, SB, simprocAttr, hX1, hXp, hXl, hBB]
end Go.Proofs.YteeiaaogmjbcjaaGreat
