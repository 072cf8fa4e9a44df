/-
 A PATTERN AND A VALUE, DRAWN: DrawHit. Conditions: none.
-/
import Derived.Test.YteeiaaogmjbcjaaGreatHHitD
import Derived.Test.YteeiaaogmjbcjaaGreatHJ17
import Derived.Test.YteeiaaogmjbcjaaGreatHJ13
import Derived.Test.YteeiaaogmjbcjaaGreatHJ07
set_option linter.unusedVariables false
set_option linter.unusedSimpArgs false
set_option maxRecDepth 100000
namespace Go.Proofs.YteeiaaogmjbcjaaGreat
open Go.RowKit Go.Proofs.YteeiaaogmjbcjaaGreat.Av Go.Proofs.YteeiaaogmjbcjaaGreat.Ml
open Go.Proofs.YteeiaaogmjbcjaaGreat.Av.AVal (av)
open OVal (ov oh on)

def PatSm (q : Pat) : Prop := q.nodes.length ≤ 1210 ∧ ∀ x ∈ q.nodes, x.s.size ≤ 402 ∧ x.kids.length ≤ 3
def HitDP (r : AV) (hp' : Hp) : Prop := ∃ (q : Pat) (t : Px), r = .tup [av q, av (⟨dflat t⟩ : Data)] ∧ DT 4 t ∧ PatSm q ∧ hp' = []
theorem hit_ret {fr : List (Nat × AV)} {hp : Hp} {v2 v3 : Nat} {X : AV} {v13 : Nat} (q : Pat) (t : Px) (ks : List Nat) (h0 : fget fr 2 = .ptr 2 v2 0 0) (h1 : fget fr 3 = .ptr 3 v3 0 0) (h2 : hget hp 2 = some ⟨v2, false, 25, 1, [.agg [X]]⟩) (h3 : hget hp 3 = some ⟨v3, false, 28, 1, [.agg [.row 13 v13 (pxN t)]]⟩) (h13 : hget hp 13 = some ⟨v13, false, 116, 4, (flatX 0 t).map av⟩) (hks : ∀ k ∈ ks, 10000 ≤ k) (hX : AV.pur1 (frzL ks (hfrz hp 13)) X = .sl (q.nodes.map av)) (hd : DT 4 t) (hq : PatSm q) : Goes ⟨fr, hp⟩ (PostH [IRes.c true 1 2, IRes.c true 1 3] HitDP) := by
 have ho : ∀ (H : Hp) k, k < 10000 → hget (frzL ks H) k = hget H k := fun H k hk => hget_frzL_out fun h => by have := hks _ h; omega
 refine Goes.frz 13 (Goes.frzs ks (Goes.post [] ?_))
 have a2 : hget (frzL ks (hfrz hp 13)) 2 = some ⟨v2, false, 25, 1, [.agg [X]]⟩ := (ho _ 2 (by decide)).trans ((hget_hfrz_ne (by decide)).trans h2)
 have a3 : hget (frzL ks (hfrz hp 13)) 3 = some ⟨v3, false, 28, 1, [.agg [.row 13 v13 (pxN t)]]⟩ := (ho _ 3 (by decide)).trans ((hget_hfrz_ne (by decide)).trans h3)
 have a13 : hget (frzL ks (hfrz hp 13)) 13 = some ⟨v13, true, 116, 4, (flatX 0 t).map av⟩ := by
  rw [ho _ 13 (by decide)]
  unfold hfrz
  rw [h13]
  simp only [hget, if_true]
  rw [map_nop]
 have hl : ((flatX 0 t).map (av : PNode → AV)).length = pxN t := by rw [List.length_map, flatX_len]
 have ht : List.take (pxN t) ((flatX 0 t).map (av : PNode → AV)) = (flatX 0 t).map av := List.take_of_length_le (by rw [hl]; exact Nat.le_refl _)
 generalize frzL ks (hfrz hp 13) = H at *
 simp +contextual -dsimp (maxSteps := 2000000) only [↓SD, SU, SB, simprocAttr, h0, h1, a2, a3, a13, hX, hl, ht, Nat.le_refl]
 exact ⟨q, t, by rw [dflat_av]; rfl, hd, hq, rfl⟩
theorem hfrz_far {H T : Hp} {k : Nat} (hT : FarT T) (hk : k < 10000) (h : hpLe H T) : hpLe (hfrz H k) T := hpLe_iff.2 fun p hp => by
 rw [hget_hfrz_ne (by have := hT p hp; omega)]
 exact hpLe_iff.1 h p hp
theorem pa_set (s t : Px) : (paA s).setc 0 (paA t).cells = paA t := by cases t with | mk n ks => rw [paA_mk]; show (paA s).setc 0 [_, _, _, _] = _; rw [pa_setc]
theorem sub_small {e : Px} (hw : PxW 100 e) (hn : pxN e ≤ 138) : PatSm ⟨flatX 0 e⟩ := ⟨by rw [flatX_len]; omega, fun x hx => by have := qnodes_ok (q := ⟨flatX 0 e⟩) rfl hw x hx; omega⟩
set_option maxHeartbeats 4000000 in
theorem drawHit_ok (c : List UInt8) (hc : c.length ≤ 1048576) : CallsH Tryz.prog 6 [.sl (c.map av)] [] HitDP := by
 refine ir_spec_DrawHit.H rfl ?_
 simp +contextual -dsimp (maxSteps := 2000000) only [↓SD, SU, SB, simprocAttr, curB_frz, false_and, and_false, ir_spec_DrawHit]
 intro v2 v3
 refine aCallH_of [] (l01New_ok c hc) (by simp +contextual -dsimp only [↓SD, SU, SB, simprocAttr]) ?_
 rintro r hp' ⟨v, i, h, rfl, hk, rfl⟩
 simp +contextual -dsimp (maxSteps := 2000000) only [↓SD, SU, SB, simprocAttr, curB_frz, false_and, and_false]
 have C4 := fun i h hk => l07Data_ok c v 4 (by omega) i h hk
 rw [show ((4 : Int) - ((4 : Nat) : Int)) = 0 by omega] at C4
 refine aCallH_of [2000] (C4 i h hk) (by simp +contextual -dsimp only [↓SD, SU, SB, simprocAttr]) ?_
 clear hk
 rintro r hp' ⟨t, i, h, rfl, ht, hk, rfl⟩
 simp +contextual -dsimp (maxSteps := 2000000) only [↓SD, SU, SB, simprocAttr, curB_frz, false_and, and_false, pa_pur, pa_purA, pa_len, pa_take, pa_agg, pa_ok]
 intro v5
 have hn := dt_n ht
 refine aCallH_of [2000] (l07Pattern_ok c v t (dt_w ht) 0 i h hk (by omega) (by omega)) (by simp +contextual -dsimp only [↓SD, SU, SB, simprocAttr, pa_purA]) ?_
 clear hk
 rintro r hp' ⟨e, m, i, h, rfl, he, hne, hm, hk, rfl⟩
 have hpm : ∀ hp, (AV.tup [psA e, .int .i64 m]).pur hp = .tup [psA e, .int .i64 m] := fun hp => by
  cases e with | mk a b => rw [psA_mk]; rfl
 simp +contextual -dsimp (maxSteps := 2000000) only [↓SD, SU, SB, simprocAttr, curB_frz, false_and, and_false, pa_pur, pa_purA, pa_len, pa_take, pa_agg, pa_ok, ps_pur, ps_purA, ps_len, ps_take, ps_ok]
 intro v6
 obtain ⟨K, hK⟩ : ∃ K, K = sub 1 0 := ⟨_, rfl⟩
 refine aCallH_gen [] (l03PLayN_ok K e (by omega)) (by simp +contextual -dsimp only [↓SD, SU, SB, simprocAttr, ps_purA]) ?_
 rintro r hp' ⟨vs, rfl, rfl⟩ H hH
 rw [hrest_no] at hH
 have hD : DisT 1 (oh K vs (flatX 0 e)) := by rw [hK]; exact dis_up (oh_dis 1 0 vs (flatX 0 e))
 have hkon : ∀ k ∈ on K (flatX 0 e), 10000 ≤ k := fun k h => by
  have h1 := (OVal.inn K _ k h).le
  have := sub_ge 1 0
  omega
 have hlend := OVal.lend K vs (flatX 0 e)
 rw [ov_list] at hlend
 have hq0 := sub_small he (by omega)
 obtain ⟨T, hT⟩ : ∃ T, T = oh K vs (flatX 0 e) := ⟨_, rfl⟩
 rw [← hT] at hD hlend hH
 have hTl : ∀ k, k < 10000 → ∀ hp, hget (T ++ hp) k = hget hp k := fun k hk hp => hg_app_r fun p hp' => by have := hD.far p hp'; omega
 have hfar := hD.far
 have hTself := hD.2.1
 have hTr : hrest [2000] T = T := hrest_far hfar
 have hUT := hD.2.2
 have hml : ((flatX 0 e).map (av : PNode → AV)).length = (flatX 0 e).length := List.length_map _
 subst hH
 simp +contextual -dsimp (maxSteps := 2000000) only [↓SD, SU, SB, simprocAttr, curB_frz, false_and, and_false, hTl]
 intro v8
 refine ghost_of (Goes.le (t := ⟨[(2, .ptr 2 v2 0 0), (3, .ptr 3 v3 0 0), (4, .ptr 2000 v 0 0), (5, .ptr 5 v5 0 0), (8, .ptr 8 v8 0 0)], (2000, curB c v i h) :: (8, ⟨v8, false, 25, 1, [.agg [.row K (vs K) (flatX 0 e).length]]⟩) :: (5, ⟨v5, false, 58, 4, [paA t]⟩) :: (3, ⟨v3, false, 28, 1, [.agg [.nils]]⟩) :: (2, ⟨v2, false, 25, 1, [.agg [.nils]]⟩) :: T⟩) ?_ (by simp +contextual -dsimp only [↓SD, SU, SB, simprocAttr]) (by simp +contextual -dsimp only [↓SD, SU, SB, simprocAttr, hTl]; (repeat (first | exact hpLe_l hTself | refine hpLe_lowT ?_ hfar (by decide)))))
 simp +contextual -dsimp (maxSteps := 2000000) only [↓SD, SU, SB, simprocAttr, curB_frz, false_and, and_false, hTr]
 refine aCallH_gen [2000] (l01Below_ok c v _ _ hk 4 (by omega)) (by simp +contextual -dsimp only [↓SD, SU, SB, simprocAttr]) ?_
 clear hk
 rintro r hp' ⟨k1, i, h, rfl, hk1, hk, rfl⟩ H hH
 subst hH
 clear hn hne hm
 by_cases hz1 : k1 = 0
 case' pos =>
  have ez := eq_true hz1
  simp +contextual -dsimp (maxSteps := 2000000) only [↓SD, SU, SB, simprocAttr, curB_frz, false_and, and_false, ez, hTr]
  refine aCallH_gen [2000] (C4 i h hk) (by simp +contextual -dsimp only [↓SD, SU, SB, simprocAttr]) ?_
  clear hk ht
  rintro r hp' ⟨t, i, h, rfl, ht, hk, rfl⟩ H hH
  subst hH
  simp +contextual -dsimp (maxSteps := 2000000) only [↓SD, SU, SB, simprocAttr, curB_frz, false_and, and_false, hTr, pa_pur, pa_purA, pa_len, pa_take, pa_agg, pa_ok]
 case' neg =>
  have ez := eq_false hz1
  simp +contextual -dsimp (maxSteps := 2000000) only [↓SD, SU, SB, simprocAttr, curB_frz, false_and, and_false, ez, hTr]
 all_goals
  refine aCallH_gen [2000] (l01Below_ok c v _ _ hk 12 (by omega)) (by simp +contextual -dsimp only [↓SD, SU, SB, simprocAttr]) ?_
  clear hk
  rintro r hp' ⟨k2, i, h, rfl, hk2, hk, rfl⟩ H hH
  subst hH
  have hn := dt_n ht
  have CL := l07Lay_ok t [] .nils [] (.inl ⟨rfl, rfl, rfl⟩) (by simp; omega)
  unfold LayDP at CL
  simp only [List.length_nil, Nat.zero_add, List.nil_append] at CL
  by_cases hz2 : k2 = 0
  ·have ez2 := eq_true hz2
   simp +contextual -dsimp (maxSteps := 2000000) only [↓SD, SU, SB, simprocAttr, curB_frz, false_and, and_false, ez2, hTr]
   refine aCallH_gen [2000] (l04Pats_ok c v i h hk) (by simp +contextual -dsimp only [↓SD, SU, SB, simprocAttr]) ?_
   clear hk
   rintro r hp' ⟨q, i, h, rfl, hk, rfl, hq1, hq2⟩ H hH
   subst hH
   simp +contextual -dsimp (maxSteps := 2000000) only [↓SD, SU, SB, simprocAttr, curB_frz, false_and, and_false, hTr, pa_pur, pa_purA, pa_len, pa_take, pa_agg, pa_ok, pa_set, av_Pat]
   repeat' (refine And.intro ?_ ?_)
   all_goals
    refine aCallH_gen [] CL (by simp +contextual -dsimp only [↓SD, SU, SB, simprocAttr, pa_purA]) ?_
    rintro r hp' ⟨v13, rfl, rfl⟩ H hH
    rw [hrest_no] at hH
    subst hH
    simp +contextual -dsimp (maxSteps := 2000000) only [↓SD, SU, SB, simprocAttr, curB_frz, false_and, and_false, hTr]
    repeat' (refine And.intro ?_ ?_)
    all_goals
     refine hit_ret (v2 := v2) (v3 := v3) (v13 := v13) (X := .sl (q.nodes.map av)) q t [] ?_ ?_ ?_ ?_ ?_ (fun k hk => by cases hk) ?_ ht ⟨hq1, hq2⟩
     all_goals rfl
  ·have ez2 := eq_false hz2
   simp +contextual -dsimp (maxSteps := 2000000) only [↓SD, SU, SB, simprocAttr, curB_frz, false_and, and_false, ez2, hTr, pa_pur, pa_purA, pa_len, pa_take, pa_agg, pa_ok, pa_set]
   repeat' (refine And.intro ?_ ?_)
   all_goals
    refine aCallH_gen [] CL (by simp +contextual -dsimp only [↓SD, SU, SB, simprocAttr, pa_purA]) ?_
    rintro r hp' ⟨v13, rfl, rfl⟩ H hH
    rw [hrest_no] at hH
    subst hH
    simp +contextual -dsimp (maxSteps := 2000000) only [↓SD, SU, SB, simprocAttr, curB_frz, false_and, and_false, hTr]
    repeat' (refine And.intro ?_ ?_)
    all_goals
     refine hit_ret (v2 := v2) (v3 := v3) (v13 := v13) (X := .row K (vs K) (flatX 0 e).length) ⟨flatX 0 e⟩ t (on K (flatX 0 e)) ?_ ?_ ?_ ?_ ?_ hkon ?_ ht hq0
     ·rfl
     ·rfl
     ·rfl
     ·rfl
     ·rfl
     ·exact hlend _ (hfrz_far hfar (by decide) (by repeat (first | exact hTself | refine hpLe_lowT ?_ hfar (by decide))))
end Go.Proofs.YteeiaaogmjbcjaaGreat
set_option linter.unusedVariables false
namespace Go.Proofs.YteeiaaogmjbcjaaGreat
open Go.RowKit Go.Proofs.YteeiaaogmjbcjaaGreat.Av Go.Proofs.YteeiaaogmjbcjaaGreat.Ml
open Go.Proofs.YteeiaaogmjbcjaaGreat.Av.AVal (av)

theorem kids_size {H : Nat → Hd} {K : Nat → List Int} {n f : Nat} (ih : ∀ a m, endF K n f a = some m → pxN (growX H K f a) + a = m) : ∀ (ks : List Int) (nx m : Nat), kidsF (endF K n f) ks nx = some m → pxNs (ks.map fun k => growX H K f k.toNat) + nx = m
 | [], nx, m, h => by rw [kidsF] at h; cases h; rw [List.map_nil, pxNs]; omega
 | k :: ks, nx, m, h => by
  rw [kidsF] at h
  split at h
  ·rename_i hk
   cases he : endF K n f nx with
   | none => rw [he] at h; cases h
   | some m1 =>
    rw [he] at h
    have h1 := ih nx m1 he
    have h2 := kids_size ih ks m1 m h
    have hk2 : k.toNat = nx := by omega
    rw [List.map_cons, pxNs, hk2]
    omega
  ·cases h
theorem grow_size {H : Nat → Hd} {K : Nat → List Int} {n : Nat} : ∀ (f a m : Nat), endF K n f a = some m → pxN (growX H K f a) + a = m
 | 0, a, m, h => by rw [endF] at h; cases h
 | f + 1, a, m, h => by
  rw [endF] at h
  split at h
  ·have := kids_size (H := H) (fun a m => grow_size f a m) (K a) (a + 1) m h
   rw [growX, pxN]
   omega
  ·cases h
theorem tree_size {H : Nat → Hd} {K : Nat → List Int} {n : Nat} (h : treeB K n = true) (hk : ∀ i, i < n → ∀ k ∈ K i, (i : Int) < k ∧ k < n) (hn : 0 < n) : pxN (growX H K n 0) = n := by
 have h1 := of_decide_eq_true h
 have h2 := grow_size (H := H) (n + 1) 0 n h1
 have h3 := growX_any (H := H) hk n (n + 1) 0 hn (by omega) (by omega)
 rw [h3]; omega
end Go.Proofs.YteeiaaogmjbcjaaGreat
set_option linter.unusedVariables false
namespace Go.Proofs.YteeiaaogmjbcjaaGreat
open Go.RowKit Go.Proofs.YteeiaaogmjbcjaaGreat.Av Go.Proofs.YteeiaaogmjbcjaaGreat.Ml
open Go.Proofs.YteeiaaogmjbcjaaGreat.Av.AVal (av)

theorem hitXs_part {ks : List Px} (ih : ∀ k ∈ ks, ∀ d l, hitX k d = some l → ∀ x ∈ l, pxN x ≤ pxN d) : ∀ ds l, hitXs ks ds = some l → ∀ x ∈ l, pxN x ≤ pxNs ds := by
 induction ks with
 | nil => intro ds l e x hx; rw [hitXs] at e; cases e; cases hx
 | cons k ks ihk =>
  intro ds l e x hx
  cases ds with
  | nil => rw [hitXs] at e; cases e
  | cons d ds =>
   rw [hitXs] at e
   cases h1 : hitX k d with
   | none => rw [h1] at e; cases e
   | some a =>
    rw [h1] at e
    simp only at e
    cases h2 : hitXs ks ds with
    | none => rw [h2] at e; cases e
    | some b =>
     rw [h2] at e
     cases e
     rw [pxNs]
     rcases List.mem_append.1 hx with h | h
     ·have := ih k (by simp) d a h1 x h; omega
     ·have := ihk (fun k hk => ih k (by simp [hk])) ds b h2 x h; omega
theorem hitX_part : ∀ q d l, hitX q d = some l → ∀ x ∈ l, pxN x ≤ pxN d := Px.ind fun n ks ih d l e x hx => by
 rw [hitX] at e
 split at e
 ·cases e; cases hx
 ·split at e
  ·cases e; simp at hx; subst hx; exact Nat.le_refl _
  ·split at e
   ·have := hitXs_part ih _ _ e x hx
    obtain ⟨m, es⟩ := d
    rw [pxN]
    simp only [Px.kids] at this
    omega
   ·cases e
end Go.Proofs.YteeiaaogmjbcjaaGreat
