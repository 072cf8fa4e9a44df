/-
 THE PROGRAM'S EVALUATOR: constructors. Conditions: none.
-/
import Derived.Test.YtjbcnilllfaipaaGreatYJ37
set_option linter.unusedVariables false
set_option linter.unusedSimpArgs false
set_option maxRecDepth 100000
namespace Go.Proofs.YtjbcnilllfaipaaGreat
open Go.RowKit Go.Proofs.YtjbcnilllfaipaaGreat.Av Go.Proofs.YtjbcnilllfaipaaGreat.Ml
open Go.Proofs.YtjbcnilllfaipaaGreat.Av.AVal (av)

set_option maxHeartbeats 8000000 in
theorem AcJ {l : List Node} {B M b f : Nat} (hp : Cb l B) (hM : M ≤ 100000) (hE : EvI l B M b f) (i : Nat) (e : EE) (st : ES) (tv : Nat) (n : Int) (vs : List Nat) (xs : List AV) (xe : AV) (hc : Can l B M (f + 1) i e st) (hR : Dz l vs (M - st.steps) st.refs xs) (xo : xe.one = true) (xp : ∀ hp, xe.AR hp = xe) (he : st.steps < M → IRE l vs (M - (st.steps + 1)) e xe) (hm : ¬ M ≤ st.steps) (hk : (l.getD i default).kind = 4) : Ay Tryz.prog 24 [.ptr 60 b 0 0, av (AD l i), xe] (iH b tv M st n vs xs) (Di l vs b M (An l M (f + 1) i e st)) := by
 refine Az.H rfl ?_
 have hkk : (l.getD i default).kids = AF l i := rfl
 have hev : An l M (f + 1) i e st = if (AF l i).length = 0 then (some (.EZ (l.getD i default).s), st.tick) else Cp (An l M f (kd l i 0) e st.tick) fun v st1 => (some (.Gl (l.getD i default).s v), st1) := by
  rw [An, if_neg hm]; simp only [Ho, hk, hkk, Int.reduceEq, if_true, if_false]
 rw [hev]
 clear hev
 have he : IRE l vs (M - st.tick.steps) e xe := he (by omega)
 have xA := fun hp => he.Bv hp
 have hsM := hc.hst.steps
 have hctr := hc.hst.tr
 have hcre := hc.hst.refs
 have hcf := hc.hf
 have hcl := hc.hl
 have hok := hc.hst.tick (by omega : st.steps < M)
 have hce : e.ok l B st.tick.refs.length (700 * (st.tick.steps + 1)) := EE.Ak (Nat.le_refl _) (by show 700 * (st.steps + 1) ≤ 700 * (st.steps + 1 + 1); omega) hc.he
 have hR1 : Dz l vs (M - st.tick.steps) st.tick.refs xs := hR.mono (by show M - (st.steps + 1) ≤ M - st.steps; omega)
 have C0 := hE (kd l i 0) e st.tick tv n vs xs xe ⟨hp.nodes.Bt hc.hi 0, hce, by show e.len ≤ 700 * (st.steps + 1 + 1); omega, hok, hc.h0, by show M - (st.steps + 1) < f; omega⟩ hR1 xo xp (fun _ => he.mono _ (by omega))
 have RO := BO hp.nodes hp.big f (kd l i 0) e st.tick (hp.nodes.Bt hc.hi 0) hce (by show e.len ≤ 700 * (st.steps + 1 + 1); omega) hok hc.h0 (by show M - (st.steps + 1) < f; omega)
 have hA0 := G6 l i 0
 have htree := B3 (fun i hi k hk => hp.nodes.kids i hi k hk) hc.hi
 rw [htree, DU, BE]
 have hT := BC 0 vs xs
 have hTT := Bh vs xs 0
 have hT1 := Bf hT 60
 obtain ⟨T, hTe⟩ : ∃ T, T = Co 0 vs xs := ⟨_, rfl⟩
 rw [BE, ← hTe] at C0
 rw [← hTe] at hT hTT hT1 ⊢
 have hks : (List.map (fun k => AD l k.toNat) (AF l i)).length = (AF l i).length := List.length_map ..
 generalize List.map (fun k => AD l k.toNat) (AF l i) = ks at *
 unfold wB
 simp +contextual -dsimp (maxSteps := 2000000) only [↓SD, SU, simprocAttr, Az, xo, xp]
 refine Ae [60] (En b tv M st n hc.h0 hm hM) (by simp +contextual -dsimp only [↓SD, SU, simprocAttr, wB]) ?_
 rintro r hp' ⟨rfl, rfl⟩
 unfold wB
 by_cases hn : (AF l i).length = 0
 ·rw [if_pos hn]
  have g0 := eq_false (show ¬ (0 : Int) < (ks.length : Int) by omega)
  have gs := eq_true (show st.tick.stop = 0 from hc.h0)
  simp +contextual -dsimp (maxSteps := 2000000) only [↓SD, SU, simprocAttr, hT1, hk, Aa, g0, gs, xo, xp, xA]
  intro v64
  refine Af.frz 64 (Af.post ((60, wB b tv M st.tick n) :: (61, ⟨tv, false, 9, 1, st.tick.tr.map av⟩) :: T) ?_)
  unfold wB
  simp +contextual -dsimp (maxSteps := 2000000) only [↓SD, SU, simprocAttr, show st.tick.tr = st.tr from rfl]
  refine ⟨Am (Am (Am (Am hTT hT (by decide)) hT (by decide)) hT (by decide)) hT (by decide), ?_⟩
  exact ⟨tv, n, [], xs, by rw [List.append_nil, hTe, BE]; rfl, by rw [List.append_nil]; exact hR1, fun h => absurd (hc.h0.symm.trans h) (by decide), .inl ⟨_, rfl, .EZ _ _⟩⟩
 ·rw [if_neg hn]
  have hA0 := hA0 (by omega)
  have hl0 : 0 < ks.length := by omega
  have hl1 : (0 : Int) < (ks.length : Int) := by omega
  simp +contextual -dsimp (maxSteps := 2000000) only [↓SD, SU, simprocAttr, hT1, hk, Aa, hl0, hl1, hA0, xo, xp, xA, A7, BW, Bx, BA]
  intro v64
  refine Cl _ _ T hT C0 (by simp +contextual -dsimp only [↓SD, SU, simprocAttr, wB]) (by simp +contextual -dsimp only [↓SD, SU, simprocAttr, show st.tick.tr = st.tr from rfl]) (Am (Am (Am hTT hT (by decide)) hT (by decide)) hT (by decide)) ?_
  intro r hp' hr R hRg
  have hR64 := hRg 64 (by decide) (by decide) (by decide)
  simp only [Aw, if_true] at hR64
  obtain ⟨ro, rp, rq⟩ := hr.form
  obtain ⟨tv1, n1, us, xs1, rfl, hR2, hn1, hv⟩ := hr
  generalize An l M f (kd l i 0) e st.tick = X at *
  obtain ⟨o, st2⟩ := X
  rw [BE]
  have hT' := BC 0 (vs ++ us) xs1
  have hTT' := Bh (vs ++ us) xs1 0
  obtain ⟨T', hTe'⟩ : ∃ T', T' = Co 0 (vs ++ us) xs1 := ⟨_, rfl⟩
  rw [← hTe'] at hT' hTT' ⊢
  have hG : Aw (T' ++ R) 64 = _ := (US hT' (by decide)).trans hR64
  rcases hv with ⟨v, hv, hx⟩ | ⟨hv, rfl⟩
  ·dsimp only at hv hR2 hn1 hx
   subst hv
   have hst0 := (RO.val v rfl).2
   dsimp only at hst0
   have gs := eq_true hst0
   unfold wB
   dsimp only
   simp +contextual -dsimp (maxSteps := 2000000) only [↓SD, SU, simprocAttr, gs, ro, rp, rq, hG]
   refine Af.frz 64 (Af.post ((60, wB b tv1 M st2 n1) :: (61, ⟨tv1, false, 9, 1, st2.tr.map av⟩) :: T') ?_)
   unfold wB
   simp +contextual -dsimp (maxSteps := 2000000) only [↓SD, SU, simprocAttr, ro, rp, rq]
   refine ⟨Am (Am (Am (Am (AX hTT') hT' (by decide)) hT' (by decide)) hT' (by decide)) hT' (by decide), ?_⟩
   exact ⟨tv1, n1, us, xs1, by rw [hTe', BE]; rfl, hR2, hn1, .inl ⟨_, rfl, .Gl _ _ v r hx⟩⟩
  ·dsimp only at hv
   subst hv
   have gs := eq_false (RO.stp rfl)
   unfold wB
   dsimp only at gs ⊢
   simp +contextual -dsimp (maxSteps := 2000000) only [↓SD, SU, simprocAttr, gs, hG]
   refine Af.post ((60, wB b tv1 M st2 n1) :: (61, ⟨tv1, false, 9, 1, st2.tr.map av⟩) :: T') ?_
   unfold wB
   simp +contextual -dsimp (maxSteps := 2000000) only [↓SD, SU, simprocAttr]
   refine ⟨Am (Am (Am (AX hTT') hT' (by decide)) hT' (by decide)) hT' (by decide), ?_⟩
   exact ⟨tv1, n1, us, xs1, by rw [hTe', BE]; rfl, hR2, hn1, .inr ⟨rfl, rfl⟩⟩
end Go.Proofs.YtjbcnilllfaipaaGreat
set_option linter.unusedVariables false
set_option linter.unusedSimpArgs false
set_option maxRecDepth 100000
namespace Go.Proofs.YtjbcnilllfaipaaGreat
open Go.RowKit Go.Proofs.YtjbcnilllfaipaaGreat.Av Go.Proofs.YtjbcnilllfaipaaGreat.Ml
open Go.Proofs.YtjbcnilllfaipaaGreat.Av.AVal (av)

set_option maxHeartbeats 8000000 in
theorem Abq {l : List Node} {B M b f : Nat} (hp : Cb l B) (hM : M ≤ 100000) (hE : EvI l B M b f) (i : Nat) (e : EE) (st : ES) (tv : Nat) (n : Int) (vs : List Nat) (xs : List AV) (xe : AV) (hc : Can l B M (f + 1) i e st) (hR : Dz l vs (M - st.steps) st.refs xs) (xo : xe.one = true) (xp : ∀ hp, xe.AR hp = xe) (he : st.steps < M → IRE l vs (M - (st.steps + 1)) e xe) (hm : ¬ M ≤ st.steps) (hk : (l.getD i default).kind = 15) : Ay Tryz.prog 24 [.ptr 60 b 0 0, av (AD l i), xe] (iH b tv M st n vs xs) (Di l vs b M (An l M (f + 1) i e st)) := by
 refine Az.H rfl ?_
 have hev : An l M (f + 1) i e st = match An l M f (kd l i 0) e st.tick with
  | (some v, st1) => (some v, st1)
  | (none, st1) => if st1.stop = 2 then An l M f (kd l i 1) (.cons (l.getD i default).s (.int st1.n) e) { st1 with stop := 0 } else (none, st1) := by
  rw [An, if_neg hm]; simp only [Ho, hk, Int.reduceEq, if_true, if_false]
  generalize An l M f (kd l i 0) e st.tick = X
  obtain ⟨_ | v, s⟩ := X <;> rfl
 rw [hev]
 clear hev
 have he : IRE l vs (M - st.tick.steps) e xe := he (by omega)
 have xA := fun hp => he.Bv hp
 have hsM := hc.hst.steps
 have hctr := hc.hst.tr
 have hcre := hc.hst.refs
 have hcf := hc.hf
 have hcl := hc.hl
 have hok := hc.hst.tick (by omega : st.steps < M)
 have hce : e.ok l B st.tick.refs.length (700 * (st.tick.steps + 1)) := EE.Ak (Nat.le_refl _) (by show 700 * (st.steps + 1) ≤ 700 * (st.steps + 1 + 1); omega) hc.he
 have hR1 : Dz l vs (M - st.tick.steps) st.tick.refs xs := hR.mono (by show M - (st.steps + 1) ≤ M - st.steps; omega)
 have C0 := hE (kd l i 0) e st.tick tv n vs xs xe ⟨hp.nodes.Bt hc.hi 0, hce, by show e.len ≤ 700 * (st.steps + 1 + 1); omega, hok, hc.h0, by show M - (st.steps + 1) < f; omega⟩ hR1 xo xp (fun _ => he.mono _ (by omega))
 have RO := BO hp.nodes hp.big f (kd l i 0) e st.tick (hp.nodes.Bt hc.hi 0) hce (by show e.len ≤ 700 * (st.steps + 1 + 1); omega) hok hc.h0 (by show M - (st.steps + 1) < f; omega)
 have hn := Il hp hc.hi (by rw [hk]; decide)
 rw [hk, show AJ 15 = 2 from rfl] at hn
 have hA0 := G6 l i 0 (by omega)
 have hA1 := G6 l i 1 (by omega)
 have hS : (l.getD i default).s.size ≤ B := hp.nodes.str _ (by have hi := hc.hi; simp only [List.getD_eq_getElem?_getD, List.getElem?_eq_getElem hi, Option.getD_some]; exact List.getElem_mem hi)
 have htree := B3 (fun i hi k hk => hp.nodes.kids i hi k hk) hc.hi
 rw [htree, DU, BE]
 have hT := BC 0 vs xs
 have hTT := Bh vs xs 0
 have hT1 := Bf hT 60
 obtain ⟨T, hTe⟩ : ∃ T, T = Co 0 vs xs := ⟨_, rfl⟩
 rw [BE, ← hTe] at C0
 rw [← hTe] at hT hTT hT1 ⊢
 have hks : (List.map (fun k => AD l k.toNat) (AF l i)).length = (AF l i).length := List.length_map ..
 generalize List.map (fun k => AD l k.toNat) (AF l i) = ks at *
 unfold wB
 simp +contextual -dsimp (maxSteps := 2000000) only [↓SD, SU, simprocAttr, Az, xo, xp]
 refine Ae [60] (En b tv M st n hc.h0 hm hM) (by simp +contextual -dsimp only [↓SD, SU, simprocAttr, wB]) ?_
 rintro r hp' ⟨rfl, rfl⟩
 unfold wB
 have hl0 : 0 < ks.length := by omega
 have hl1 : (0 : Int) < (ks.length : Int) := by omega
 have hl2 : 1 < ks.length := by omega
 have hl3 : (1 : Int) < (ks.length : Int) := by omega
 simp +contextual -dsimp (maxSteps := 2000000) only [↓SD, SU, simprocAttr, hT1, hk, Aa, hl0, hl1, hA0, xo, xp, xA, A7, BW, Bx, BA]
 refine Cl _ _ T hT C0 (by simp +contextual -dsimp only [↓SD, SU, simprocAttr, wB]) (by simp +contextual -dsimp only [↓SD, SU, simprocAttr, show st.tick.tr = st.tr from rfl]) (Am (Am hTT hT (by decide)) hT (by decide)) ?_
 intro r hp' hr R hRg
 obtain ⟨ro, rp, rq⟩ := hr.form
 obtain ⟨tv1, n1, us, xs1, rfl, hR2, hn1, hv⟩ := hr
 generalize An l M f (kd l i 0) e st.tick = X at *
 obtain ⟨o, st2⟩ := X
 rw [BE]
 have hT' := BC 0 (vs ++ us) xs1
 have hTT' := Bh (vs ++ us) xs1 0
 obtain ⟨T', hTe'⟩ : ∃ T', T' = Co 0 (vs ++ us) xs1 := ⟨_, rfl⟩
 rw [← hTe'] at hT' hTT' ⊢
 rcases hv with ⟨v, hv, hx⟩ | ⟨hv, rfl⟩
 ·dsimp only at hv hR2 hn1 hx
  subst hv
  have hst0 := (RO.val v rfl).2
  dsimp only at hst0
  have gs := eq_false (show ¬ st2.stop = 2 by rw [hst0]; decide)
  unfold wB
  dsimp only
  simp +contextual -dsimp (maxSteps := 2000000) only [↓SD, SU, simprocAttr, gs, ro, rp, rq]
  refine Af.post ((60, wB b tv1 M st2 n1) :: (61, ⟨tv1, false, 9, 1, st2.tr.map av⟩) :: T') ?_
  unfold wB
  simp +contextual -dsimp (maxSteps := 2000000) only [↓SD, SU, simprocAttr, ro, rp, rq]
  refine ⟨Am (Am (AX hTT') hT' (by decide)) hT' (by decide), ?_⟩
  exact ⟨tv1, n1, us, xs1, by rw [hTe', BE]; rfl, hR2, hn1, .inl ⟨v, rfl, hx⟩⟩
 ·dsimp only at hv hR2 hn1
  subst hv
  by_cases h2 : st2.stop = 2
  ·have gs := eq_true h2
   have hnn := hn1 h2
   subst hnn
   dsimp only
   rw [if_pos h2]
   have ROs := RO.steps
   have ROf := RO.refs
   dsimp only at ROs ROf
   have t1 : st.tick.steps = st.steps + 1 := rfl
   have t3 : st.tick.refs = st.refs := rfl
   rw [t1] at ROs
   rw [t3] at ROf
   have C2 := hE (kd l i 1) (.cons (l.getD i default).s (.int st2.n) e) { st2 with stop := 0 } tv1 st2.n (vs ++ us) xs1 (.obj [.str (l.getD i default).s, ivA 1 st2.n (bs []) .Ar, xe]) ⟨hp.nodes.Bt hc.hi 1, by rw [EE.ok, EV.ok]; exact ⟨hS, RO.ok.n, EE.Ak ROf (by dsimp only; omega) hc.he⟩, by rw [EE.len]; dsimp only; omega, RO.ok.stop 0, rfl, by dsimp only; omega⟩ hR2 rfl (fun _ => rfl) (fun hlt => .cons _ _ _ _ _ _ (.int _ _) ((he.grow EG).mono _ (by rw [t1]; dsimp only at hlt ⊢; omega)))
   rw [BE, ← hTe'] at C2
   unfold wB ivA at C2
   unfold wB
   simp +contextual -dsimp (maxSteps := 2000000) only [↓SD, SU, simprocAttr, gs, ro, rp, rq, Aa, hl2, hl3, hA1, xo, xp, xA, A7, BW, Bx, BA]
   refine Cl _ _ T' hT' C2 (by simp +contextual -dsimp only [↓SD, SU, simprocAttr]) (by simp +contextual -dsimp only [↓SD, SU, simprocAttr]) (by repeat (first | exact AX hTT' | refine Am ?_ hT' (by decide))) ?_
   intro r2 hp2 hr2 R2 hRg2
   obtain ⟨so, sp, sq⟩ := hr2.form
   have hs2 := hr2.self
   simp +contextual -dsimp (maxSteps := 2000000) only [↓SD, SU, simprocAttr, so, sp, sq]
   refine Af.post hp2 ?_
   simp +contextual -dsimp (maxSteps := 2000000) only [↓SD, SU, simprocAttr, so, sp, sq]
   exact ⟨AX hs2, hr2.up⟩
  ·have gs := eq_false h2
   dsimp only
   rw [if_neg h2]
   unfold wB
   simp +contextual -dsimp (maxSteps := 2000000) only [↓SD, SU, simprocAttr, gs, ro, rp, rq]
   refine Af.post ((60, wB b tv1 M st2 n1) :: (61, ⟨tv1, false, 9, 1, st2.tr.map av⟩) :: T') ?_
   unfold wB
   simp +contextual -dsimp (maxSteps := 2000000) only [↓SD, SU, simprocAttr]
   refine ⟨Am (Am (AX hTT') hT' (by decide)) hT' (by decide), ?_⟩
   exact ⟨tv1, n1, us, xs1, by rw [hTe', BE]; rfl, hR2, hn1, .inr ⟨rfl, rfl⟩⟩
end Go.Proofs.YtjbcnilllfaipaaGreat
set_option linter.unusedVariables false
set_option linter.unusedSimpArgs false
set_option maxRecDepth 100000
namespace Go.Proofs.YtjbcnilllfaipaaGreat.Av
open Go.RowKit
theorem Un {E : Env} {S : Nat → Prop} {w : World} {μ : Mu} {hp : Hp} (hw : WI E S w μ hp) {G u : Nat} {tG : TypeId} {b1 b3 a1 a2 a3 a4 a5 : AV}
  (hG : Aw hp G = some ⟨u, true, tG, 3, [.agg [b1, .obj [a1, a2, a3, a4, a5, .ptr G u 0 0], b3]]⟩) :
  ∀ (d : Nat) (x : Value), VR S w μ x (.ptr G u 0 0) → VR S w μ x (Nm b1 b3 a1 a2 a3 a4 a5 (.obj [a1, a2, a3, a4, a5, .ptr G u 0 0]) d)
 | 0, x, h => by
  have := h.AR hw
  simpa [AV.AR, hG, AV.cells, Nm] using this
 | d + 1, x, h => by
  have h1 := h.AR hw
  simp only [AV.AR, hG, true_and, List.length_cons, List.length_nil, Nat.zero_add, Nat.zero_lt_one, if_true, List.getD_cons_zero, AV.cells, List.drop_zero] at h1
  have h2 := h1.Sk (off := 1) (y := .obj [a1, a2, a3, a4, a5, Nm b1 b3 a1 a2 a3 a4 a5 (.obj [a1, a2, a3, a4, a5, .ptr G u 0 0]) d]) rfl (fun z q hz hq => by
   cases hz
   exact hq.Sk (off := 5) (LR _ _ _ _ _ _ _ _ _) (fun z q hz hq => by cases hz; exact Un hw hG d q hq))
  exact h2
theorem Af.Aee {s : St} {T : St → Prop} (i d : Nat) {F G v u : Nat} {tF tG : TypeId} {b1 b3 a1 a2 a3 a4 a5 : AV} (hi : BJ s.fr i = .ptr F v 0 0)
  (hF : Aw s.hp F = some ⟨v, true, tF, 6, [.agg [a1, a2, a3, a4, a5, .ptr G u 0 0]]⟩) (hG : Aw s.hp G = some ⟨u, true, tG, 3, [.agg [b1, .obj [a1, a2, a3, a4, a5, .ptr G u 0 0], b3]]⟩)
  (h : Af ⟨(i, .obj [a1, a2, a3, a4, a5, Nm b1 b3 a1 a2 a3 a4 a5 (.obj [a1, a2, a3, a4, a5, .ptr G u 0 0]) d]) :: s.fr, s.hp⟩ T) : Af s T := by
 refine ⟨?_⟩
 rintro E nt a w ⟨hd, hn, S, μ, hw, hf⟩
 refine h.run E nt a w ⟨hd, hn, S, μ, hw, fun t => ?_⟩
 simp only [BJ]
 split
 ·rename_i e
  subst e
  have h1 := (hf i).AR hw
  rw [hi] at h1
  simp only [AV.AR, hF, true_and, List.length_cons, List.length_nil, Nat.zero_add, Nat.zero_lt_one, if_true, List.getD_cons_zero, AV.cells, List.drop_zero] at h1
  exact h1.Sk (off := 5) (LR _ _ _ _ _ _ _ _ _) (fun z q hz hq => by cases hz; exact Un hw hG d q hq)
 ·exact hf t
end Go.Proofs.YtjbcnilllfaipaaGreat.Av
namespace Go.Proofs.YtjbcnilllfaipaaGreat
open Go.RowKit Go.Proofs.YtjbcnilllfaipaaGreat.Av Go.Proofs.YtjbcnilllfaipaaGreat.Ml
open Go.Proofs.YtjbcnilllfaipaaGreat.Av.AVal (av)

def kA (l : List Node) (i : Nat) (nm : ByteArray) (xe p : AV) (d : Nat) : AV := Nm (.str nm) xe (.int .i64 6) (.int .i64 0) (.str (l.getD i default).s) .Ar (av (AD l (kd l i 0))) p d
theorem Ac8 {l : List Node} {vs : List Nat} {i : Nat} {nm : ByteArray} {e : EE} {xe p : AV} (hn : nm ≠ bs []) (p1 : p.one = true) : ∀ d m, m ≤ d → IRE l vs m e xe → IR l vs m (.fn i nm e) (fnA l i (kA l i nm xe p d))
 | 0, m, hm, h => .self m i nm e xe p hn (fun k hk => by omega) p1 h
 | d + 1, m, hm, h => .self m i nm e xe (fnA l i (kA l i nm xe p d)) hn (fun k hk => Ac8 hn p1 d k (by omega) (h.mono k (by omega))) rfl h
theorem AdH {l : List Node} {vs : List Nat} {i : Nat} {nm : ByteArray} {e : EE} {xe p : AV} (hn : nm ≠ bs []) (p1 : p.one = true) (d m : Nat) (hm : m ≤ d) (h : IRE l vs m e xe) : IRE l vs m (.cons nm (.fn i nm e) e) (kA l i nm xe p (d + 1)) :=
 .cons m nm _ e (fnA l i (kA l i nm xe p d)) xe (Ac8 hn p1 d m hm h) h
theorem Aa1 {s : ByteArray} (h : F0 s = true) : s ≠ bs [] := fun e => by
 rw [e] at h
 revert h
 decide
theorem Acu {l : List Node} {B : Nat} (hp : Cb l B) {i : Nat} (hi : i < l.length) (hk : (l.getD i default).kind = 8) : (l.getD i default).s ≠ bs [] := by
 have h := hp.node _ (hp.nodes.mem hi)
 unfold AP at h
 split at h
 ·cases h
 rw [hk] at h
 simp only [Int.reduceEq, if_false, or_false, if_true, Bool.and_eq_true] at h
 have h1 := h.1
 unfold BK at h1
 rw [Bool.and_eq_true] at h1
 exact Aa1 h1.1
set_option maxHeartbeats 8000000 in
theorem AcH {l : List Node} {B M b f : Nat} (hp : Cb l B) (hM : M ≤ 100000) (hE : EvI l B M b f) (i : Nat) (e : EE) (st : ES) (tv : Nat) (n : Int) (vs : List Nat) (xs : List AV) (xe : AV) (hc : Can l B M (f + 1) i e st) (hR : Dz l vs (M - st.steps) st.refs xs) (xo : xe.one = true) (xp : ∀ hp, xe.AR hp = xe) (he : st.steps < M → IRE l vs (M - (st.steps + 1)) e xe) (hm : ¬ M ≤ st.steps) (hk : (l.getD i default).kind = 8) : Ay Tryz.prog 24 [.ptr 60 b 0 0, av (AD l i), xe] (iH b tv M st n vs xs) (Di l vs b M (An l M (f + 1) i e st)) := by
 refine Az.H rfl ?_
 have hev : An l M (f + 1) i e st = if M ≤ st.tick.steps then (none, st.tick.out) else An l M f (kd l i 1) (.cons (l.getD i default).s (.fn (kd l i 0) (l.getD i default).s e) e) st.tick.tick := by
  rw [An, if_neg hm]; simp only [Ho, hk, Int.reduceEq, if_true, if_false]
 rw [hev]
 clear hev
 have he : IRE l vs (M - st.tick.steps) e xe := he (by omega)
 have xA := fun hp => he.Bv hp
 have t1 : st.tick.steps = st.steps + 1 := rfl
 have t3 : st.tick.refs = st.refs := rfl
 have hR1 : Dz l vs (M - st.tick.steps) st.tick.refs xs := hR.mono (by rw [t1]; omega)
 have h8 := hp.nodes.Adp i hc.hi hk
 have hi0 := hp.nodes.Bt hc.hi 0
 have hn := Il hp hc.hi (by rw [hk]; decide)
 rw [hk, show AJ 8 = 2 from rfl] at hn
 have hn0 := Il hp hi0 (by rw [h8]; decide)
 rw [h8, show AJ 5 = 1 from rfl] at hn0
 have hA0 := G6 l i 0 (by omega)
 have hA1 := G6 l i 1 (by omega)
 have hA2 := G6 l (kd l i 0) 0 (by omega)
 have hnm := Acu hp hc.hi hk
 have hkids := fun i hi k hk => hp.nodes.kids i hi k hk
 have htree := B3 hkids hc.hi
 have htree0 := B3 hkids hi0
 rw [htree0, DU] at hA0
 rw [htree, DU, BE]
 have hT := BC 0 vs xs
 have hTT := Bh vs xs 0
 have hT1 := Bf hT 60
 obtain ⟨T, hTe⟩ : ∃ T, T = Co 0 vs xs := ⟨_, rfl⟩
 have hs := hp.nodes.str _ (hp.nodes.mem hc.hi)
 have C2 : ∀ v63 : Nat, st.tick.steps < M → Ay Tryz.prog 24 [.ptr 60 b 0 0, av (AD l (kd l i 1)), kA l (kd l i 0) (l.getD i default).s xe (.obj [.int .i64 6, .int .i64 0, .str (l.getD (kd l i 0) default).s, .Ar, av (AD l (kd l (kd l i 0) 0)), .ptr 63 v63 0 0]) (M + 1)] (iH b tv M st.tick.tick n vs xs) (Di l vs b M (An l M f (kd l i 1) (.cons (l.getD i default).s (.fn (kd l i 0) (l.getD i default).s e) e) st.tick.tick))   := fun v63 hlt => by
  have hok := hc.hst.tick (by omega : st.steps < M)
  have hok2 := hok.tick hlt
  have hcl := hc.hl
  have hcf := hc.hf
  have t2 : st.tick.tick.steps = st.steps + 2 := rfl
  have hc2 : e.ok l B st.tick.tick.refs.length (700 * (st.tick.tick.steps + 1)) := EE.Ak (Nat.le_refl _) (by rw [t2]; omega) hc.he
  refine hE (kd l i 1) _ st.tick.tick tv n vs xs _ ⟨hp.nodes.Bt hc.hi 1, ?_, ?_, hok2, hc.h0, by rw [t2]; omega⟩ (hR.mono (by rw [t2]; omega)) (LR _ _ _ _ _ _ _ _ _) (fun _ => by unfold kA; cases M <;> rfl) (fun _ => AdH hnm rfl _ _ (by omega) (he.mono _ (by rw [t1, t2]; omega)))
  ·rw [EE.ok, EV.ok]
   exact ⟨hs, ⟨hi0, h8, hs, by rw [t2]; omega, hc2⟩, hc2⟩
  ·rw [EE.len, t2]; omega
 rw [BE, ← hTe] at C2
 rw [← hTe] at hT hTT hT1 ⊢
 have hks : (List.map (fun k => AD l k.toNat) (AF l i)).length = (AF l i).length := List.length_map ..
 have hks0 : (List.map (fun k => AD l k.toNat) (AF l (kd l i 0))).length = (AF l (kd l i 0)).length := List.length_map ..
 generalize List.map (fun k => AD l k.toNat) (AF l i) = ks at *
 generalize List.map (fun k => AD l k.toNat) (AF l (kd l i 0)) = ks0 at *
 unfold wB
 simp +contextual -dsimp (maxSteps := 2000000) only [↓SD, SU, simprocAttr, Az, xo, xp]
 refine Ae [60] (En b tv M st n hc.h0 hm hM) (by simp +contextual -dsimp only [↓SD, SU, simprocAttr, wB]) ?_
 rintro r hp' ⟨rfl, rfl⟩
 unfold wB
 have hl0 : 0 < ks.length := by omega
 have hl1 : (0 : Int) < (ks.length : Int) := by omega
 have hl2 : 1 < ks.length := by omega
 have hl3 : (1 : Int) < (ks.length : Int) := by omega
 have hl4 : 0 < ks0.length := by omega
 have hl5 : (0 : Int) < (ks0.length : Int) := by omega
 simp +contextual -dsimp (maxSteps := 2000000) only [↓SD, SU, simprocAttr, hT1, hk, Aa, hl0, hl1, hA0, xo, xp, xA, A7, BW, Bx, BA]
 by_cases hm2 : M ≤ st.tick.steps
 ·rw [if_pos hm2]
  refine Ae [60] (Tb b tv M st.tick n hc.h0 hm2) (by simp +contextual -dsimp only [↓SD, SU, simprocAttr, wB]) ?_
  rintro r hp' ⟨rfl, rfl⟩
  unfold wB
  simp +contextual -dsimp (maxSteps := 2000000) only [↓SD, SU, simprocAttr, hT1]
  refine Af.post ((60, wB b tv M st.tick.out n) :: (61, ⟨tv, false, 9, 1, st.tick.tr.map av⟩) :: T) ?_
  unfold wB
  simp +contextual -dsimp (maxSteps := 2000000) only [↓SD, SU, simprocAttr, show st.tick.out.inp = st.tick.inp from rfl, show st.tick.out.tr = st.tick.tr from rfl, show st.tick.tr = st.tr from rfl, show st.tick.out.steps = st.tick.steps from rfl, show st.tick.out.stop = 3 from rfl]
  refine ⟨by repeat (first | exact hTT | exact AX hTT | refine Am ?_ hT (by decide)), ?_⟩
  exact Ca (st := st.tick.out) hTe hR1 (fun h => absurd (show (3 : Int) = 2 from h) (by decide)) (.inr ⟨rfl, rfl⟩)
 ·rw [if_neg hm2]
  have C2 := fun v63 => C2 v63 (by omega)
  refine Ae [60] (En b tv M st.tick n hc.h0 hm2 hM) (by simp +contextual -dsimp only [↓SD, SU, simprocAttr, wB]) ?_
  rintro r hp' ⟨rfl, rfl⟩
  unfold wB
  simp +contextual -dsimp (maxSteps := 2000000) only [↓SD, SU, simprocAttr, hT1, hk, Aa, hl0, hl1, hl2, hl3, hl4, hl5, hA0, hA1, hA2, xo, xp, xA, A7, BW, Bx, BA]
  intro v62 v63
  have C2 := C2 v63
  have e1 : Nm (.str (l.getD i default).s) xe (.int .i64 6) (.int .i64 0) (.str (l.getD (kd l i 0) default).s) .Ar (av (AD l (kd l (kd l i 0) 0))) (.obj [.int .i64 6, .int .i64 0, .str (l.getD (kd l i 0) default).s, .Ar, av (AD l (kd l (kd l i 0) 0)), .ptr 63 v63 0 0]) (M + 1) = kA l (kd l i 0) (l.getD i default).s xe (.obj [.int .i64 6, .int .i64 0, .str (l.getD (kd l i 0) default).s, .Ar, av (AD l (kd l (kd l i 0) 0)), .ptr 63 v63 0 0]) (M + 1) := rfl
  refine Me (Af.frz 62 (Af.frz 63 (Af.Aee 7 (M + 1) (F := 62) (G := 63) (v := v62) (u := v63) (tF := 121) (tG := 124) (b1 := .str (l.getD i default).s) (b3 := xe) (a1 := .int .i64 6) (a2 := .int .i64 0) (a3 := .str (l.getD (kd l i 0) default).s) (a4 := .Ar) (a5 := av (AD l (kd l (kd l i 0) 0))) (by simp +contextual -dsimp only [↓SD, SU, simprocAttr]) (by simp +contextual -dsimp only [↓SD, SU, simprocAttr, xo, xp, xA, A7, BW, Bx, BA]) (by simp +contextual -dsimp only [↓SD, SU, simprocAttr, xo, xp, xA, A7, BW, Bx, BA]) ?_)))
  rw [e1]
  have ko := LR (.str (l.getD i default).s) xe (.int .i64 6) (.int .i64 0) (.str (l.getD (kd l i 0) default).s) .Ar (av (AD l (kd l (kd l i 0) 0))) (.obj [.int .i64 6, .int .i64 0, .str (l.getD (kd l i 0) default).s, .Ar, av (AD l (kd l (kd l i 0) 0)), .ptr 63 v63 0 0]) (M + 1)
  rw [e1] at ko
  have kp : ∀ hp, (kA l (kd l i 0) (l.getD i default).s xe (.obj [.int .i64 6, .int .i64 0, .str (l.getD (kd l i 0) default).s, .Ar, av (AD l (kd l (kd l i 0) 0)), .ptr 63 v63 0 0]) (M + 1)).AR hp = kA l (kd l i 0) (l.getD i default).s xe (.obj [.int .i64 6, .int .i64 0, .str (l.getD (kd l i 0) default).s, .Ar, av (AD l (kd l (kd l i 0) 0)), .ptr 63 v63 0 0]) (M + 1) := fun _ => rfl
  have kq : ∀ hp, (kA l (kd l i 0) (l.getD i default).s xe (.obj [.int .i64 6, .int .i64 0, .str (l.getD (kd l i 0) default).s, .Ar, av (AD l (kd l (kd l i 0) 0)), .ptr 63 v63 0 0]) (M + 1)).Bv hp = kA l (kd l i 0) (l.getD i default).s xe (.obj [.int .i64 6, .int .i64 0, .str (l.getD (kd l i 0) default).s, .Ar, av (AD l (kd l (kd l i 0) 0)), .ptr 63 v63 0 0]) (M + 1) := fun _ => rfl
  generalize kA l (kd l i 0) (l.getD i default).s xe (.obj [.int .i64 6, .int .i64 0, .str (l.getD (kd l i 0) default).s, .Ar, av (AD l (kd l (kd l i 0) 0)), .ptr 63 v63 0 0]) (M + 1) = K at *
  refine Af.le (t := ⟨[(0, .ptr 60 b 0 0), (1, .obj [.int .i64 8, .int .i64 (l.getD i default).pos, .int .i64 (l.getD i default).n, .str (l.getD i default).s, .sl (ks.map av), .sl ((l.getD i default).As.map av)]), (7, .obj [.int .i64 6, .int .i64 0, .str (l.getD (kd l i 0) default).s, .Ar, av (AD l (kd l (kd l i 0) 0)), K])], (60, wB b tv M st.tick.tick n) :: (61, ⟨tv, false, 9, 1, st.tick.tick.tr.map av⟩) :: T⟩) ?_ (by simp +contextual -dsimp only [↓SD, SU, simprocAttr]) ?_
  ·unfold wB
   simp +contextual -dsimp (maxSteps := 2000000) only [↓SD, SU, simprocAttr, hl2, hl3, hA1, ko, kp, kq, A7, BW, Bx, BA, Aa]
   refine Cl _ _ T hT C2 (by simp +contextual -dsimp only [↓SD, SU, simprocAttr, wB]) (by simp +contextual -dsimp only [↓SD, SU, simprocAttr]) (by repeat (first | exact hTT | refine Am ?_ hT (by decide))) ?_
   intro r2 hp2 hr2 R2 hRg2
   obtain ⟨so, sp, sq⟩ := hr2.form
   have hs2 := hr2.self
   simp +contextual -dsimp (maxSteps := 2000000) only [↓SD, SU, simprocAttr, so, sp, sq]
   refine Af.post hp2 ?_
   simp +contextual -dsimp (maxSteps := 2000000) only [↓SD, SU, simprocAttr, so, sp, sq]
   exact ⟨AX hs2, hr2⟩
  ·unfold wB
   simp +contextual -dsimp (maxSteps := 2000000) only [↓SD, SU, simprocAttr, xo, xp, xA, A7, BW, Bx, BA]
   exact ⟨rfl, by repeat (first | exact hTT | refine Am ?_ hT (by decide))⟩
end Go.Proofs.YtjbcnilllfaipaaGreat
