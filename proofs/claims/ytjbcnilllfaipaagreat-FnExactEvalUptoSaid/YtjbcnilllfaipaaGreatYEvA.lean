/-
 THE PROGRAM'S EVALUATOR: nodes with two parts. Conditions: none. Printed by evb.py.
-/
import Derived.Test.YtjbcnilllfaipaaGreatYEvB
set_option linter.unusedVariables false
set_option linter.unusedSimpArgs false
set_option maxRecDepth 100000
namespace Go.Proofs.YtjbcnilllfaipaaGreat
open Go.RowKit Go.Proofs.YtjbcnilllfaipaaGreat.Av Go.Proofs.YtjbcnilllfaipaaGreat.Ml
open Go.Proofs.YtjbcnilllfaipaaGreat.Av.AVal (av)

theorem IRX.Gd {l : List Node} {vs : List Nat} {m : Nat} {z : EV ⊕ EE} {x : AV} (h : IRX l vs m z x) (r : AV) : x.Gd 0 [r] = r := by cases h <;> rfl
theorem Wj (s : ByteArray) (a v : EV) (st : ES) : (Ce s a v st).2.steps = st.steps ∧ (Ce s a v st).2.refs = st.refs ∧ (Ce s a v st).2.tr = st.tr := by
 unfold Ce
 split
 ·cases a <;> (try exact ⟨rfl, rfl, rfl⟩)
  cases v <;> (try exact ⟨rfl, rfl, rfl⟩)
  dsimp only
  split <;> exact ⟨rfl, rfl, rfl⟩
 ·cases a <;> (try exact ⟨rfl, rfl, rfl⟩)
  cases v <;> (try exact ⟨rfl, rfl, rfl⟩)
  dsimp only
  split
  ·split <;> exact ⟨rfl, rfl, rfl⟩
  ·exact ⟨rfl, rfl, rfl⟩
theorem TI {hp : Hp} {vs : List Nat} {xs : List AV} {j u : Nat} {x : AV} (hj : vs[j]? = some u) (h : Bg hp (Co 0 vs xs)) : Bg ((RN j, ⟨u, false, 65, 1, [x]⟩) :: hp) (Co 0 vs (xs.set j x)) := by
 refine NP _ _ 0 fun k v y h3 h4 => ?_
 rw [List.getElem?_set] at h4
 by_cases hk : j = k
 ·subst hk
  rw [if_pos rfl] at h4
  split at h4
  ·cases h4
   rw [hj] at h3
   cases h3
   rw [Nat.zero_add]
   exact Cj
  ·cases h4
 ·rw [if_neg hk] at h4
  have h5 := JP (j := 0) h3 h4
  rw [D5 (fun e => by have := R9 e; omega)]
  exact A3.1 h _ (Sy h5)
theorem Dz.set {l : List Node} {vs : List Nat} {m : Nat} {rs : List EV} {xs : List AV} {a : EV} {x : AV} (h : Dz l vs m rs xs) (j : Nat) (ha : IR l vs m a x) : Dz l vs m (rs.set j a) (xs.set j x) := by
 obtain ⟨h1, h2, h3⟩ := h
 refine ⟨by simp [h1], by simp [h2], fun k j1 j2 => ?_⟩
 rw [List.getElem_set, List.getElem_set]
 split
 ·exact ha
 ·exact h3 k (by simpa using j1) (by simpa using j2)
set_option maxHeartbeats 8000000 in
theorem Aen {l : List Node} {B M b f : Nat} (hp : Cb l B) (hM : M ≤ 100000) (hE : EvI l B M b f) (i : Nat) (e : EE) (a : EV) (st : ES) (tv : Nat) (n : Int) (vs : List Nat) (xs : List AV) (xe xa : AV) (hc : M1 l B M f i e a st) (hR : Dz l vs (M - st.steps) st.refs xs) (ie : IRE l vs (M - st.steps) e xe) (ia : IR l vs (M - st.steps) a xa) (hk : (l.getD i default).kind = 6) : Ay Tryz.prog 57 [.ptr 60 b 0 0, av (AD l i), xa, xe] (iH b tv M st n vs xs) (Di l vs b M (Cf l (l.getD i default) (fun j e st => An l M f (kd l i j) e st) (fun i' e st => An l M f (kd l i' 0) e st) e a st)) := by
 refine Ah.H rfl ?_
 have xo := ie.one
 have xp := fun hp => ie.AR hp
 have xA := fun hp => ie.Bv hp
 have ao := ia.one
 have ap := fun hp => ia.AR hp
 have aA := fun hp => ia.Bv hp
 have ac := ia.cells
 have xc := ie.cells
 have hsM := hc.hst.steps
 have hcf := hc.hf
 have hcl := hc.hl
 have hst0 : ∀ {P : Prop}, st.stop = 2 → P := fun h => absurd (hc.h0.symm.trans h) (by decide)
 have hgo : ∀ (j : Nat) (e' : EE) (xe' : AV), e'.ok l B st.refs.length (700 * (st.steps + 1)) → e'.len ≤ 700 * (st.steps + 1) → xe'.one = true → (∀ hp, xe'.AR hp = xe') → (st.steps < M → IRE l vs (M - (st.steps + 1)) e' xe') → Ay Tryz.prog 24 [.ptr 60 b 0 0, av (AD l (kd l i j)), xe'] (iH b tv M st n vs xs) (Di l vs b M (An l M f (kd l i j) e' st)) := fun j e' xe' h1 h2 h3 h4 h5 => hE (kd l i j) e' st tv n vs xs xe' ⟨hp.nodes.Bt hc.hi j, h1, h2, hc.hst, hc.h0, hcf⟩ hR h3 h4 h5
 have hee : e.ok l B st.refs.length (700 * (st.steps + 1)) := EE.Ak (Nat.le_refl _) (by omega) hc.he
 have haa : a.ok l B st.refs.length (700 * (st.steps + 1)) := EV.Ak (Nat.le_refl _) (by omega) hc.ha
 have hs := hp.nodes.str _ (hp.nodes.mem hc.hi)
 have hn := fun h => Il hp hc.hi h
 have hA := fun j hj => G6 l i j hj
 have hT := BC 0 vs xs
 have hTT := Bh vs xs 0
 have hT1 := Bf hT 60
 have htree := B3 (fun i hi k hk => hp.nodes.kids i hi k hk) hc.hi
 have hmem := hp.nodes.mem hc.hi
 rw [htree, DU, BE]
 rw [BE] at hgo
 obtain ⟨T, hTe⟩ : ∃ T, T = Co 0 vs xs := ⟨_, rfl⟩
 rw [← hTe] at hT hTT hT1 hgo ⊢
 have hks : (List.map (fun k => AD l k.toNat) (AF l i)).length = (AF l i).length := List.length_map ..
 generalize hnd : l.getD i default = nd at *
 generalize List.map (fun k => AD l k.toNat) (AF l i) = ks at *
 have hn := hn (by rw [hk]; decide)
 rw [hk, show AJ 6 = 2 from rfl] at hn
 have hj1 : 1 < (AF l i).length := by omega
 have hA1 := hA 1 hj1
 have hl1 : 1 < ks.length := by omega
 have hm1 : (1 : Int) < (ks.length : Int) := by omega
 rw [show Cf l nd (fun j e st => An l M f (kd l i j) e st) (fun i' e st => An l M f (kd l i' 0) e st) e a st = Cp (An l M f (kd l i 1) e st) fun b st2 => DO l nd (fun i' e st => An l M f (kd l i' 0) e st) a b st2 from (by unfold Cf; simp only [hk, Int.reduceEq, if_true, if_false])]
 have C0 := hgo 1 e xe hee (by omega) xo xp (fun _ => ie.mono _ (by omega))
 have RO := BO hp.nodes hp.big f (kd l i 1) e st (hp.nodes.Bt hc.hi 1) hee (by omega) hc.hst hc.h0 hcf
 unfold wB
 simp +contextual -dsimp (maxSteps := 2000000) only [↓SD, SU, simprocAttr, Ah, hk, xo, xp, xA, xc, ao, ap, aA, ac, A7, BW, Bx, BA, Aa, hA1, hl1, hm1]
 refine Cl _ _ T hT C0 (by simp +contextual -dsimp only [↓SD, SU, simprocAttr, wB]) (by simp +contextual -dsimp only [↓SD, SU, simprocAttr]) (by repeat (first | exact hTT | exact AX hTT | refine Am ?_ hT (by decide))) ?_
 intro r hp' hr R hRg
 obtain ⟨ro, rp, rq⟩ := hr.form
 obtain ⟨tv1, n1, us, xs1, rfl, hR2, hn1, hv⟩ := hr
 generalize An l M f (kd l i 1) e st = X at *
 obtain ⟨o, st2⟩ := X
 rw [BE]
 have hT' := BC 0 (vs ++ us) xs1
 have hTT' := Bh (vs ++ us) xs1 0
 have hT1' := Bf hT' 60
 obtain ⟨T', hTe'⟩ : ∃ T', T' = Co 0 (vs ++ us) xs1 := ⟨_, rfl⟩
 rw [← hTe'] at hT' hTT' hT1' ⊢
 have hTR : BN [60] (T' ++ R) = T' ++ BN [60] R := by
  unfold BN at hT1' ⊢
  rw [List.filter_append, hT1']
 have aq := fun hp => ia.pur hp
 rcases hv with ⟨v, hv, hx⟩ | ⟨hv, rfl⟩
 ·dsimp only at hv hR2 hn1 hx
  subst hv
  obtain ⟨hvok, hst20⟩ := RO.val v rfl
  have ROs := RO.steps
  have ROt := RO.trg
  have ROr := RO.rfg
  have ROf := RO.refs
  have ROk := RO.ok
  dsimp only at hvok hst20 ROs ROt ROr ROf ROk
  have gs := eq_true hst20
  have ha2 : a.ok l B st2.refs.length (700 * st2.steps) := EV.Ak ROf (by omega) hc.ha
  have ia2 := (ia.grow (EG (us := us))).mono (M - st2.steps) (by omega)
  have rA := fun hp => hx.Bv hp
  have rc := hx.cells
  have hst02 : ∀ {P : Prop}, st2.stop = 2 → P := fun h => absurd (hst20.symm.trans h) (by decide)
  unfold Cp
  dsimp only
  rw [show DO l nd (fun i' e st => An l M f (kd l i' 0) e st) a v st2 = Lh l M f a v st2 from (by unfold DO; simp only [hk, Int.reduceEq, if_true, if_false] <;> (cases a <;> rfl))]
  have C := AbC hp hM hE a v st2 tv1 n1 (vs ++ us) xs1 xa r ⟨ha2, hvok, ROk, hst20, by omega⟩ hR2 ia2 hx
  rw [BE, ← hTe'] at C
  unfold wB
  simp +contextual -dsimp (maxSteps := 2000000) only [↓SD, SU, simprocAttr, gs, ro, rp, rq, rA, rc, aq, xo, xp, xA, ao, ap, aA, ac, hk]
  refine Cl _ _ T' hT' C (by simp +contextual -dsimp only [↓SD, SU, simprocAttr, wB]) (by simp +contextual -dsimp only [↓SD, SU, simprocAttr]) (by repeat (first | exact hTT' | exact AX hTT' | refine Am ?_ hT' (by decide))) ?_
  intro r2 hp2 hr2 R2 hRg2
  obtain ⟨so, sp, sq⟩ := hr2.form
  have hs2 := hr2.self
  simp +contextual -dsimp (maxSteps := 2000000) only [↓SD, SU, simprocAttr, so, sp, sq]
  refine Af.post hp2 ?_
  simp +contextual -dsimp (maxSteps := 2000000) only [↓SD, SU, simprocAttr, so, sp, sq]
  exact ⟨AX hs2, hr2.up⟩
 ·dsimp only at hv
  subst hv
  have gs := eq_false (RO.stp rfl)
  unfold Cp wB
  dsimp only at gs ⊢
  simp +contextual -dsimp (maxSteps := 2000000) only [↓SD, SU, simprocAttr, gs, ro, rp, rq]
  refine Af.post ((60, wB b tv1 M st2 n1) :: (61, ⟨tv1, false, 9, 1, st2.tr.map av⟩) :: T') ?_
  unfold wB
  simp +contextual -dsimp (maxSteps := 2000000) only [↓SD, SU, simprocAttr]
  refine ⟨by repeat (first | exact hTT' | exact AX hTT' | refine Am ?_ hT' (by decide)), ?_⟩
  exact (Ca hTe' hR2 hn1 (.inr ⟨rfl, rfl⟩)).up
set_option maxHeartbeats 8000000 in
theorem AdX {l : List Node} {B M b f : Nat} (hp : Cb l B) (hM : M ≤ 100000) (hE : EvI l B M b f) (i : Nat) (e : EE) (a : EV) (st : ES) (tv : Nat) (n : Int) (vs : List Nat) (xs : List AV) (xe xa : AV) (hc : M1 l B M f i e a st) (hR : Dz l vs (M - st.steps) st.refs xs) (ie : IRE l vs (M - st.steps) e xe) (ia : IR l vs (M - st.steps) a xa) (hk : (l.getD i default).kind = 10) : Ay Tryz.prog 57 [.ptr 60 b 0 0, av (AD l i), xa, xe] (iH b tv M st n vs xs) (Di l vs b M (Cf l (l.getD i default) (fun j e st => An l M f (kd l i j) e st) (fun i' e st => An l M f (kd l i' 0) e st) e a st)) := by
 refine Ah.H rfl ?_
 have xo := ie.one
 have xp := fun hp => ie.AR hp
 have xA := fun hp => ie.Bv hp
 have ao := ia.one
 have ap := fun hp => ia.AR hp
 have aA := fun hp => ia.Bv hp
 have ac := ia.cells
 have xc := ie.cells
 have hsM := hc.hst.steps
 have hcf := hc.hf
 have hcl := hc.hl
 have hst0 : ∀ {P : Prop}, st.stop = 2 → P := fun h => absurd (hc.h0.symm.trans h) (by decide)
 have hgo : ∀ (j : Nat) (e' : EE) (xe' : AV), e'.ok l B st.refs.length (700 * (st.steps + 1)) → e'.len ≤ 700 * (st.steps + 1) → xe'.one = true → (∀ hp, xe'.AR hp = xe') → (st.steps < M → IRE l vs (M - (st.steps + 1)) e' xe') → Ay Tryz.prog 24 [.ptr 60 b 0 0, av (AD l (kd l i j)), xe'] (iH b tv M st n vs xs) (Di l vs b M (An l M f (kd l i j) e' st)) := fun j e' xe' h1 h2 h3 h4 h5 => hE (kd l i j) e' st tv n vs xs xe' ⟨hp.nodes.Bt hc.hi j, h1, h2, hc.hst, hc.h0, hcf⟩ hR h3 h4 h5
 have hee : e.ok l B st.refs.length (700 * (st.steps + 1)) := EE.Ak (Nat.le_refl _) (by omega) hc.he
 have haa : a.ok l B st.refs.length (700 * (st.steps + 1)) := EV.Ak (Nat.le_refl _) (by omega) hc.ha
 have hs := hp.nodes.str _ (hp.nodes.mem hc.hi)
 have hn := fun h => Il hp hc.hi h
 have hA := fun j hj => G6 l i j hj
 have hT := BC 0 vs xs
 have hTT := Bh vs xs 0
 have hT1 := Bf hT 60
 have htree := B3 (fun i hi k hk => hp.nodes.kids i hi k hk) hc.hi
 have hmem := hp.nodes.mem hc.hi
 rw [htree, DU, BE]
 rw [BE] at hgo
 obtain ⟨T, hTe⟩ : ∃ T, T = Co 0 vs xs := ⟨_, rfl⟩
 rw [← hTe] at hT hTT hT1 hgo ⊢
 have hks : (List.map (fun k => AD l k.toNat) (AF l i)).length = (AF l i).length := List.length_map ..
 generalize hnd : l.getD i default = nd at *
 generalize List.map (fun k => AD l k.toNat) (AF l i) = ks at *
 have hn := hn (by rw [hk]; decide)
 rw [hk, show AJ 10 = 2 from rfl] at hn
 have hj1 : 1 < (AF l i).length := by omega
 have hA1 := hA 1 hj1
 have hl1 : 1 < ks.length := by omega
 have hm1 : (1 : Int) < (ks.length : Int) := by omega
 rw [show Cf l nd (fun j e st => An l M f (kd l i j) e st) (fun i' e st => An l M f (kd l i' 0) e st) e a st = Cp (An l M f (kd l i 1) e st) fun b st2 => DO l nd (fun i' e st => An l M f (kd l i' 0) e st) a b st2 from (by unfold Cf; simp only [hk, Int.reduceEq, if_true, if_false])]
 have C0 := hgo 1 e xe hee (by omega) xo xp (fun _ => ie.mono _ (by omega))
 have RO := BO hp.nodes hp.big f (kd l i 1) e st (hp.nodes.Bt hc.hi 1) hee (by omega) hc.hst hc.h0 hcf
 unfold wB
 simp +contextual -dsimp (maxSteps := 2000000) only [↓SD, SU, simprocAttr, Ah, hk, xo, xp, xA, xc, ao, ap, aA, ac, A7, BW, Bx, BA, Aa, hA1, hl1, hm1]
 refine Cl _ _ T hT C0 (by simp +contextual -dsimp only [↓SD, SU, simprocAttr, wB]) (by simp +contextual -dsimp only [↓SD, SU, simprocAttr]) (by repeat (first | exact hTT | exact AX hTT | refine Am ?_ hT (by decide))) ?_
 intro r hp' hr R hRg
 obtain ⟨ro, rp, rq⟩ := hr.form
 obtain ⟨tv1, n1, us, xs1, rfl, hR2, hn1, hv⟩ := hr
 generalize An l M f (kd l i 1) e st = X at *
 obtain ⟨o, st2⟩ := X
 rw [BE]
 have hT' := BC 0 (vs ++ us) xs1
 have hTT' := Bh (vs ++ us) xs1 0
 have hT1' := Bf hT' 60
 obtain ⟨T', hTe'⟩ : ∃ T', T' = Co 0 (vs ++ us) xs1 := ⟨_, rfl⟩
 rw [← hTe'] at hT' hTT' hT1' ⊢
 have hTR : BN [60] (T' ++ R) = T' ++ BN [60] R := by
  unfold BN at hT1' ⊢
  rw [List.filter_append, hT1']
 have aq := fun hp => ia.pur hp
 rcases hv with ⟨v, hv, hx⟩ | ⟨hv, rfl⟩
 ·dsimp only at hv hR2 hn1 hx
  subst hv
  obtain ⟨hvok, hst20⟩ := RO.val v rfl
  have ROs := RO.steps
  have ROt := RO.trg
  have ROr := RO.rfg
  have ROf := RO.refs
  have ROk := RO.ok
  dsimp only at hvok hst20 ROs ROt ROr ROf ROk
  have gs := eq_true hst20
  have ha2 : a.ok l B st2.refs.length (700 * st2.steps) := EV.Ak ROf (by omega) hc.ha
  have ia2 := (ia.grow (EG (us := us))).mono (M - st2.steps) (by omega)
  have rA := fun hp => hx.Bv hp
  have rc := hx.cells
  have hst02 : ∀ {P : Prop}, st2.stop = 2 → P := fun h => absurd (hst20.symm.trans h) (by decide)
  unfold Cp
  dsimp only
  rw [show DO l nd (fun i' e st => An l M f (kd l i' 0) e st) a v st2 = Ce nd.s a v st2 from (by unfold DO; simp only [hk, Int.reduceEq, if_true, if_false])]
  have C := Wm l (vs ++ us) (M - st2.steps) b tv1 M st2 n1 nd.s a v xa r ia2 hx hst20 (fun u h => by subst h; exact ha2) (fun u h => by subst h; exact hvok) (fun u h => by subst h; rw [EV.ok] at ha2; exact Nat.le_trans ha2 hp.big) (fun u h => by subst h; rw [EV.ok] at hvok; exact Nat.le_trans hvok hp.big)
  obtain ⟨PS1, PS2, PS3⟩ := Wj nd.s a v st2
  unfold wB
  simp +contextual -dsimp (maxSteps := 2000000) only [↓SD, SU, simprocAttr, gs, ro, rp, rq, rA, rc, aq, xo, xp, xA, ao, ap, aA, ac, hk]
  refine Ae [60] C (by simp +contextual -dsimp only [↓SD, SU, simprocAttr, wB]) ?_
  rintro r2 hp2 ⟨n2, rfl, hn2, hv2⟩
  generalize Ce nd.s a v st2 = X at *
  obtain ⟨o2, st3⟩ := X
  dsimp only at PS1 PS2 PS3 hn2 hv2
  have hR3 : Dz l (vs ++ us) (M - st3.steps) st3.refs xs1 := by rw [PS1, PS2]; exact hR2
  have hv3 : (∃ v, o2 = some v ∧ IR l (vs ++ us) (M - st3.steps) v r2) ∨ (o2 = none ∧ r2 = .Cx) := by rw [PS1]; exact hv2
  have hf3 : r2.one = true ∧ (∀ hp, r2.AR hp = r2) ∧ (∀ hp, r2.pur hp = r2) := by
   rcases hv2 with ⟨w, _, h⟩ | ⟨_, rfl⟩
   ·exact ⟨h.one, h.AR, h.pur⟩
   ·exact ⟨rfl, fun _ => rfl, fun _ => rfl⟩
  obtain ⟨so, sp, sq⟩ := hf3
  unfold wB
  simp +contextual -dsimp (maxSteps := 2000000) only [↓SD, SU, simprocAttr, hTR, so, sp, sq]
  refine Af.post ((60, wB b tv1 M st3 n2) :: (61, ⟨tv1, false, 9, 1, st3.tr.map av⟩) :: T') ?_
  unfold wB
  simp +contextual -dsimp (maxSteps := 2000000) only [↓SD, SU, simprocAttr, so, sp, sq, PS3]
  refine ⟨by repeat (first | exact hTT' | exact AX hTT' | refine Am ?_ hT' (by decide)), ?_⟩
  have hend := (Ca (b := b) (tv := tv1) hTe' hR3 hn2 hv3).up
  unfold wB at hend
  rw [PS3] at hend
  exact hend
 ·dsimp only at hv
  subst hv
  have gs := eq_false (RO.stp rfl)
  unfold Cp wB
  dsimp only at gs ⊢
  simp +contextual -dsimp (maxSteps := 2000000) only [↓SD, SU, simprocAttr, gs, ro, rp, rq]
  refine Af.post ((60, wB b tv1 M st2 n1) :: (61, ⟨tv1, false, 9, 1, st2.tr.map av⟩) :: T') ?_
  unfold wB
  simp +contextual -dsimp (maxSteps := 2000000) only [↓SD, SU, simprocAttr]
  refine ⟨by repeat (first | exact hTT' | exact AX hTT' | refine Am ?_ hT' (by decide)), ?_⟩
  exact (Ca hTe' hR2 hn1 (.inr ⟨rfl, rfl⟩)).up
set_option maxHeartbeats 8000000 in
theorem AdW {l : List Node} {B M b f : Nat} (hp : Cb l B) (hM : M ≤ 100000) (hE : EvI l B M b f) (i : Nat) (e : EE) (a : EV) (st : ES) (tv : Nat) (n : Int) (vs : List Nat) (xs : List AV) (xe xa : AV) (hc : M1 l B M f i e a st) (hR : Dz l vs (M - st.steps) st.refs xs) (ie : IRE l vs (M - st.steps) e xe) (ia : IR l vs (M - st.steps) a xa) (hk : (l.getD i default).kind = 11) : Ay Tryz.prog 57 [.ptr 60 b 0 0, av (AD l i), xa, xe] (iH b tv M st n vs xs) (Di l vs b M (Cf l (l.getD i default) (fun j e st => An l M f (kd l i j) e st) (fun i' e st => An l M f (kd l i' 0) e st) e a st)) := by
 refine Ah.H rfl ?_
 have xo := ie.one
 have xp := fun hp => ie.AR hp
 have xA := fun hp => ie.Bv hp
 have ao := ia.one
 have ap := fun hp => ia.AR hp
 have aA := fun hp => ia.Bv hp
 have ac := ia.cells
 have xc := ie.cells
 have hsM := hc.hst.steps
 have hcf := hc.hf
 have hcl := hc.hl
 have hst0 : ∀ {P : Prop}, st.stop = 2 → P := fun h => absurd (hc.h0.symm.trans h) (by decide)
 have hgo : ∀ (j : Nat) (e' : EE) (xe' : AV), e'.ok l B st.refs.length (700 * (st.steps + 1)) → e'.len ≤ 700 * (st.steps + 1) → xe'.one = true → (∀ hp, xe'.AR hp = xe') → (st.steps < M → IRE l vs (M - (st.steps + 1)) e' xe') → Ay Tryz.prog 24 [.ptr 60 b 0 0, av (AD l (kd l i j)), xe'] (iH b tv M st n vs xs) (Di l vs b M (An l M f (kd l i j) e' st)) := fun j e' xe' h1 h2 h3 h4 h5 => hE (kd l i j) e' st tv n vs xs xe' ⟨hp.nodes.Bt hc.hi j, h1, h2, hc.hst, hc.h0, hcf⟩ hR h3 h4 h5
 have hee : e.ok l B st.refs.length (700 * (st.steps + 1)) := EE.Ak (Nat.le_refl _) (by omega) hc.he
 have haa : a.ok l B st.refs.length (700 * (st.steps + 1)) := EV.Ak (Nat.le_refl _) (by omega) hc.ha
 have hs := hp.nodes.str _ (hp.nodes.mem hc.hi)
 have hn := fun h => Il hp hc.hi h
 have hA := fun j hj => G6 l i j hj
 have hT := BC 0 vs xs
 have hTT := Bh vs xs 0
 have hT1 := Bf hT 60
 have htree := B3 (fun i hi k hk => hp.nodes.kids i hi k hk) hc.hi
 have hmem := hp.nodes.mem hc.hi
 rw [htree, DU, BE]
 rw [BE] at hgo
 obtain ⟨T, hTe⟩ : ∃ T, T = Co 0 vs xs := ⟨_, rfl⟩
 rw [← hTe] at hT hTT hT1 hgo ⊢
 have hks : (List.map (fun k => AD l k.toNat) (AF l i)).length = (AF l i).length := List.length_map ..
 generalize hnd : l.getD i default = nd at *
 generalize List.map (fun k => AD l k.toNat) (AF l i) = ks at *
 have hn := hn (by rw [hk]; decide)
 rw [hk, show AJ 11 = 2 from rfl] at hn
 have hj1 : 1 < (AF l i).length := by omega
 have hA1 := hA 1 hj1
 have hl1 : 1 < ks.length := by omega
 have hm1 : (1 : Int) < (ks.length : Int) := by omega
 rw [show Cf l nd (fun j e st => An l M f (kd l i j) e st) (fun i' e st => An l M f (kd l i' 0) e st) e a st = Cp (An l M f (kd l i 1) e st) fun b st2 => DO l nd (fun i' e st => An l M f (kd l i' 0) e st) a b st2 from (by unfold Cf; simp only [hk, Int.reduceEq, if_true, if_false])]
 have C0 := hgo 1 e xe hee (by omega) xo xp (fun _ => ie.mono _ (by omega))
 have RO := BO hp.nodes hp.big f (kd l i 1) e st (hp.nodes.Bt hc.hi 1) hee (by omega) hc.hst hc.h0 hcf
 unfold wB
 simp +contextual -dsimp (maxSteps := 2000000) only [↓SD, SU, simprocAttr, Ah, hk, xo, xp, xA, xc, ao, ap, aA, ac, A7, BW, Bx, BA, Aa, hA1, hl1, hm1]
 refine Cl _ _ T hT C0 (by simp +contextual -dsimp only [↓SD, SU, simprocAttr, wB]) (by simp +contextual -dsimp only [↓SD, SU, simprocAttr]) (by repeat (first | exact hTT | exact AX hTT | refine Am ?_ hT (by decide))) ?_
 intro r hp' hr R hRg
 obtain ⟨ro, rp, rq⟩ := hr.form
 obtain ⟨tv1, n1, us, xs1, rfl, hR2, hn1, hv⟩ := hr
 generalize An l M f (kd l i 1) e st = X at *
 obtain ⟨o, st2⟩ := X
 rw [BE]
 have hT' := BC 0 (vs ++ us) xs1
 have hTT' := Bh (vs ++ us) xs1 0
 have hT1' := Bf hT' 60
 obtain ⟨T', hTe'⟩ : ∃ T', T' = Co 0 (vs ++ us) xs1 := ⟨_, rfl⟩
 rw [← hTe'] at hT' hTT' hT1' ⊢
 have hTR : BN [60] (T' ++ R) = T' ++ BN [60] R := by
  unfold BN at hT1' ⊢
  rw [List.filter_append, hT1']
 have aq := fun hp => ia.pur hp
 rcases hv with ⟨v, hv, hx⟩ | ⟨hv, rfl⟩
 ·dsimp only at hv hR2 hn1 hx
  subst hv
  obtain ⟨hvok, hst20⟩ := RO.val v rfl
  have ROs := RO.steps
  have ROt := RO.trg
  have ROr := RO.rfg
  have ROf := RO.refs
  have ROk := RO.ok
  dsimp only at hvok hst20 ROs ROt ROr ROf ROk
  have gs := eq_true hst20
  have ha2 : a.ok l B st2.refs.length (700 * st2.steps) := EV.Ak ROf (by omega) hc.ha
  have ia2 := (ia.grow (EG (us := us))).mono (M - st2.steps) (by omega)
  have rA := fun hp => hx.Bv hp
  have rc := hx.cells
  have hst02 : ∀ {P : Prop}, st2.stop = 2 → P := fun h => absurd (hst20.symm.trans h) (by decide)
  unfold Cp
  dsimp only
  rw [show DO l nd (fun i' e st => An l M f (kd l i' 0) e st) a v st2 = (some (.pair a v), st2) from (by unfold DO; simp only [hk, Int.reduceEq, if_true, if_false])]
  unfold wB
  simp +contextual -dsimp (maxSteps := 2000000) only [↓SD, SU, simprocAttr, gs, ro, rp, rq, rA, rc, aq, xo, xp, xA, ao, ap, aA, ac, hk]
  refine Af.post ((60, wB b tv1 M st2 n1) :: (61, ⟨tv1, false, 9, 1, st2.tr.map av⟩) :: T') ?_
  unfold wB
  simp +contextual -dsimp (maxSteps := 2000000) only [↓SD, SU, simprocAttr, ro, rp, rq, ao, ap]
  refine ⟨by repeat (first | exact hTT' | exact AX hTT' | refine Am ?_ hT' (by decide)), ?_⟩
  exact (Ca hTe' hR2 hn1 (.inl ⟨_, rfl, .pair _ _ _ _ _ ia2 hx⟩)).up
 ·dsimp only at hv
  subst hv
  have gs := eq_false (RO.stp rfl)
  unfold Cp wB
  dsimp only at gs ⊢
  simp +contextual -dsimp (maxSteps := 2000000) only [↓SD, SU, simprocAttr, gs, ro, rp, rq]
  refine Af.post ((60, wB b tv1 M st2 n1) :: (61, ⟨tv1, false, 9, 1, st2.tr.map av⟩) :: T') ?_
  unfold wB
  simp +contextual -dsimp (maxSteps := 2000000) only [↓SD, SU, simprocAttr]
  refine ⟨by repeat (first | exact hTT' | exact AX hTT' | refine Am ?_ hT' (by decide)), ?_⟩
  exact (Ca hTe' hR2 hn1 (.inr ⟨rfl, rfl⟩)).up
set_option maxHeartbeats 8000000 in
theorem AdR {l : List Node} {B M b f : Nat} (hp : Cb l B) (hM : M ≤ 100000) (hE : EvI l B M b f) (i : Nat) (e : EE) (a : EV) (st : ES) (tv : Nat) (n : Int) (vs : List Nat) (xs : List AV) (xe xa : AV) (hc : M1 l B M f i e a st) (hR : Dz l vs (M - st.steps) st.refs xs) (ie : IRE l vs (M - st.steps) e xe) (ia : IR l vs (M - st.steps) a xa) (hk : (l.getD i default).kind = 18) : Ay Tryz.prog 57 [.ptr 60 b 0 0, av (AD l i), xa, xe] (iH b tv M st n vs xs) (Di l vs b M (Cf l (l.getD i default) (fun j e st => An l M f (kd l i j) e st) (fun i' e st => An l M f (kd l i' 0) e st) e a st)) := by
 refine Ah.H rfl ?_
 have xo := ie.one
 have xp := fun hp => ie.AR hp
 have xA := fun hp => ie.Bv hp
 have ao := ia.one
 have ap := fun hp => ia.AR hp
 have aA := fun hp => ia.Bv hp
 have ac := ia.cells
 have xc := ie.cells
 have hsM := hc.hst.steps
 have hcf := hc.hf
 have hcl := hc.hl
 have hst0 : ∀ {P : Prop}, st.stop = 2 → P := fun h => absurd (hc.h0.symm.trans h) (by decide)
 have hgo : ∀ (j : Nat) (e' : EE) (xe' : AV), e'.ok l B st.refs.length (700 * (st.steps + 1)) → e'.len ≤ 700 * (st.steps + 1) → xe'.one = true → (∀ hp, xe'.AR hp = xe') → (st.steps < M → IRE l vs (M - (st.steps + 1)) e' xe') → Ay Tryz.prog 24 [.ptr 60 b 0 0, av (AD l (kd l i j)), xe'] (iH b tv M st n vs xs) (Di l vs b M (An l M f (kd l i j) e' st)) := fun j e' xe' h1 h2 h3 h4 h5 => hE (kd l i j) e' st tv n vs xs xe' ⟨hp.nodes.Bt hc.hi j, h1, h2, hc.hst, hc.h0, hcf⟩ hR h3 h4 h5
 have hee : e.ok l B st.refs.length (700 * (st.steps + 1)) := EE.Ak (Nat.le_refl _) (by omega) hc.he
 have haa : a.ok l B st.refs.length (700 * (st.steps + 1)) := EV.Ak (Nat.le_refl _) (by omega) hc.ha
 have hs := hp.nodes.str _ (hp.nodes.mem hc.hi)
 have hn := fun h => Il hp hc.hi h
 have hA := fun j hj => G6 l i j hj
 have hT := BC 0 vs xs
 have hTT := Bh vs xs 0
 have hT1 := Bf hT 60
 have htree := B3 (fun i hi k hk => hp.nodes.kids i hi k hk) hc.hi
 have hmem := hp.nodes.mem hc.hi
 rw [htree, DU, BE]
 rw [BE] at hgo
 obtain ⟨T, hTe⟩ : ∃ T, T = Co 0 vs xs := ⟨_, rfl⟩
 rw [← hTe] at hT hTT hT1 hgo ⊢
 have hks : (List.map (fun k => AD l k.toNat) (AF l i)).length = (AF l i).length := List.length_map ..
 generalize hnd : l.getD i default = nd at *
 generalize List.map (fun k => AD l k.toNat) (AF l i) = ks at *
 have hn := hn (by rw [hk]; decide)
 rw [hk, show AJ 18 = 2 from rfl] at hn
 have hj1 : 1 < (AF l i).length := by omega
 have hA1 := hA 1 hj1
 have hl1 : 1 < ks.length := by omega
 have hm1 : (1 : Int) < (ks.length : Int) := by omega
 rw [show Cf l nd (fun j e st => An l M f (kd l i j) e st) (fun i' e st => An l M f (kd l i' 0) e st) e a st = Cp (An l M f (kd l i 1) e st) fun b st2 => DO l nd (fun i' e st => An l M f (kd l i' 0) e st) a b st2 from (by unfold Cf; simp only [hk, Int.reduceEq, if_true, if_false])]
 have C0 := hgo 1 e xe hee (by omega) xo xp (fun _ => ie.mono _ (by omega))
 have RO := BO hp.nodes hp.big f (kd l i 1) e st (hp.nodes.Bt hc.hi 1) hee (by omega) hc.hst hc.h0 hcf
 unfold wB
 simp +contextual -dsimp (maxSteps := 2000000) only [↓SD, SU, simprocAttr, Ah, hk, xo, xp, xA, xc, ao, ap, aA, ac, A7, BW, Bx, BA, Aa, hA1, hl1, hm1]
 refine Cl _ _ T hT C0 (by simp +contextual -dsimp only [↓SD, SU, simprocAttr, wB]) (by simp +contextual -dsimp only [↓SD, SU, simprocAttr]) (by repeat (first | exact hTT | exact AX hTT | refine Am ?_ hT (by decide))) ?_
 intro r hp' hr R hRg
 obtain ⟨ro, rp, rq⟩ := hr.form
 obtain ⟨tv1, n1, us, xs1, rfl, hR2, hn1, hv⟩ := hr
 generalize An l M f (kd l i 1) e st = X at *
 obtain ⟨o, st2⟩ := X
 rw [BE]
 have hT' := BC 0 (vs ++ us) xs1
 have hTT' := Bh (vs ++ us) xs1 0
 have hT1' := Bf hT' 60
 obtain ⟨T', hTe'⟩ : ∃ T', T' = Co 0 (vs ++ us) xs1 := ⟨_, rfl⟩
 rw [← hTe'] at hT' hTT' hT1' ⊢
 have hTR : BN [60] (T' ++ R) = T' ++ BN [60] R := by
  unfold BN at hT1' ⊢
  rw [List.filter_append, hT1']
 have aq := fun hp => ia.pur hp
 rcases hv with ⟨v, hv, hx⟩ | ⟨hv, rfl⟩
 ·dsimp only at hv hR2 hn1 hx
  subst hv
  obtain ⟨hvok, hst20⟩ := RO.val v rfl
  have ROs := RO.steps
  have ROt := RO.trg
  have ROr := RO.rfg
  have ROf := RO.refs
  have ROk := RO.ok
  dsimp only at hvok hst20 ROs ROt ROr ROf ROk
  have gs := eq_true hst20
  have ha2 : a.ok l B st2.refs.length (700 * st2.steps) := EV.Ak ROf (by omega) hc.ha
  have ia2 := (ia.grow (EG (us := us))).mono (M - st2.steps) (by omega)
  have rA := fun hp => hx.Bv hp
  have rc := hx.cells
  have hst02 : ∀ {P : Prop}, st2.stop = 2 → P := fun h => absurd (hst20.symm.trans h) (by decide)
  unfold Cp
  dsimp only
  by_cases ha : a.ik = 8
  ·have hu : ∃ j, a = .ref j := by cases a <;> simp [EV.ik] at ha <;> exact ⟨_, rfl⟩
   obtain ⟨j, rfl⟩ := hu
   obtain ⟨u, y, rfl, hv, hg, hy0, hy⟩ := Xw ia2 hR2
   rw [← hTe'] at hg
   rw [show DO l nd (fun i' e st => An l M f (kd l i' 0) e st) (.ref j) v st2 = (some .unit, { st2 with refs := st2.refs.set j v }) from (by unfold DO; simp only [hk, Int.reduceEq, if_true, if_false])]
   have q0 := Og j
   have hset : ∀ b1 b2, Bg ((RN j, ⟨u, false, 65, 1, [r]⟩) :: (60, b1) :: (61, b2) :: (T' ++ R)) (Co 0 (vs ++ us) (xs1.set j r)) := fun b1 b2 => TI hv (by rw [← hTe']; exact Am (Am (AX hTT') hT' (by decide)) hT' (by decide))
   have hG : ∀ b1 b2, Aw ((60, b1) :: (61, b2) :: (T' ++ R)) (RN j) = some ⟨u, false, 65, 1, [y]⟩ := fun _ _ => by rw [D5 (by omega), D5 (by omega), Sz, hg]; rfl
   have ys := hy.Gd r
   have yc := hy.cells
   have rk := hx.ok
   generalize RN j = q at *
   unfold ivA wB
   simp +contextual -dsimp (maxSteps := 2000000) only [↓SD, SU, simprocAttr, gs, ro, rp, rq, rA, rc, aq, xo, xp, xA, ao, ap, aA, ac, hk, hG, ys, yc, rk]
   refine Af.post ((60, wB b tv1 M st2 n1) :: (61, ⟨tv1, false, 9, 1, st2.tr.map av⟩) :: Co 0 (vs ++ us) (xs1.set j r)) ?_
   unfold wB
   simp +contextual -dsimp (maxSteps := 2000000) only [↓SD, SU, simprocAttr]
   refine ⟨⟨by rw [D5 (by omega)]; exact Cj, by rw [D5 (by omega), D5 (by decide)]; exact Cj, hset _ _⟩, ?_⟩
   exact Di.up ⟨tv1, n1, [], xs1.set j r, by rw [List.append_nil]; rfl, by rw [List.append_nil]; exact hR2.set j hx, fun h => hst02 h, .inl ⟨_, rfl, .unit _⟩⟩
  ·have hu : True := trivial
   rw [show DO l nd (fun i' e st => An l M f (kd l i' 0) e st) a v st2 = (none, st2.bad) from (by unfold DO; simp only [hk, Int.reduceEq, if_true, if_false] <;> (cases a <;> first | rfl | exact absurd rfl ha))]
   obtain ⟨A', B', C', rfl⟩ := Cs ia2
   have g := eq_false ha
   unfold wB
   simp +contextual -dsimp (maxSteps := 2000000) only [↓SD, SU, simprocAttr, gs, ro, rp, rq, rA, rc, aq, xo, xp, xA, ao, ap, aA, ac, hk, g]
   refine Ae [60] (DE b tv1 M st2 n1) (by simp +contextual -dsimp only [↓SD, SU, simprocAttr, wB]) ?_
   rintro r hp' ⟨rfl, rfl⟩
   unfold wB
   simp +contextual -dsimp (maxSteps := 2000000) only [↓SD, SU, simprocAttr, hTR]
   refine Af.post ((60, wB b tv1 M st2.bad n1) :: (61, ⟨tv1, false, 9, 1, st2.tr.map av⟩) :: T') ?_
   unfold wB
   simp +contextual -dsimp (maxSteps := 2000000) only [↓SD, SU, simprocAttr, show st2.bad.inp = st2.inp from rfl, show st2.bad.tr = st2.tr from rfl, show st2.bad.steps = st2.steps from rfl, show st2.bad.stop = 4 from rfl]
   refine ⟨by repeat (first | exact hTT' | exact AX hTT' | refine Am ?_ hT' (by decide)), ?_⟩
   exact (Ca (st := st2.bad) hTe' hR2 (fun h => absurd (show (4 : Int) = 2 from h) (by decide)) (.inr ⟨rfl, rfl⟩)).up
 ·dsimp only at hv
  subst hv
  have gs := eq_false (RO.stp rfl)
  unfold Cp wB
  dsimp only at gs ⊢
  simp +contextual -dsimp (maxSteps := 2000000) only [↓SD, SU, simprocAttr, gs, ro, rp, rq]
  refine Af.post ((60, wB b tv1 M st2 n1) :: (61, ⟨tv1, false, 9, 1, st2.tr.map av⟩) :: T') ?_
  unfold wB
  simp +contextual -dsimp (maxSteps := 2000000) only [↓SD, SU, simprocAttr]
  refine ⟨by repeat (first | exact hTT' | exact AX hTT' | refine Am ?_ hT' (by decide)), ?_⟩
  exact (Ca hTe' hR2 hn1 (.inr ⟨rfl, rfl⟩)).up
end Go.Proofs.YtjbcnilllfaipaaGreat
