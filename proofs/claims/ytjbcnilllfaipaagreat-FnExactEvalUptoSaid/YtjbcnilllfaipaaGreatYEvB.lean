/-
 THE PROGRAM'S EVALUATOR: what comes behind a node's first part. Conditions: none. Printed by evb.py.
-/
import Derived.Test.YtjbcnilllfaipaaGreatYJ37
set_option linter.unusedVariables false
set_option linter.unusedSimpArgs false
set_option maxRecDepth 100000
namespace Go.Proofs.YtjbcnilllfaipaaGreat
open Go.RowKit Go.Proofs.YtjbcnilllfaipaaGreat.Av Go.Proofs.YtjbcnilllfaipaaGreat.Ml
open Go.Proofs.YtjbcnilllfaipaaGreat.Av.AVal (av)

theorem JP : ∀ {vs : List Nat} {xs : List AV} {j k u : Nat} {x : AV}, vs[k]? = some u → xs[k]? = some x → Aw (Co j vs xs) (RN (j + k)) = some ⟨u, false, 65, 1, [x]⟩
 | [], xs, j, k, u, x, h, _ => by simp at h
 | v :: vs, [], j, k, u, x, _, h => by simp at h
 | v :: vs, y :: xs, j, 0, u, x, h, h2 => by
  simp only [List.getElem?_cons_zero, Option.some.injEq] at h h2
  subst h h2
  rw [Co]
  exact Cj
 | v :: vs, y :: xs, j, k + 1, u, x, h, h2 => by
  simp only [List.getElem?_cons_succ] at h h2
  rw [Co, D5 (fun e => by have := R9 e; omega), show j + (k + 1) = j + 1 + k by omega]
  exact JP h h2
theorem NP {hp : Hp} : ∀ (vs : List Nat) (xs : List AV) (j : Nat), (∀ (k u : Nat) (x : AV), vs[k]? = some u → xs[k]? = some x → Aw hp (RN (j + k)) = some ⟨u, false, 65, 1, [x]⟩) → Bg hp (Co j vs xs)
 | [], xs, j, _ => by simp [Co]; trivial
 | v :: vs, [], j, _ => by simp [Co]; trivial
 | v :: vs, x :: xs, j, h => by
  rw [Co, Dt]
  exact ⟨h 0 v x rfl rfl, NP vs xs (j + 1) fun k u y h1 h2 => by rw [show j + 1 + k = j + (k + 1) by omega]; exact h (k + 1) u y (by simpa using h1) (by simpa using h2)⟩
theorem VR.Adm {S : Nat → Prop} {w : World} {μ : Mu} {x : Value} {cs : List AV} {off j k v v' n : Nat} (e : μ k v' = μ j v) (hc : cs[off]? = some (.row j v n)) (h : Av.VR S w μ x (.obj cs)) : Av.VR S w μ x (.obj (cs.set off (.row k v' n))) := h.Sk rfl fun y u hy hu => by rw [hc] at hy; cases hy; exact hu.ren e
theorem Af.Adn {s : St} {T : St → Prop} (i off j k : Nat) {v n : Nat} {cs : List AV} {b : Box} (hi : BJ s.fr i = .obj cs) (hc : cs[off]? = some (.row j v n)) (hb : Aw s.hp j = some b) (hv : b.ver = v)
  (h : ∀ v', Af ⟨(i, .obj (cs.set off (.row k v' n))) :: s.fr, (k, ⟨v', b.frz, b.ty, b.esz, b.es⟩) :: BN [j] s.hp⟩ T) : Af s T :=
 Af.Ado (fun v' => (i, .obj (cs.set off (.row k v' n))) :: s.fr) j k hb hv (fun v' S w μ a e hf => SA hf (VR.Adm e hc (hi ▸ hf i))) h
theorem Dz.snoc {l : List Node} {vs : List Nat} {m : Nat} {rs : List EV} {xs : List AV} {a : EV} {x : AV} (h : Dz l vs m rs xs) (v : Nat) (ha : IR l vs m a x) : Dz l (vs ++ [v]) m (rs ++ [a]) (xs ++ [x]) := by
 obtain ⟨h1, h2, h3⟩ := h
 refine ⟨by simp [h1], by simp [h2], fun j j1 j2 => ?_⟩
 rw [List.getElem_append, List.getElem_append]
 by_cases hj : j < rs.length
 ·rw [dif_pos hj, dif_pos (by omega)]
  exact (h3 j hj (by omega)).grow EG
 ·rw [dif_neg hj, dif_neg (by omega)]
  simp only [List.getElem_singleton]
  exact ha.grow EG
theorem Sa {hp : Hp} {vs : List Nat} {xs : List AV} {v : Nat} {x : AV} (hl : vs.length = xs.length) (h : Bg hp (Co 0 vs xs)) (h2 : Aw hp (RN vs.length) = some ⟨v, false, 65, 1, [x]⟩) : Bg hp (Co 0 (vs ++ [v]) (xs ++ [x])) := by
 refine NP _ _ 0 fun k u y h3 h4 => ?_
 rw [Nat.zero_add]
 rw [List.getElem?_append] at h3 h4
 by_cases hk : k < vs.length
 ·rw [if_pos hk] at h3
  rw [if_pos (by omega)] at h4
  have h5 := JP (j := 0) h3 h4
  rw [Nat.zero_add] at h5
  exact A3.1 h _ (Sy h5)
 ·rw [if_neg hk] at h3
  rw [if_neg (by omega)] at h4
  have h6 : k = vs.length := by
   rcases Nat.lt_or_ge (k - vs.length) 1 with h | h
   ·omega
   ·rw [List.getElem?_eq_none (by simpa using h)] at h3; cases h3
  subst h6
  simp only [Nat.sub_self, List.getElem?_cons_zero, Option.some.injEq] at h3
  rw [← hl] at h4
  simp only [Nat.sub_self, List.getElem?_cons_zero, Option.some.injEq] at h4
  rw [h2, h3, h4]
theorem Xw {l : List Node} {vs : List Nat} {m m' j : Nat} {rs : List EV} {xs : List AV} {x : AV} (h : IR l vs m (.ref j) x) (hR : Dz l vs m' rs xs) : ∃ (u : Nat) (y : AV), x = ivA 8 0 (bs []) (.row (RN j) u 1) ∧ vs[j]? = some u ∧ Aw (Co 0 vs xs) (RN j) = some ⟨u, false, 65, 1, [y]⟩ ∧ xs[j]? = some y ∧ IR l vs m' (rs.getD j default) y := by
 cases h with
 | ref m j u h =>
  obtain ⟨h1, h2, h3⟩ := hR
  have hj : j < vs.length := (List.getElem?_eq_some_iff.1 h).1
  have hx : xs[j]? = some xs[j] := List.getElem?_eq_getElem (by omega)
  have := JP (j := 0) h hx
  rw [Nat.zero_add] at this
  refine ⟨u, xs[j], rfl, h, this, hx, ?_⟩
  rw [show rs.getD j default = rs[j]'(by omega) from (List.getElem_eq_getD _).symm]
  exact h3 j (by omega) (by omega)
set_option maxHeartbeats 8000000 in
theorem Aem {l : List Node} {B M b f : Nat} (hp : Cb l B) (hM : M ≤ 100000) (hE : EvI l B M b f) (i : Nat) (e : EE) (a : EV) (st : ES) (tv : Nat) (n : Int) (vs : List Nat) (xs : List AV) (xe xa : AV) (hc : M1 l B M f i e a st) (hR : Dz l vs (M - st.steps) st.refs xs) (ie : IRE l vs (M - st.steps) e xe) (ia : IR l vs (M - st.steps) a xa) (hk : (l.getD i default).kind = 7) : Ay Tryz.prog 57 [.ptr 60 b 0 0, av (AD l i), xa, xe] (iH b tv M st n vs xs) (Di l vs b M (Cf l (l.getD i default) (fun j e st => An l M f (kd l i j) e st) (fun i' e st => An l M f (kd l i' 0) e st) e a st)) := by
 refine Ah.H rfl ?_
 have xo := ie.one
 have xp := fun hp => ie.AR hp
 have xA := fun hp => ie.Bv hp
 have ao := ia.one
 have ap := fun hp => ia.AR hp
 have aA := fun hp => ia.Bv hp
 have ac := ia.cells
 have xc := ie.cells
 have hsM := hc.hst.steps
 have hcf := hc.hf
 have hcl := hc.hl
 have hst0 : ∀ {P : Prop}, st.stop = 2 → P := fun h => absurd (hc.h0.symm.trans h) (by decide)
 have hgo : ∀ (j : Nat) (e' : EE) (xe' : AV), e'.ok l B st.refs.length (700 * (st.steps + 1)) → e'.len ≤ 700 * (st.steps + 1) → xe'.one = true → (∀ hp, xe'.AR hp = xe') → (st.steps < M → IRE l vs (M - (st.steps + 1)) e' xe') → Ay Tryz.prog 24 [.ptr 60 b 0 0, av (AD l (kd l i j)), xe'] (iH b tv M st n vs xs) (Di l vs b M (An l M f (kd l i j) e' st)) := fun j e' xe' h1 h2 h3 h4 h5 => hE (kd l i j) e' st tv n vs xs xe' ⟨hp.nodes.Bt hc.hi j, h1, h2, hc.hst, hc.h0, hcf⟩ hR h3 h4 h5
 have hee : e.ok l B st.refs.length (700 * (st.steps + 1)) := EE.Ak (Nat.le_refl _) (by omega) hc.he
 have haa : a.ok l B st.refs.length (700 * (st.steps + 1)) := EV.Ak (Nat.le_refl _) (by omega) hc.ha
 have hs := hp.nodes.str _ (hp.nodes.mem hc.hi)
 have hn := fun h => Il hp hc.hi h
 have hA := fun j hj => G6 l i j hj
 have hT := BC 0 vs xs
 have hTT := Bh vs xs 0
 have hT1 := Bf hT 60
 have htree := B3 (fun i hi k hk => hp.nodes.kids i hi k hk) hc.hi
 have hmem := hp.nodes.mem hc.hi
 rw [htree, DU, BE]
 rw [BE] at hgo
 obtain ⟨T, hTe⟩ : ∃ T, T = Co 0 vs xs := ⟨_, rfl⟩
 rw [← hTe] at hT hTT hT1 hgo ⊢
 have hks : (List.map (fun k => AD l k.toNat) (AF l i)).length = (AF l i).length := List.length_map ..
 generalize hnd : l.getD i default = nd at *
 generalize List.map (fun k => AD l k.toNat) (AF l i) = ks at *
 have hn := hn (by rw [hk]; decide)
 rw [hk, show AJ 7 = 2 from rfl] at hn
 have hj1 : 1 < (AF l i).length := by omega
 have hA1 := hA 1 hj1
 have hl1 : 1 < ks.length := by omega
 have hm1 : (1 : Int) < (ks.length : Int) := by omega
 rw [show Cf l nd (fun j e st => An l M f (kd l i j) e st) (fun i' e st => An l M f (kd l i' 0) e st) e a st = An l M f (kd l i 1) (.cons nd.s a e) st from (by unfold Cf; simp only [hk, Int.reduceEq, if_true, if_false])]
 unfold wB
 simp +contextual -dsimp (maxSteps := 2000000) only [↓SD, SU, simprocAttr, Ah, hk, xo, xp, xA, xc, ao, ap, aA, ac, A7, BW, Bx, BA, Aa, hA1, hl1, hm1]
 have C := hgo 1 (.cons nd.s a e) (.obj [.str nd.s, xa, xe]) (by rw [EE.ok]; exact ⟨hs, haa, hee⟩) (by rw [EE.len]; omega) rfl (fun _ => rfl) (fun hlt => .cons _ _ _ _ _ _ (ia.mono _ (by omega)) (ie.mono _ (by omega)))
 refine Cl _ _ T hT C (by simp +contextual -dsimp only [↓SD, SU, simprocAttr, wB]) (by simp +contextual -dsimp only [↓SD, SU, simprocAttr]) (by repeat (first | exact hTT | exact AX hTT | refine Am ?_ hT (by decide))) ?_
 intro r2 hp2 hr2 R2 hRg2
 obtain ⟨so, sp, sq⟩ := hr2.form
 have hs2 := hr2.self
 simp +contextual -dsimp (maxSteps := 2000000) only [↓SD, SU, simprocAttr, so, sp, sq]
 refine Af.post hp2 ?_
 simp +contextual -dsimp (maxSteps := 2000000) only [↓SD, SU, simprocAttr, so, sp, sq]
 exact ⟨AX hs2, hr2⟩
set_option maxHeartbeats 8000000 in
theorem AdQ {l : List Node} {B M b f : Nat} (hp : Cb l B) (hM : M ≤ 100000) (hE : EvI l B M b f) (i : Nat) (e : EE) (a : EV) (st : ES) (tv : Nat) (n : Int) (vs : List Nat) (xs : List AV) (xe xa : AV) (hc : M1 l B M f i e a st) (hR : Dz l vs (M - st.steps) st.refs xs) (ie : IRE l vs (M - st.steps) e xe) (ia : IR l vs (M - st.steps) a xa) (hk : (l.getD i default).kind = 19) : Ay Tryz.prog 57 [.ptr 60 b 0 0, av (AD l i), xa, xe] (iH b tv M st n vs xs) (Di l vs b M (Cf l (l.getD i default) (fun j e st => An l M f (kd l i j) e st) (fun i' e st => An l M f (kd l i' 0) e st) e a st)) := by
 refine Ah.H rfl ?_
 have xo := ie.one
 have xp := fun hp => ie.AR hp
 have xA := fun hp => ie.Bv hp
 have ao := ia.one
 have ap := fun hp => ia.AR hp
 have aA := fun hp => ia.Bv hp
 have ac := ia.cells
 have xc := ie.cells
 have hsM := hc.hst.steps
 have hcf := hc.hf
 have hcl := hc.hl
 have hst0 : ∀ {P : Prop}, st.stop = 2 → P := fun h => absurd (hc.h0.symm.trans h) (by decide)
 have hgo : ∀ (j : Nat) (e' : EE) (xe' : AV), e'.ok l B st.refs.length (700 * (st.steps + 1)) → e'.len ≤ 700 * (st.steps + 1) → xe'.one = true → (∀ hp, xe'.AR hp = xe') → (st.steps < M → IRE l vs (M - (st.steps + 1)) e' xe') → Ay Tryz.prog 24 [.ptr 60 b 0 0, av (AD l (kd l i j)), xe'] (iH b tv M st n vs xs) (Di l vs b M (An l M f (kd l i j) e' st)) := fun j e' xe' h1 h2 h3 h4 h5 => hE (kd l i j) e' st tv n vs xs xe' ⟨hp.nodes.Bt hc.hi j, h1, h2, hc.hst, hc.h0, hcf⟩ hR h3 h4 h5
 have hee : e.ok l B st.refs.length (700 * (st.steps + 1)) := EE.Ak (Nat.le_refl _) (by omega) hc.he
 have haa : a.ok l B st.refs.length (700 * (st.steps + 1)) := EV.Ak (Nat.le_refl _) (by omega) hc.ha
 have hs := hp.nodes.str _ (hp.nodes.mem hc.hi)
 have hn := fun h => Il hp hc.hi h
 have hA := fun j hj => G6 l i j hj
 have hT := BC 0 vs xs
 have hTT := Bh vs xs 0
 have hT1 := Bf hT 60
 have htree := B3 (fun i hi k hk => hp.nodes.kids i hi k hk) hc.hi
 have hmem := hp.nodes.mem hc.hi
 rw [htree, DU, BE]
 rw [BE] at hgo
 obtain ⟨T, hTe⟩ : ∃ T, T = Co 0 vs xs := ⟨_, rfl⟩
 rw [← hTe] at hT hTT hT1 hgo ⊢
 have hks : (List.map (fun k => AD l k.toNat) (AF l i)).length = (AF l i).length := List.length_map ..
 generalize hnd : l.getD i default = nd at *
 generalize List.map (fun k => AD l k.toNat) (AF l i) = ks at *
 have hn := hn (by rw [hk]; decide)
 rw [hk, show AJ 19 = 2 from rfl] at hn
 have hj1 : 1 < (AF l i).length := by omega
 have hA1 := hA 1 hj1
 have hl1 : 1 < ks.length := by omega
 have hm1 : (1 : Int) < (ks.length : Int) := by omega
 by_cases ha : a.ik = 3
 ·have hu : a = .unit := by cases a <;> simp [EV.ik] at ha <;> rfl
  subst hu
  cases ia
  rw [show Cf l nd (fun j e st => An l M f (kd l i j) e st) (fun i' e st => An l M f (kd l i' 0) e st) e .unit st = An l M f (kd l i 1) e st from (by unfold Cf; simp only [hk, Int.reduceEq, if_true, if_false])]
  unfold ivA
  unfold wB
  simp +contextual -dsimp (maxSteps := 2000000) only [↓SD, SU, simprocAttr, Ah, hk, xo, xp, xA, xc, ao, ap, aA, ac, A7, BW, Bx, BA, Aa, hA1, hl1, hm1]
  have C := hgo 1 e xe hee (by omega) xo xp (fun _ => ie.mono _ (by omega))
  refine Cl _ _ T hT C (by simp +contextual -dsimp only [↓SD, SU, simprocAttr, wB]) (by simp +contextual -dsimp only [↓SD, SU, simprocAttr]) (by repeat (first | exact hTT | exact AX hTT | refine Am ?_ hT (by decide))) ?_
  intro r2 hp2 hr2 R2 hRg2
  obtain ⟨so, sp, sq⟩ := hr2.form
  have hs2 := hr2.self
  simp +contextual -dsimp (maxSteps := 2000000) only [↓SD, SU, simprocAttr, so, sp, sq]
  refine Af.post hp2 ?_
  simp +contextual -dsimp (maxSteps := 2000000) only [↓SD, SU, simprocAttr, so, sp, sq]
  exact ⟨AX hs2, hr2⟩
 ·rw [show Cf l nd (fun j e st => An l M f (kd l i j) e st) (fun i' e st => An l M f (kd l i' 0) e st) e a st = (none, st.bad) from (by unfold Cf; simp only [hk, Int.reduceEq, if_true, if_false] <;> (cases a <;> first | rfl | exact absurd rfl ha))]
  obtain ⟨A', B', C', rfl⟩ := Cs ia
  have g := eq_false ha
  unfold wB
  simp +contextual -dsimp (maxSteps := 2000000) only [↓SD, SU, simprocAttr, Ah, hk, xo, xp, xA, xc, ao, ap, aA, ac, A7, BW, Bx, BA, Aa, hA1, hl1, hm1, g]
  refine Ae [60] (DE b tv M st n) (by simp +contextual -dsimp only [↓SD, SU, simprocAttr, wB]) ?_
  rintro r hp' ⟨rfl, rfl⟩
  unfold wB
  simp +contextual -dsimp (maxSteps := 2000000) only [↓SD, SU, simprocAttr, hT1]
  refine Af.post ((60, wB b tv M st.bad n) :: (61, ⟨tv, false, 9, 1, st.tr.map av⟩) :: T) ?_
  unfold wB
  simp +contextual -dsimp (maxSteps := 2000000) only [↓SD, SU, simprocAttr, show st.bad.inp = st.inp from rfl, show st.bad.tr = st.tr from rfl, show st.bad.steps = st.steps from rfl, show st.bad.stop = 4 from rfl]
  refine ⟨(by repeat (first | exact hTT | exact AX hTT | refine Am ?_ hT (by decide))), ?_⟩
  exact Ca (st := st.bad) hTe hR (fun h => absurd (show (4 : Int) = 2 from h) (by decide)) (.inr ⟨rfl, rfl⟩)
set_option maxHeartbeats 8000000 in
theorem AdU {l : List Node} {B M b f : Nat} (hp : Cb l B) (hM : M ≤ 100000) (hE : EvI l B M b f) (i : Nat) (e : EE) (a : EV) (st : ES) (tv : Nat) (n : Int) (vs : List Nat) (xs : List AV) (xe xa : AV) (hc : M1 l B M f i e a st) (hR : Dz l vs (M - st.steps) st.refs xs) (ie : IRE l vs (M - st.steps) e xe) (ia : IR l vs (M - st.steps) a xa) (hk : (l.getD i default).kind = 14) : Ay Tryz.prog 57 [.ptr 60 b 0 0, av (AD l i), xa, xe] (iH b tv M st n vs xs) (Di l vs b M (Cf l (l.getD i default) (fun j e st => An l M f (kd l i j) e st) (fun i' e st => An l M f (kd l i' 0) e st) e a st)) := by
 refine Ah.H rfl ?_
 have xo := ie.one
 have xp := fun hp => ie.AR hp
 have xA := fun hp => ie.Bv hp
 have ao := ia.one
 have ap := fun hp => ia.AR hp
 have aA := fun hp => ia.Bv hp
 have ac := ia.cells
 have xc := ie.cells
 have hsM := hc.hst.steps
 have hcf := hc.hf
 have hcl := hc.hl
 have hst0 : ∀ {P : Prop}, st.stop = 2 → P := fun h => absurd (hc.h0.symm.trans h) (by decide)
 have hgo : ∀ (j : Nat) (e' : EE) (xe' : AV), e'.ok l B st.refs.length (700 * (st.steps + 1)) → e'.len ≤ 700 * (st.steps + 1) → xe'.one = true → (∀ hp, xe'.AR hp = xe') → (st.steps < M → IRE l vs (M - (st.steps + 1)) e' xe') → Ay Tryz.prog 24 [.ptr 60 b 0 0, av (AD l (kd l i j)), xe'] (iH b tv M st n vs xs) (Di l vs b M (An l M f (kd l i j) e' st)) := fun j e' xe' h1 h2 h3 h4 h5 => hE (kd l i j) e' st tv n vs xs xe' ⟨hp.nodes.Bt hc.hi j, h1, h2, hc.hst, hc.h0, hcf⟩ hR h3 h4 h5
 have hee : e.ok l B st.refs.length (700 * (st.steps + 1)) := EE.Ak (Nat.le_refl _) (by omega) hc.he
 have haa : a.ok l B st.refs.length (700 * (st.steps + 1)) := EV.Ak (Nat.le_refl _) (by omega) hc.ha
 have hs := hp.nodes.str _ (hp.nodes.mem hc.hi)
 have hn := fun h => Il hp hc.hi h
 have hA := fun j hj => G6 l i j hj
 have hT := BC 0 vs xs
 have hTT := Bh vs xs 0
 have hT1 := Bf hT 60
 have htree := B3 (fun i hi k hk => hp.nodes.kids i hi k hk) hc.hi
 have hmem := hp.nodes.mem hc.hi
 rw [htree, DU, BE]
 rw [BE] at hgo
 obtain ⟨T, hTe⟩ : ∃ T, T = Co 0 vs xs := ⟨_, rfl⟩
 rw [← hTe] at hT hTT hT1 hgo ⊢
 have hks : (List.map (fun k => AD l k.toNat) (AF l i)).length = (AF l i).length := List.length_map ..
 generalize hnd : l.getD i default = nd at *
 generalize List.map (fun k => AD l k.toNat) (AF l i) = ks at *
 by_cases ha : a.ik = 1
 ·have hu : ∃ m, a = .int m := by cases a <;> simp [EV.ik] at ha <;> exact ⟨_, rfl⟩
  obtain ⟨m, rfl⟩ := hu
  cases ia
  rw [show Cf l nd (fun j e st => An l M f (kd l i j) e st) (fun i' e st => An l M f (kd l i' 0) e st) e (.int m) st = (none, st.raise m) from (by unfold Cf; simp only [hk, Int.reduceEq, if_true, if_false])]
  unfold ivA
  unfold wB
  simp +contextual -dsimp (maxSteps := 2000000) only [↓SD, SU, simprocAttr, Ah, hk, xo, xp, xA, xc, ao, ap, aA, ac, A7, BW, Bx, BA, Aa]
  refine Ae [60] (JQ b tv M st n m) (by simp +contextual -dsimp only [↓SD, SU, simprocAttr, wB]) ?_
  rintro r hp' ⟨rfl, rfl⟩
  unfold wB
  simp +contextual -dsimp (maxSteps := 2000000) only [↓SD, SU, simprocAttr, hT1]
  refine Af.post ((60, wB b tv M (st.raise m) m) :: (61, ⟨tv, false, 9, 1, st.tr.map av⟩) :: T) ?_
  unfold wB
  simp +contextual -dsimp (maxSteps := 2000000) only [↓SD, SU, simprocAttr, show (st.raise m).inp = st.inp from rfl, show (st.raise m).tr = st.tr from rfl, show (st.raise m).steps = st.steps from rfl, show (st.raise m).stop = 2 from rfl]
  refine ⟨(by repeat (first | exact hTT | exact AX hTT | refine Am ?_ hT (by decide))), ?_⟩
  exact Ca (st := st.raise m) hTe hR (fun _ => rfl) (.inr ⟨rfl, rfl⟩)
 ·rw [show Cf l nd (fun j e st => An l M f (kd l i j) e st) (fun i' e st => An l M f (kd l i' 0) e st) e a st = (none, st.bad) from (by unfold Cf; simp only [hk, Int.reduceEq, if_true, if_false] <;> (cases a <;> first | rfl | exact absurd rfl ha))]
  obtain ⟨A', B', C', rfl⟩ := Cs ia
  have g := eq_false ha
  unfold wB
  simp +contextual -dsimp (maxSteps := 2000000) only [↓SD, SU, simprocAttr, Ah, hk, xo, xp, xA, xc, ao, ap, aA, ac, A7, BW, Bx, BA, Aa, g]
  refine Ae [60] (DE b tv M st n) (by simp +contextual -dsimp only [↓SD, SU, simprocAttr, wB]) ?_
  rintro r hp' ⟨rfl, rfl⟩
  unfold wB
  simp +contextual -dsimp (maxSteps := 2000000) only [↓SD, SU, simprocAttr, hT1]
  refine Af.post ((60, wB b tv M st.bad n) :: (61, ⟨tv, false, 9, 1, st.tr.map av⟩) :: T) ?_
  unfold wB
  simp +contextual -dsimp (maxSteps := 2000000) only [↓SD, SU, simprocAttr, show st.bad.inp = st.inp from rfl, show st.bad.tr = st.tr from rfl, show st.bad.steps = st.steps from rfl, show st.bad.stop = 4 from rfl]
  refine ⟨(by repeat (first | exact hTT | exact AX hTT | refine Am ?_ hT (by decide))), ?_⟩
  exact Ca (st := st.bad) hTe hR (fun h => absurd (show (4 : Int) = 2 from h) (by decide)) (.inr ⟨rfl, rfl⟩)
set_option maxHeartbeats 8000000 in
theorem Ael {l : List Node} {B M b f : Nat} (hp : Cb l B) (hM : M ≤ 100000) (hE : EvI l B M b f) (i : Nat) (e : EE) (a : EV) (st : ES) (tv : Nat) (n : Int) (vs : List Nat) (xs : List AV) (xe xa : AV) (hc : M1 l B M f i e a st) (hR : Dz l vs (M - st.steps) st.refs xs) (ie : IRE l vs (M - st.steps) e xe) (ia : IR l vs (M - st.steps) a xa) (hk : (l.getD i default).kind = 9) : Ay Tryz.prog 57 [.ptr 60 b 0 0, av (AD l i), xa, xe] (iH b tv M st n vs xs) (Di l vs b M (Cf l (l.getD i default) (fun j e st => An l M f (kd l i j) e st) (fun i' e st => An l M f (kd l i' 0) e st) e a st)) := by
 refine Ah.H rfl ?_
 have xo := ie.one
 have xp := fun hp => ie.AR hp
 have xA := fun hp => ie.Bv hp
 have ao := ia.one
 have ap := fun hp => ia.AR hp
 have aA := fun hp => ia.Bv hp
 have ac := ia.cells
 have xc := ie.cells
 have hsM := hc.hst.steps
 have hcf := hc.hf
 have hcl := hc.hl
 have hst0 : ∀ {P : Prop}, st.stop = 2 → P := fun h => absurd (hc.h0.symm.trans h) (by decide)
 have hgo : ∀ (j : Nat) (e' : EE) (xe' : AV), e'.ok l B st.refs.length (700 * (st.steps + 1)) → e'.len ≤ 700 * (st.steps + 1) → xe'.one = true → (∀ hp, xe'.AR hp = xe') → (st.steps < M → IRE l vs (M - (st.steps + 1)) e' xe') → Ay Tryz.prog 24 [.ptr 60 b 0 0, av (AD l (kd l i j)), xe'] (iH b tv M st n vs xs) (Di l vs b M (An l M f (kd l i j) e' st)) := fun j e' xe' h1 h2 h3 h4 h5 => hE (kd l i j) e' st tv n vs xs xe' ⟨hp.nodes.Bt hc.hi j, h1, h2, hc.hst, hc.h0, hcf⟩ hR h3 h4 h5
 have hee : e.ok l B st.refs.length (700 * (st.steps + 1)) := EE.Ak (Nat.le_refl _) (by omega) hc.he
 have haa : a.ok l B st.refs.length (700 * (st.steps + 1)) := EV.Ak (Nat.le_refl _) (by omega) hc.ha
 have hs := hp.nodes.str _ (hp.nodes.mem hc.hi)
 have hn := fun h => Il hp hc.hi h
 have hA := fun j hj => G6 l i j hj
 have hT := BC 0 vs xs
 have hTT := Bh vs xs 0
 have hT1 := Bf hT 60
 have htree := B3 (fun i hi k hk => hp.nodes.kids i hi k hk) hc.hi
 have hmem := hp.nodes.mem hc.hi
 rw [htree, DU, BE]
 rw [BE] at hgo
 obtain ⟨T, hTe⟩ : ∃ T, T = Co 0 vs xs := ⟨_, rfl⟩
 rw [← hTe] at hT hTT hT1 hgo ⊢
 have hks : (List.map (fun k => AD l k.toNat) (AF l i)).length = (AF l i).length := List.length_map ..
 generalize hnd : l.getD i default = nd at *
 generalize List.map (fun k => AD l k.toNat) (AF l i) = ks at *
 have hn := hn (by rw [hk]; decide)
 rw [hk, show AJ 9 = 3 from rfl] at hn
 have hj1 : 1 < (AF l i).length := by omega
 have hA1 := hA 1 hj1
 have hl1 : 1 < ks.length := by omega
 have hm1 : (1 : Int) < (ks.length : Int) := by omega
 have hj2 : 2 < (AF l i).length := by omega
 have hA2 := hA 2 hj2
 have hl2 : 2 < ks.length := by omega
 have hm2 : (2 : Int) < (ks.length : Int) := by omega
 by_cases ha : ∃ s, a = .EZ s
 ·obtain ⟨s, rfl⟩ := ha
  cases ia
  by_cases h1 : s = bs [116, 114, 117, 101]
  ·rw [show Cf l nd (fun j e st => An l M f (kd l i j) e st) (fun i' e st => An l M f (kd l i' 0) e st) e (.EZ s) st = An l M f (kd l i 1) e st from (by unfold Cf; simp only [hk, Int.reduceEq, if_true, if_false] <;> exact if_pos h1)]
   have g1 := eq_true h1
   unfold ivA
   unfold wB
   simp +contextual -dsimp (maxSteps := 2000000) only [↓SD, SU, simprocAttr, Ah, hk, xo, xp, xA, xc, ao, ap, aA, ac, A7, BW, Bx, BA, Aa, hA1, hl1, hm1, g1]
   have C := hgo 1 e xe hee (by omega) xo xp (fun _ => ie.mono _ (by omega))
   refine Cl _ _ T hT C (by simp +contextual -dsimp only [↓SD, SU, simprocAttr, wB]) (by simp +contextual -dsimp only [↓SD, SU, simprocAttr]) (by repeat (first | exact hTT | exact AX hTT | refine Am ?_ hT (by decide))) ?_
   intro r2 hp2 hr2 R2 hRg2
   obtain ⟨so, sp, sq⟩ := hr2.form
   have hs2 := hr2.self
   simp +contextual -dsimp (maxSteps := 2000000) only [↓SD, SU, simprocAttr, so, sp, sq]
   refine Af.post hp2 ?_
   simp +contextual -dsimp (maxSteps := 2000000) only [↓SD, SU, simprocAttr, so, sp, sq]
   exact ⟨AX hs2, hr2⟩
  have g1 := eq_false h1
  by_cases h2 : s = bs [102, 97, 108, 115, 101]
  ·rw [show Cf l nd (fun j e st => An l M f (kd l i j) e st) (fun i' e st => An l M f (kd l i' 0) e st) e (.EZ s) st = An l M f (kd l i 2) e st from (by unfold Cf; simp only [hk, Int.reduceEq, if_true, if_false] <;> exact (if_neg h1).trans (if_pos h2))]
   have g2 := eq_true h2
   unfold ivA
   unfold wB
   simp +contextual -dsimp (maxSteps := 2000000) only [↓SD, SU, simprocAttr, Ah, hk, xo, xp, xA, xc, ao, ap, aA, ac, A7, BW, Bx, BA, Aa, hA2, hl2, hm2, g1, g2]
   have C := hgo 2 e xe hee (by omega) xo xp (fun _ => ie.mono _ (by omega))
   refine Cl _ _ T hT C (by simp +contextual -dsimp only [↓SD, SU, simprocAttr, wB]) (by simp +contextual -dsimp only [↓SD, SU, simprocAttr]) (by repeat (first | exact hTT | exact AX hTT | refine Am ?_ hT (by decide))) ?_
   intro r2 hp2 hr2 R2 hRg2
   obtain ⟨so, sp, sq⟩ := hr2.form
   have hs2 := hr2.self
   simp +contextual -dsimp (maxSteps := 2000000) only [↓SD, SU, simprocAttr, so, sp, sq]
   refine Af.post hp2 ?_
   simp +contextual -dsimp (maxSteps := 2000000) only [↓SD, SU, simprocAttr, so, sp, sq]
   exact ⟨AX hs2, hr2⟩
  rw [show Cf l nd (fun j e st => An l M f (kd l i j) e st) (fun i' e st => An l M f (kd l i' 0) e st) e (.EZ s) st = (none, st.bad) from (by unfold Cf; simp only [hk, Int.reduceEq, if_true, if_false] <;> exact (if_neg h1).trans (if_neg h2))]
  have g2 := eq_false h2
  unfold ivA
  unfold wB
  simp +contextual -dsimp (maxSteps := 2000000) only [↓SD, SU, simprocAttr, Ah, hk, xo, xp, xA, xc, ao, ap, aA, ac, A7, BW, Bx, BA, Aa, g1, g2]
  refine Ae [60] (DE b tv M st n) (by simp +contextual -dsimp only [↓SD, SU, simprocAttr, wB]) ?_
  rintro r hp' ⟨rfl, rfl⟩
  unfold wB
  simp +contextual -dsimp (maxSteps := 2000000) only [↓SD, SU, simprocAttr, hT1]
  refine Af.post ((60, wB b tv M st.bad n) :: (61, ⟨tv, false, 9, 1, st.tr.map av⟩) :: T) ?_
  unfold wB
  simp +contextual -dsimp (maxSteps := 2000000) only [↓SD, SU, simprocAttr, show st.bad.inp = st.inp from rfl, show st.bad.tr = st.tr from rfl, show st.bad.steps = st.steps from rfl, show st.bad.stop = 4 from rfl]
  refine ⟨(by repeat (first | exact hTT | exact AX hTT | refine Am ?_ hT (by decide))), ?_⟩
  exact Ca (st := st.bad) hTe hR (fun h => absurd (show (4 : Int) = 2 from h) (by decide)) (.inr ⟨rfl, rfl⟩)
 rw [show Cf l nd (fun j e st => An l M f (kd l i j) e st) (fun i' e st => An l M f (kd l i' 0) e st) e a st = (none, st.bad) from (by unfold Cf; simp only [hk, Int.reduceEq, if_true, if_false] <;> (cases a <;> first | rfl | exact absurd ⟨_, rfl⟩ ha))]
 by_cases h4 : a.ik = 4
 ·have hu : ∃ s v, a = .Gl s v := by cases a <;> simp [EV.ik] at h4 <;> first | exact ⟨_, _, rfl⟩ | exact absurd ⟨_, rfl⟩ ha
  obtain ⟨s, v, rfl⟩ := hu
  cases ia
  unfold ivA
  by_cases h1 : s = bs [116, 114, 117, 101]
  ·have g1 := eq_true h1
   have g2 := eq_false (show ¬ s = bs [102, 97, 108, 115, 101] by rw [h1]; decide)
   unfold wB
   simp +contextual -dsimp (maxSteps := 2000000) only [↓SD, SU, simprocAttr, Ah, hk, xo, xp, xA, xc, ao, ap, aA, ac, A7, BW, Bx, BA, Aa, g1, g2]
   refine Ae [60] (DE b tv M st n) (by simp +contextual -dsimp only [↓SD, SU, simprocAttr, wB]) ?_
   rintro r hp' ⟨rfl, rfl⟩
   unfold wB
   simp +contextual -dsimp (maxSteps := 2000000) only [↓SD, SU, simprocAttr, hT1]
   refine Af.post ((60, wB b tv M st.bad n) :: (61, ⟨tv, false, 9, 1, st.tr.map av⟩) :: T) ?_
   unfold wB
   simp +contextual -dsimp (maxSteps := 2000000) only [↓SD, SU, simprocAttr, show st.bad.inp = st.inp from rfl, show st.bad.tr = st.tr from rfl, show st.bad.steps = st.steps from rfl, show st.bad.stop = 4 from rfl]
   refine ⟨(by repeat (first | exact hTT | exact AX hTT | refine Am ?_ hT (by decide))), ?_⟩
   exact Ca (st := st.bad) hTe hR (fun h => absurd (show (4 : Int) = 2 from h) (by decide)) (.inr ⟨rfl, rfl⟩)
  have g1 := eq_false h1
  by_cases h2 : s = bs [102, 97, 108, 115, 101]
  ·have g2 := eq_true h2
   unfold wB
   simp +contextual -dsimp (maxSteps := 2000000) only [↓SD, SU, simprocAttr, Ah, hk, xo, xp, xA, xc, ao, ap, aA, ac, A7, BW, Bx, BA, Aa, g1, g2]
   refine Ae [60] (DE b tv M st n) (by simp +contextual -dsimp only [↓SD, SU, simprocAttr, wB]) ?_
   rintro r hp' ⟨rfl, rfl⟩
   unfold wB
   simp +contextual -dsimp (maxSteps := 2000000) only [↓SD, SU, simprocAttr, hT1]
   refine Af.post ((60, wB b tv M st.bad n) :: (61, ⟨tv, false, 9, 1, st.tr.map av⟩) :: T) ?_
   unfold wB
   simp +contextual -dsimp (maxSteps := 2000000) only [↓SD, SU, simprocAttr, show st.bad.inp = st.inp from rfl, show st.bad.tr = st.tr from rfl, show st.bad.steps = st.steps from rfl, show st.bad.stop = 4 from rfl]
   refine ⟨(by repeat (first | exact hTT | exact AX hTT | refine Am ?_ hT (by decide))), ?_⟩
   exact Ca (st := st.bad) hTe hR (fun h => absurd (show (4 : Int) = 2 from h) (by decide)) (.inr ⟨rfl, rfl⟩)
  have g2 := eq_false h2
  unfold wB
  simp +contextual -dsimp (maxSteps := 2000000) only [↓SD, SU, simprocAttr, Ah, hk, xo, xp, xA, xc, ao, ap, aA, ac, A7, BW, Bx, BA, Aa, g1, g2]
  refine Ae [60] (DE b tv M st n) (by simp +contextual -dsimp only [↓SD, SU, simprocAttr, wB]) ?_
  rintro r hp' ⟨rfl, rfl⟩
  unfold wB
  simp +contextual -dsimp (maxSteps := 2000000) only [↓SD, SU, simprocAttr, hT1]
  refine Af.post ((60, wB b tv M st.bad n) :: (61, ⟨tv, false, 9, 1, st.tr.map av⟩) :: T) ?_
  unfold wB
  simp +contextual -dsimp (maxSteps := 2000000) only [↓SD, SU, simprocAttr, show st.bad.inp = st.inp from rfl, show st.bad.tr = st.tr from rfl, show st.bad.steps = st.steps from rfl, show st.bad.stop = 4 from rfl]
  refine ⟨(by repeat (first | exact hTT | exact AX hTT | refine Am ?_ hT (by decide))), ?_⟩
  exact Ca (st := st.bad) hTe hR (fun h => absurd (show (4 : Int) = 2 from h) (by decide)) (.inr ⟨rfl, rfl⟩)
 obtain ⟨A', B', C', rfl⟩ := Cs ia
 have g := eq_false h4
 unfold wB
 simp +contextual -dsimp (maxSteps := 2000000) only [↓SD, SU, simprocAttr, Ah, hk, xo, xp, xA, xc, ao, ap, aA, ac, A7, BW, Bx, BA, Aa, g]
 refine Ae [60] (DE b tv M st n) (by simp +contextual -dsimp only [↓SD, SU, simprocAttr, wB]) ?_
 rintro r hp' ⟨rfl, rfl⟩
 unfold wB
 simp +contextual -dsimp (maxSteps := 2000000) only [↓SD, SU, simprocAttr, hT1]
 refine Af.post ((60, wB b tv M st.bad n) :: (61, ⟨tv, false, 9, 1, st.tr.map av⟩) :: T) ?_
 unfold wB
 simp +contextual -dsimp (maxSteps := 2000000) only [↓SD, SU, simprocAttr, show st.bad.inp = st.inp from rfl, show st.bad.tr = st.tr from rfl, show st.bad.steps = st.steps from rfl, show st.bad.stop = 4 from rfl]
 refine ⟨(by repeat (first | exact hTT | exact AX hTT | refine Am ?_ hT (by decide))), ?_⟩
 exact Ca (st := st.bad) hTe hR (fun h => absurd (show (4 : Int) = 2 from h) (by decide)) (.inr ⟨rfl, rfl⟩)
set_option maxHeartbeats 8000000 in
theorem AdS {l : List Node} {B M b f : Nat} (hp : Cb l B) (hM : M ≤ 100000) (hE : EvI l B M b f) (i : Nat) (e : EE) (a : EV) (st : ES) (tv : Nat) (n : Int) (vs : List Nat) (xs : List AV) (xe xa : AV) (hc : M1 l B M f i e a st) (hR : Dz l vs (M - st.steps) st.refs xs) (ie : IRE l vs (M - st.steps) e xe) (ia : IR l vs (M - st.steps) a xa) (hk : (l.getD i default).kind = 17) : Ay Tryz.prog 57 [.ptr 60 b 0 0, av (AD l i), xa, xe] (iH b tv M st n vs xs) (Di l vs b M (Cf l (l.getD i default) (fun j e st => An l M f (kd l i j) e st) (fun i' e st => An l M f (kd l i' 0) e st) e a st)) := by
 refine Ah.H rfl ?_
 have xo := ie.one
 have xp := fun hp => ie.AR hp
 have xA := fun hp => ie.Bv hp
 have ao := ia.one
 have ap := fun hp => ia.AR hp
 have aA := fun hp => ia.Bv hp
 have ac := ia.cells
 have xc := ie.cells
 have hsM := hc.hst.steps
 have hcf := hc.hf
 have hcl := hc.hl
 have hst0 : ∀ {P : Prop}, st.stop = 2 → P := fun h => absurd (hc.h0.symm.trans h) (by decide)
 have hgo : ∀ (j : Nat) (e' : EE) (xe' : AV), e'.ok l B st.refs.length (700 * (st.steps + 1)) → e'.len ≤ 700 * (st.steps + 1) → xe'.one = true → (∀ hp, xe'.AR hp = xe') → (st.steps < M → IRE l vs (M - (st.steps + 1)) e' xe') → Ay Tryz.prog 24 [.ptr 60 b 0 0, av (AD l (kd l i j)), xe'] (iH b tv M st n vs xs) (Di l vs b M (An l M f (kd l i j) e' st)) := fun j e' xe' h1 h2 h3 h4 h5 => hE (kd l i j) e' st tv n vs xs xe' ⟨hp.nodes.Bt hc.hi j, h1, h2, hc.hst, hc.h0, hcf⟩ hR h3 h4 h5
 have hee : e.ok l B st.refs.length (700 * (st.steps + 1)) := EE.Ak (Nat.le_refl _) (by omega) hc.he
 have haa : a.ok l B st.refs.length (700 * (st.steps + 1)) := EV.Ak (Nat.le_refl _) (by omega) hc.ha
 have hs := hp.nodes.str _ (hp.nodes.mem hc.hi)
 have hn := fun h => Il hp hc.hi h
 have hA := fun j hj => G6 l i j hj
 have hT := BC 0 vs xs
 have hTT := Bh vs xs 0
 have hT1 := Bf hT 60
 have htree := B3 (fun i hi k hk => hp.nodes.kids i hi k hk) hc.hi
 have hmem := hp.nodes.mem hc.hi
 rw [htree, DU, BE]
 rw [BE] at hgo
 obtain ⟨T, hTe⟩ : ∃ T, T = Co 0 vs xs := ⟨_, rfl⟩
 rw [← hTe] at hT hTT hT1 hgo ⊢
 have hks : (List.map (fun k => AD l k.toNat) (AF l i)).length = (AF l i).length := List.length_map ..
 generalize hnd : l.getD i default = nd at *
 generalize List.map (fun k => AD l k.toNat) (AF l i) = ks at *
 by_cases ha : a.ik = 8
 ·have hu : ∃ j, a = .ref j := by cases a <;> simp [EV.ik] at ha <;> exact ⟨_, rfl⟩
  obtain ⟨j, rfl⟩ := hu
  obtain ⟨u, y, rfl, hv, hg, hx, hy⟩ := Xw ia hR
  rw [← hTe] at hg
  rw [show Cf l nd (fun j e st => An l M f (kd l i j) e st) (fun i' e st => An l M f (kd l i' 0) e st) e (.ref j) st = (some (st.refs.getD j default), st) from (by unfold Cf; simp only [hk, Int.reduceEq, if_true, if_false])]
  have q0 := Og j
  have yo := hy.one
  have yp := fun hp => hy.AR hp
  have yA := fun hp => hy.Bv hp
  have yq := fun hp => hy.pur hp
  have yc := hy.cells
  generalize RN j = q at *
  have hG : ∀ b1 b2, Aw ((60, b1) :: (61, b2) :: T) q = some ⟨u, false, 65, 1, [y]⟩ := fun _ _ => by rw [D5 (by omega), D5 (by omega)]; exact hg
  unfold ivA
  unfold wB
  simp +contextual -dsimp (maxSteps := 2000000) only [↓SD, SU, simprocAttr, Ah, hk, xo, xp, xA, xc, ao, ap, aA, ac, A7, BW, Bx, BA, Aa, hG, yo, yp, yA, yq, yc]
  refine Af.post ((60, wB b tv M st n) :: (61, ⟨tv, false, 9, 1, st.tr.map av⟩) :: T) ?_
  unfold wB
  simp +contextual -dsimp (maxSteps := 2000000) only [↓SD, SU, simprocAttr, yo, yp, yA, yq, yc]
  refine ⟨(by repeat (first | exact hTT | exact AX hTT | refine Am ?_ hT (by decide))), ?_⟩
  exact Ca hTe hR (fun h => hst0 h) (.inl ⟨_, rfl, hy⟩)
 ·rw [show Cf l nd (fun j e st => An l M f (kd l i j) e st) (fun i' e st => An l M f (kd l i' 0) e st) e a st = (none, st.bad) from (by unfold Cf; simp only [hk, Int.reduceEq, if_true, if_false] <;> (cases a <;> first | rfl | exact absurd rfl ha))]
  obtain ⟨A', B', C', rfl⟩ := Cs ia
  have g := eq_false ha
  unfold wB
  simp +contextual -dsimp (maxSteps := 2000000) only [↓SD, SU, simprocAttr, Ah, hk, xo, xp, xA, xc, ao, ap, aA, ac, A7, BW, Bx, BA, Aa, g]
  refine Ae [60] (DE b tv M st n) (by simp +contextual -dsimp only [↓SD, SU, simprocAttr, wB]) ?_
  rintro r hp' ⟨rfl, rfl⟩
  unfold wB
  simp +contextual -dsimp (maxSteps := 2000000) only [↓SD, SU, simprocAttr, hT1]
  refine Af.post ((60, wB b tv M st.bad n) :: (61, ⟨tv, false, 9, 1, st.tr.map av⟩) :: T) ?_
  unfold wB
  simp +contextual -dsimp (maxSteps := 2000000) only [↓SD, SU, simprocAttr, show st.bad.inp = st.inp from rfl, show st.bad.tr = st.tr from rfl, show st.bad.steps = st.steps from rfl, show st.bad.stop = 4 from rfl]
  refine ⟨(by repeat (first | exact hTT | exact AX hTT | refine Am ?_ hT (by decide))), ?_⟩
  exact Ca (st := st.bad) hTe hR (fun h => absurd (show (4 : Int) = 2 from h) (by decide)) (.inr ⟨rfl, rfl⟩)
set_option maxHeartbeats 8000000 in
theorem AdT {l : List Node} {B M b f : Nat} (hp : Cb l B) (hM : M ≤ 100000) (hE : EvI l B M b f) (i : Nat) (e : EE) (a : EV) (st : ES) (tv : Nat) (n : Int) (vs : List Nat) (xs : List AV) (xe xa : AV) (hc : M1 l B M f i e a st) (hR : Dz l vs (M - st.steps) st.refs xs) (ie : IRE l vs (M - st.steps) e xe) (ia : IR l vs (M - st.steps) a xa) (hk : (l.getD i default).kind = 16) : Ay Tryz.prog 57 [.ptr 60 b 0 0, av (AD l i), xa, xe] (iH b tv M st n vs xs) (Di l vs b M (Cf l (l.getD i default) (fun j e st => An l M f (kd l i j) e st) (fun i' e st => An l M f (kd l i' 0) e st) e a st)) := by
 refine Ah.H rfl ?_
 have xo := ie.one
 have xp := fun hp => ie.AR hp
 have xA := fun hp => ie.Bv hp
 have ao := ia.one
 have ap := fun hp => ia.AR hp
 have aA := fun hp => ia.Bv hp
 have ac := ia.cells
 have xc := ie.cells
 have hsM := hc.hst.steps
 have hcf := hc.hf
 have hcl := hc.hl
 have hst0 : ∀ {P : Prop}, st.stop = 2 → P := fun h => absurd (hc.h0.symm.trans h) (by decide)
 have hgo : ∀ (j : Nat) (e' : EE) (xe' : AV), e'.ok l B st.refs.length (700 * (st.steps + 1)) → e'.len ≤ 700 * (st.steps + 1) → xe'.one = true → (∀ hp, xe'.AR hp = xe') → (st.steps < M → IRE l vs (M - (st.steps + 1)) e' xe') → Ay Tryz.prog 24 [.ptr 60 b 0 0, av (AD l (kd l i j)), xe'] (iH b tv M st n vs xs) (Di l vs b M (An l M f (kd l i j) e' st)) := fun j e' xe' h1 h2 h3 h4 h5 => hE (kd l i j) e' st tv n vs xs xe' ⟨hp.nodes.Bt hc.hi j, h1, h2, hc.hst, hc.h0, hcf⟩ hR h3 h4 h5
 have hee : e.ok l B st.refs.length (700 * (st.steps + 1)) := EE.Ak (Nat.le_refl _) (by omega) hc.he
 have haa : a.ok l B st.refs.length (700 * (st.steps + 1)) := EV.Ak (Nat.le_refl _) (by omega) hc.ha
 have hs := hp.nodes.str _ (hp.nodes.mem hc.hi)
 have hn := fun h => Il hp hc.hi h
 have hA := fun j hj => G6 l i j hj
 have hT := BC 0 vs xs
 have hTT := Bh vs xs 0
 have hT1 := Bf hT 60
 have htree := B3 (fun i hi k hk => hp.nodes.kids i hi k hk) hc.hi
 have hmem := hp.nodes.mem hc.hi
 rw [htree, DU, BE]
 rw [BE] at hgo
 obtain ⟨T, hTe⟩ : ∃ T, T = Co 0 vs xs := ⟨_, rfl⟩
 rw [← hTe] at hT hTT hT1 hgo ⊢
 have hks : (List.map (fun k => AD l k.toNat) (AF l i)).length = (AF l i).length := List.length_map ..
 generalize hnd : l.getD i default = nd at *
 generalize List.map (fun k => AD l k.toNat) (AF l i) = ks at *
 have hT65 := Bf hT 65
 rw [show Cf l nd (fun j e st => An l M f (kd l i j) e st) (fun i' e st => An l M f (kd l i' 0) e st) e a st = (some (.ref st.refs.length), { st with refs := st.refs ++ [a] }) from (by unfold Cf; simp only [hk, Int.reduceEq, if_true, if_false])]
 unfold wB
 simp +contextual -dsimp (maxSteps := 2000000) only [↓SD, SU, simprocAttr, Ah, hk, xo, xp, xA, xc, ao, ap, aA, ac, A7, BW, Bx, BA, Aa]
 intro v
 obtain ⟨R1, R2, R3⟩ := id hR
 have q0 := Og vs.length
 have hqq : ∀ b1 b2 b3, Bg ((RN vs.length, ⟨b3, false, 65, 1, [xa]⟩) :: (60, b1) :: (61, b2) :: T) (Co 0 (vs ++ [b3]) (xs ++ [xa])) := fun b1 b2 b3 => by
  refine Sa (by omega) (NP vs xs 0 fun k u x h1 h2 => ?_) Cj
  have hk1 := (List.getElem?_eq_some_iff.1 h1).1
  have hk2 := Og (0 + k)
  rw [D5 (fun e => by have := R9 e; omega), D5 (by omega), D5 (by omega), hTe]
  exact JP h1 h2
 refine Af.Adn 8 3 65 (RN vs.length) rfl rfl rfl rfl fun v' => Af.post ((60, wB b tv M st n) :: (61, ⟨tv, false, 9, 1, st.tr.map av⟩) :: Co 0 (vs ++ [v']) (xs ++ [xa])) ?_
 unfold wB
 simp +contextual -dsimp (maxSteps := 2000000) only [↓SD, SU, simprocAttr, hT65, ao, ap, aA, ac]
 refine ⟨⟨by rw [D5 (by omega)]; exact Cj, by rw [D5 (by omega), D5 (by decide)]; exact Cj, hqq _ _ _⟩, tv, n, [v'], xs ++ [xa], rfl, hR.snoc v' ia, fun h => hst0 h, .inl ⟨_, rfl, ?_⟩⟩
 rw [R1]
 refine .ref _ _ v' ?_
 rw [← R1]
 simp
end Go.Proofs.YtjbcnilllfaipaaGreat
