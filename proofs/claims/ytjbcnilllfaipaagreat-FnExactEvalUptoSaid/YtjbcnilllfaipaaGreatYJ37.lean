/-
 THE PROGRAM'S EVALUATOR: nodes whose first part is run. Conditions: none.
-/
import Derived.Test.YtjbcnilllfaipaaGreatYJ36
set_option linter.unusedVariables false
set_option linter.unusedSimpArgs false
set_option maxRecDepth 100000
namespace Go.Proofs.YtjbcnilllfaipaaGreat
open Go.RowKit Go.Proofs.YtjbcnilllfaipaaGreat.Av Go.Proofs.YtjbcnilllfaipaaGreat.Ml
open Go.Proofs.YtjbcnilllfaipaaGreat.Av.AVal (av)

structure M1 (l : List Node) (B M f i : Nat) (e : EE) (a : EV) (st : ES) : Prop where
 hi : i < l.length
 he : e.ok l B st.refs.length (700 * st.steps)
 hl : e.len ≤ 700 * st.steps
 ha : a.ok l B st.refs.length (700 * st.steps)
 hst : st.ok l B M
 h0 : st.stop = 0
 ht : st.tr.length < st.steps
 hr : st.refs.length < st.steps
 hf : M - st.steps < f
 hk : (l.getD i default).kind ≠ 1 ∧ (l.getD i default).kind ≠ 2 ∧ (l.getD i default).kind ≠ 12 ∧ (l.getD i default).kind ≠ 3 ∧ (l.getD i default).kind ≠ 5 ∧ (l.getD i default).kind ≠ 8 ∧ (l.getD i default).kind ≠ 15 ∧ (l.getD i default).kind ≠ 4
def BeI (l : List Node) (B M b f : Nat) : Prop := ∀ i e a st tv n vs xs xe xa, M1 l B M f i e a st → Dz l vs (M - st.steps) st.refs xs → IRE l vs (M - st.steps) e xe → IR l vs (M - st.steps) a xa → Ay Tryz.prog 57 [.ptr 60 b 0 0, av (AD l i), xa, xe] (iH b tv M st n vs xs) (Di l vs b M (Cf l (l.getD i default) (fun j e st => An l M f (kd l i j) e st) (fun i' e st => An l M f (kd l i' 0) e st) e a st))
theorem Di.up {l : List Node} {vs us : List Nat} {b M : Nat} {r : Option EV × ES} {x : AV} {hp : Hp} (h : Di l (vs ++ us) b M r x hp) : Di l vs b M r x hp := by
 obtain ⟨tv, n, ws, xs, h1, h2, h3, h4⟩ := h
 rw [List.append_assoc] at h1 h2 h4
 exact ⟨tv, n, us ++ ws, xs, h1, h2, h3, h4⟩
theorem EG {vs us : List Nat} : ∀ (j u : Nat), vs[j]? = some u → (vs ++ us)[j]? = some u := fun j u h => by
 rw [List.getElem?_append_left (List.getElem?_eq_some_iff.1 h).1, h]
theorem Di.form {l : List Node} {vs : List Nat} {b M : Nat} {r : Option EV × ES} {x : AV} {hp : Hp} (h : Di l vs b M r x hp) : x.one = true ∧ (∀ hp, x.AR hp = x) ∧ (∀ hp, x.pur hp = x) := by
 obtain ⟨tv, n, ws, xs, h1, h2, h3, ⟨v, hv, hx⟩ | ⟨hv, rfl⟩⟩ := h
 ·exact ⟨hx.one, hx.AR, hx.pur⟩
 ·exact ⟨rfl, fun _ => rfl, fun _ => rfl⟩
theorem Di.self {l : List Node} {vs : List Nat} {b M : Nat} {r : Option EV × ES} {x : AV} {hp : Hp} (h : Di l vs b M r x hp) : Bg hp hp := by
 obtain ⟨tv, n, ws, xs, rfl, h2, h3, h4⟩ := h
 rw [BE]
 have hT := BC 0 (vs ++ ws) xs
 have hTT := Bh (vs ++ ws) xs 0
 rw [Dt, Dt]
 exact ⟨Cj, by rw [D5 (by decide)]; exact Cj, Am (Am hTT hT (by decide)) hT (by decide)⟩
set_option maxHeartbeats 8000000 in
theorem WJ {l : List Node} {B M b f : Nat} (hp : Cb l B) (hM : M ≤ 100000) (hE : EvI l B M b f) (hB : BeI l B M b f) (i : Nat) (e : EE) (st : ES) (tv : Nat) (n : Int) (vs : List Nat) (xs : List AV) (xe : AV) (hc : Can l B M (f + 1) i e st) (hR : Dz l vs (M - st.steps) st.refs xs) (xo : xe.one = true) (xp : ∀ hp, xe.AR hp = xe) (he : st.steps < M → IRE l vs (M - (st.steps + 1)) e xe) (hm : ¬ M ≤ st.steps) (hk : (l.getD i default).kind ≠ 1 ∧ (l.getD i default).kind ≠ 2 ∧ (l.getD i default).kind ≠ 12 ∧ (l.getD i default).kind ≠ 3 ∧ (l.getD i default).kind ≠ 5 ∧ (l.getD i default).kind ≠ 8 ∧ (l.getD i default).kind ≠ 15 ∧ (l.getD i default).kind ≠ 4) (hn : 0 < (AF l i).length) : Ay Tryz.prog 24 [.ptr 60 b 0 0, av (AD l i), xe] (iH b tv M st n vs xs) (Di l vs b M (An l M (f + 1) i e st)) := by
 refine Az.H rfl ?_
 obtain ⟨k1, k2, k3, k4, k5, k6, k7, k8⟩ := id hk
 have hev : An l M (f + 1) i e st = Cp (An l M f (kd l i 0) e st.tick) fun a st1 => Cf l (l.getD i default) (fun j e st => An l M f (kd l i j) e st) (fun i' e st => An l M f (kd l i' 0) e st) e a st1 := by
  rw [An, if_neg hm]; simp only [Ho, k1, k2, k3, k4, k5, k6, k7, k8, if_false]
 rw [hev]
 clear hev
 have he : IRE l vs (M - st.tick.steps) e xe := he (by omega)
 have xA := fun hp => he.Bv hp
 have hsM := hc.hst.steps
 have hctr := hc.hst.tr
 have hcre := hc.hst.refs
 have hcf := hc.hf
 have hcl := hc.hl
 have hok := hc.hst.tick (by omega : st.steps < M)
 have hce : e.ok l B st.tick.refs.length (700 * (st.tick.steps + 1)) := EE.Ak (Nat.le_refl _) (by show 700 * (st.steps + 1) ≤ 700 * (st.steps + 1 + 1); omega) hc.he
 have hR1 : Dz l vs (M - st.tick.steps) st.tick.refs xs := hR.mono (by show M - (st.steps + 1) ≤ M - st.steps; omega)
 have C0 := hE (kd l i 0) e st.tick tv n vs xs xe ⟨hp.nodes.Bt hc.hi 0, hce, by show e.len ≤ 700 * (st.steps + 1 + 1); omega, hok, hc.h0, by show M - (st.steps + 1) < f; omega⟩ hR1 xo xp (fun _ => he.mono _ (by omega))
 have RO := BO hp.nodes hp.big f (kd l i 0) e st.tick (hp.nodes.Bt hc.hi 0) hce (by show e.len ≤ 700 * (st.steps + 1 + 1); omega) hok hc.h0 (by show M - (st.steps + 1) < f; omega)
 have hA0 := G6 l i 0 hn
 have htree := B3 (fun i hi k hk => hp.nodes.kids i hi k hk) hc.hi
 have hBe := fun a st tv n vs xs xa => hB i e a st tv n vs xs xe xa
 rw [htree, DU] at hBe
 rw [htree, DU, BE]
 have hT := BC 0 vs xs
 have hTT := Bh vs xs 0
 have hT1 := Bf hT 60
 obtain ⟨T, hTe⟩ : ∃ T, T = Co 0 vs xs := ⟨_, rfl⟩
 rw [BE, ← hTe] at C0
 rw [← hTe] at hT hTT hT1 ⊢
 have hks : (List.map (fun k => AD l k.toNat) (AF l i)).length = (AF l i).length := List.length_map ..
 generalize List.map (fun k => AD l k.toNat) (AF l i) = ks at *
 have hl0 : 0 < ks.length := by omega
 have g1 := eq_false k1
 have g2 := eq_false k2
 have g3 := eq_false k3
 have g4 := eq_false k4
 have g5 := eq_false k5
 have g6 := eq_false k6
 have g7 := eq_false k7
 have g8 := eq_false k8
 unfold wB
 simp +contextual -dsimp (maxSteps := 2000000) only [↓SD, SU, simprocAttr, Az, xo, xp]
 refine Ae [60] (En b tv M st n hc.h0 hm hM) (by simp +contextual -dsimp only [↓SD, SU, simprocAttr, wB]) ?_
 rintro r hp' ⟨rfl, rfl⟩
 unfold wB
 simp +contextual -dsimp (maxSteps := 2000000) only [↓SD, SU, simprocAttr, hT1, g1, g2, g3, g4, g5, g6, g7, g8, Aa, hl0, hA0, xo, xp, xA, A7, BW, Bx, BA]
 refine ⟨by omega, ?_⟩
 refine Cl _ _ T hT C0 (by simp +contextual -dsimp only [↓SD, SU, simprocAttr, wB]) (by simp +contextual -dsimp only [↓SD, SU, simprocAttr, show st.tick.tr = st.tr from rfl]) (Am (Am hTT hT (by decide)) hT (by decide)) ?_
 intro r hp' hr R hRg
 obtain ⟨ro, rp, rq⟩ := hr.form
 obtain ⟨tv1, n1, us, xs1, rfl, hR2, hn1, hv⟩ := hr
 generalize An l M f (kd l i 0) e st.tick = X at *
 obtain ⟨o, st2⟩ := X
 rw [BE]
 have hT' := BC 0 (vs ++ us) xs1
 have hTT' := Bh (vs ++ us) xs1 0
 obtain ⟨T', hTe'⟩ : ∃ T', T' = Co 0 (vs ++ us) xs1 := ⟨_, rfl⟩
 rw [← hTe'] at hT' hTT' ⊢
 rcases hv with ⟨v, hv, hx⟩ | ⟨hv, rfl⟩
 ·dsimp only at hv hR2 hn1 hx
  subst hv
  obtain ⟨hvok, hst0⟩ := RO.val v rfl
  have ROs := RO.steps
  have ROt := RO.trg
  have ROr := RO.rfg
  have ROf := RO.refs
  dsimp only at hvok hst0 ROs ROt ROr ROf
  have t1 : st.tick.steps = st.steps + 1 := rfl
  have t2 : st.tick.tr = st.tr := rfl
  have t3 : st.tick.refs = st.refs := rfl
  rw [t1, t2] at ROt
  rw [t1, t3] at ROr
  rw [t1] at ROs
  have gs := eq_true hst0
  have hC : M1 l B M f i e v st2 := ⟨hc.hi, EE.Ak (by rw [t3] at ROf; exact ROf) (by omega) hc.he, by omega, hvok, RO.ok, hst0, by omega, by omega, by omega, hk⟩
  have C2 := hBe v st2 tv1 n1 (vs ++ us) xs1 r hC hR2 ((he.grow EG).mono _ (by rw [t1]; omega)) hx
  rw [BE, ← hTe'] at C2
  have rA := fun hp => hx.Bv hp
  unfold wB
  dsimp only
  simp +contextual -dsimp (maxSteps := 2000000) only [↓SD, SU, simprocAttr, gs, ro, rp, rq, rA, xo, xp, xA]
  refine Cl _ _ T' hT' C2 (by simp +contextual -dsimp only [↓SD, SU, simprocAttr, wB]) (by simp +contextual -dsimp only [↓SD, SU, simprocAttr]) (Am (Am (AX hTT') hT' (by decide)) hT' (by decide)) ?_
  intro r2 hp2 hr2 R2 hRg2
  obtain ⟨so, sp, sq⟩ := hr2.form
  have hs2 := hr2.self
  simp +contextual -dsimp (maxSteps := 2000000) only [↓SD, SU, simprocAttr, so, sp, sq]
  refine Af.post hp2 ?_
  simp +contextual -dsimp (maxSteps := 2000000) only [↓SD, SU, simprocAttr, so, sp, sq]
  exact ⟨AX hs2, hr2.up⟩
 ·dsimp only at hv
  subst hv
  have gs := eq_false (RO.stp rfl)
  unfold wB
  dsimp only at gs ⊢
  simp +contextual -dsimp (maxSteps := 2000000) only [↓SD, SU, simprocAttr, gs]
  refine Af.post ((60, wB b tv1 M st2 n1) :: (61, ⟨tv1, false, 9, 1, st2.tr.map av⟩) :: T') ?_
  unfold wB
  simp +contextual -dsimp (maxSteps := 2000000) only [↓SD, SU, simprocAttr]
  refine ⟨Am (Am (AX hTT') hT' (by decide)) hT' (by decide), ?_⟩
  exact ⟨tv1, n1, us, xs1, by rw [hTe', BE]; rfl, hR2, hn1, .inr ⟨rfl, rfl⟩⟩
end Go.Proofs.YtjbcnilllfaipaaGreat
set_option linter.unusedVariables false
set_option linter.unusedSimpArgs false
set_option maxRecDepth 100000
namespace Go.Proofs.YtjbcnilllfaipaaGreat
open Go.RowKit Go.Proofs.YtjbcnilllfaipaaGreat.Av Go.Proofs.YtjbcnilllfaipaaGreat.Ml
open Go.Proofs.YtjbcnilllfaipaaGreat.Av.AVal (av)

theorem AdJ {l : List Node} {vs : List Nat} {m i : Nat} {nm : ByteArray} {e : EE} {x : AV} (h : IR l vs m (.fn i nm e) x) : ∃ y, x = fnA l i y ∧ y.one = true ∧ (∀ hp, y.AR hp = y) ∧ (∀ hp, y.Bv hp = y) ∧ y.cells = [y] ∧ ∀ k, m = k + 1 → IRE l vs k (if nm = bs [] then e else .cons nm (.fn i nm e) e) y := by
 cases h with
 | fn m i e y h => exact ⟨y, rfl, h.one, h.AR, h.Bv, h.cells, fun k hk => by rw [if_pos rfl]; exact h.mono k (by omega)⟩
 | self m i nm e x y hn hy h1 h => exact ⟨_, rfl, rfl, fun _ => rfl, fun _ => rfl, rfl, fun k hk => by rw [if_neg hn]; exact .cons k nm _ e y x (hy k hk) (h.mono k (by omega))⟩
theorem Ca {l : List Node} {vs : List Nat} {b tv M : Nat} {st : ES} {n : Int} {xs : List AV} {T : Hp} (hTe : T = Co 0 vs xs) (hR : Dz l vs (M - st.steps) st.refs xs) {o : Option EV} {x : AV} (h2 : st.stop = 2 → n = st.n) (h : (∃ v, o = some v ∧ IR l vs (M - st.steps) v x) ∨ (o = none ∧ x = .Cx)) : Di l vs b M (o, st) x ((60, wB b tv M st n) :: (61, ⟨tv, false, 9, 1, st.tr.map av⟩) :: T) := by
 refine ⟨tv, n, [], xs, ?_, ?_, h2, ?_⟩
 ·rw [List.append_nil, hTe, BE]
 ·rw [List.append_nil]; exact hR
 ·rw [List.append_nil]; exact h
theorem Abj (x : EV) : (∃ i nm e, x = .fn i nm e) ∨ (∃ s, x = .given s) ∨ (x.ik ≠ 6 ∧ x.ik ≠ 7 ∧ ∀ l M f y st, Lh l M f x y st = (none, st.bad)) := by
 cases x <;> first | exact .inl ⟨_, _, _, rfl⟩ | exact .inr (.inl ⟨_, rfl⟩) | exact .inr (.inr ⟨by simp [EV.ik], by simp [EV.ik], fun _ _ _ _ _ => rfl⟩)
theorem UI (s : ByteArray) (y : EV) (st : ES) : (Bm s y st).2.steps = st.steps ∧ (Bm s y st).2.refs = st.refs ∧ ∀ v, (Bm s y st).1 = some v → (∃ m, v = .int m) ∨ v = .unit := by
 unfold Bm
 cases y with
 | int n => dsimp only; split <;> exact ⟨rfl, rfl, fun v h => by first | (cases h; exact .inr rfl) | cases h⟩
 | str t => dsimp only; split <;> (try split) <;> exact ⟨rfl, rfl, fun v h => by first | (cases h; exact .inr rfl) | (cases h; exact .inl ⟨_, rfl⟩) | cases h⟩
 | unit =>
  dsimp only
  split
  ·cases st.inp with
   | nil => exact ⟨rfl, rfl, fun v h => by cases h⟩
   | cons x r => exact ⟨rfl, rfl, fun v h => by cases h; exact .inl ⟨_, rfl⟩⟩
  ·exact ⟨rfl, rfl, fun v h => by cases h⟩
 | _ => exact ⟨rfl, rfl, fun v h => by cases h⟩
theorem Uz {T : Hp} (h : Z4 T) : BN [60, 61] T = T := by
 unfold BN
 refine List.filter_eq_self.2 fun p hp => ?_
 have h1 := h p hp
 have h2 : ¬ p.1 = 60 := by omega
 have h3 : ¬ p.1 = 61 := by omega
 simp [h2, h3]
structure AeL (l : List Node) (B M f : Nat) (x y : EV) (st : ES) : Prop where
 hx : x.ok l B st.refs.length (700 * st.steps)
 hy : y.ok l B st.refs.length (700 * st.steps)
 hst : st.ok l B M
 h0 : st.stop = 0
 hf : M - st.steps < f
set_option maxHeartbeats 8000000 in
theorem AbC {l : List Node} {B M b f : Nat} (hp : Cb l B) (hM : M ≤ 100000) (hE : EvI l B M b f) (x y : EV) (st : ES) (tv : Nat) (n : Int) (vs : List Nat) (xs : List AV) (xf xy : AV) (hc : AeL l B M f x y st) (hR : Dz l vs (M - st.steps) st.refs xs) (ix : IR l vs (M - st.steps) x xf) (iy : IR l vs (M - st.steps) y xy) : Ay Tryz.prog 104 [.ptr 60 b 0 0, xf, xy] (iH b tv M st n vs xs) (Di l vs b M (Lh l M f x y st)) := by
 refine Dk.H rfl ?_
 have yo := iy.one
 have yp := fun hp => iy.AR hp
 have yA := fun hp => iy.Bv hp
 have yq := fun hp => iy.pur hp
 have hT := BC 0 vs xs
 have hTT := Bh vs xs 0
 have hT1 := Bf hT 60
 have hT2 := Bf hT 61
 obtain ⟨T, hTe⟩ : ∃ T, T = Co 0 vs xs := ⟨_, rfl⟩
 have hst0 : ∀ {P : Prop}, st.stop = 2 → P := fun h => absurd (hc.h0.symm.trans h) (by decide)
 rw [BE]
 rcases Abj x with ⟨i, nm, e, rfl⟩ | ⟨s, rfl⟩ | ⟨h6, h7, hbad⟩
 ·obtain ⟨z, rfl, zo, zp, zA, zc, hz⟩ := AdJ ix
  have hx := hc.hx
  rw [EV.ok] at hx
  have hs := hp.nodes.str _ (hp.nodes.mem hx.1)
  have hcf := hc.hf
  have C := hE (kd l i 0) (.cons (l.getD i default).s y (if nm = bs [] then e else .cons nm (.fn i nm e) e)) st tv n vs xs (.obj [.str (l.getD i default).s, xy, z]) ⟨hp.nodes.Bt hx.1 0, by
    rw [EE.ok]
    refine ⟨hs, EV.Ak (Nat.le_refl _) (by omega) hc.hy, ?_⟩
    split
    ·exact EE.Ak (Nat.le_refl _) (by omega) hx.2.2.2.2
    ·rw [EE.ok]; exact ⟨hx.2.2.1, EV.Ak (Nat.le_refl _) (by omega) hc.hx, EE.Ak (Nat.le_refl _) (by omega) hx.2.2.2.2⟩, by
    have := hx.2.2.2.1
    rw [EE.len]
    split
    ·omega
    ·rw [EE.len]; omega, hc.hst, hc.h0, hcf⟩ hR rfl (fun _ => rfl) (fun hlt => .cons _ _ _ _ _ _ (iy.mono _ (by omega)) (hz _ (by omega)))
  rw [show Lh l M f (.fn i nm e) y st = An l M f (kd l i 0) (.cons (l.getD i default).s y (if nm = bs [] then e else .cons nm (.fn i nm e) e)) st from rfl]
  rw [BE, ← hTe] at C
  rw [← hTe] at hT hTT hT1 hT2 ⊢
  unfold fnA wB
  simp +contextual -dsimp (maxSteps := 2000000) only [↓SD, SU, simprocAttr, Dk, yo, yp, yA, zo, zp, zA, zc, A7, BW, Bx, BA]
  refine Cl _ _ T hT C (by simp +contextual -dsimp only [↓SD, SU, simprocAttr, wB]) (by simp +contextual -dsimp only [↓SD, SU, simprocAttr]) (by repeat (first | exact hTT | refine Am ?_ hT (by decide))) ?_
  intro r2 hp2 hr2 R2 hRg2
  obtain ⟨so, sp, sq⟩ := hr2.form
  have hs2 := hr2.self
  simp +contextual -dsimp (maxSteps := 2000000) only [↓SD, SU, simprocAttr, so, sp, sq]
  refine Af.post hp2 ?_
  simp +contextual -dsimp (maxSteps := 2000000) only [↓SD, SU, simprocAttr, so, sp, sq]
  exact ⟨AX hs2, hr2⟩
 ·obtain ⟨A, B', C', rfl⟩ := Cs iy
  cases ix
  rw [← hTe] at hT hTT hT1 hT2 ⊢
  have htr := hc.hst.tr
  have hsM := hc.hst.steps
  have hyok := hc.hy
  have C := WS b tv M st n s y (y.is_ l) (fun m h => by subst h; exact hyok) (fun u h => by subst h; rw [EV.ok] at hyok; exact ⟨rfl, Nat.le_trans hyok hp.big⟩) (by omega) hc.hst.inp hc.hst.inl hc.h0
  rw [show Lh l M f (.given s) y st = Bm s y st from rfl]
  obtain ⟨RG1, RG2, RG3⟩ := UI s y st
  have hT3 := Uz hT
  unfold wH wB at C
  unfold ivA wB
  simp +contextual -dsimp (maxSteps := 2000000) only [↓SD, SU, simprocAttr, Dk, yo, yp, yA]
  refine Ae [60, 61] C (by simp +contextual -dsimp only [↓SD, SU, simprocAttr]) ?_
  rintro r hp' ⟨tv1, n1, rfl, hn1, rfl⟩
  generalize Bm s y st = X at *
  obtain ⟨o, st2⟩ := X
  dsimp only at RG1 RG2 RG3 hn1
  have hR2 : Dz l vs (M - st2.steps) st2.refs xs := by rw [RG1, RG2]; exact hR
  cases o with
  | none =>
   unfold wH wB HM
   simp +contextual -dsimp (maxSteps := 2000000) only [↓SD, SU, simprocAttr, hT3]
   refine Af.post ((60, wB b tv1 M st2 n1) :: (61, ⟨tv1, false, 9, 1, st2.tr.map av⟩) :: T) ?_
   unfold wB
   simp +contextual -dsimp (maxSteps := 2000000) only [↓SD, SU, simprocAttr]
   refine ⟨by repeat (first | exact hTT | exact AX hTT | refine Am ?_ hT (by decide)), ?_⟩
   exact Ca hTe hR2 hn1 (.inr ⟨rfl, rfl⟩)
  | some v =>
   rcases RG3 v rfl with ⟨m, rfl⟩ | rfl
   ·unfold wH wB HM
    simp +contextual -dsimp (maxSteps := 2000000) only [↓SD, SU, simprocAttr, hT3]
    refine Af.post ((60, wB b tv1 M st2 n1) :: (61, ⟨tv1, false, 9, 1, st2.tr.map av⟩) :: T) ?_
    unfold wB
    simp +contextual -dsimp (maxSteps := 2000000) only [↓SD, SU, simprocAttr]
    refine ⟨by repeat (first | exact hTT | exact AX hTT | refine Am ?_ hT (by decide)), ?_⟩
    exact Ca hTe hR2 hn1 (.inl ⟨_, rfl, .int _ _⟩)
   ·unfold wH wB HM
    simp +contextual -dsimp (maxSteps := 2000000) only [↓SD, SU, simprocAttr, hT3]
    refine Af.post ((60, wB b tv1 M st2 n1) :: (61, ⟨tv1, false, 9, 1, st2.tr.map av⟩) :: T) ?_
    unfold wB
    simp +contextual -dsimp (maxSteps := 2000000) only [↓SD, SU, simprocAttr]
    refine ⟨by repeat (first | exact hTT | exact AX hTT | refine Am ?_ hT (by decide)), ?_⟩
    exact Ca hTe hR2 hn1 (.inl ⟨_, rfl, .unit _⟩)
 ·obtain ⟨A, B', C', rfl⟩ := Cs ix
  rw [hbad]
  rw [← hTe] at hT hTT hT1 hT2 ⊢
  have g6 := eq_false h6
  have g7 := eq_false h7
  unfold wB
  simp +contextual -dsimp (maxSteps := 2000000) only [↓SD, SU, simprocAttr, Dk, yo, yp, yA, g6, g7]
  refine Ae [60] (DE b tv M st n) (by simp +contextual -dsimp only [↓SD, SU, simprocAttr, wB]) ?_
  rintro r hp' ⟨rfl, rfl⟩
  unfold wB
  simp +contextual -dsimp (maxSteps := 2000000) only [↓SD, SU, simprocAttr, hT1]
  refine Af.post ((60, wB b tv M st.bad n) :: (61, ⟨tv, false, 9, 1, st.tr.map av⟩) :: T) ?_
  unfold wB
  simp +contextual -dsimp (maxSteps := 2000000) only [↓SD, SU, simprocAttr, show st.bad.inp = st.inp from rfl, show st.bad.tr = st.tr from rfl, show st.bad.steps = st.steps from rfl, show st.bad.stop = 4 from rfl]
  refine ⟨by repeat (first | exact hTT | exact AX hTT | refine Am ?_ hT (by decide)), ?_⟩
  exact Ca (st := st.bad) hTe hR (fun h => absurd (show (4 : Int) = 2 from h) (by decide)) (.inr ⟨rfl, rfl⟩)
end Go.Proofs.YtjbcnilllfaipaaGreat
