/-
 THE REFERENCE'S EVALUATOR, by its abstract texts: l08Apply, l08Match, l08Eval. Conditions: none. Printed by eve.py.
-/
import Derived.Test.YtjbcnilllfaipaaGreatYEvG
import Derived.Test.YtjbcnilllfaipaaGreatYEvH
import Derived.Test.YtjbcnilllfaipaaGreatYJ26
set_option linter.unusedVariables false
set_option linter.unusedSimpArgs false
set_option maxRecDepth 100000
namespace Go.Proofs.YtjbcnilllfaipaaGreat
open Go.RowKit Go.Proofs.YtjbcnilllfaipaaGreat.Av Go.Proofs.YtjbcnilllfaipaaGreat.Ml
open Go.Proofs.YtjbcnilllfaipaaGreat.Av.AVal (av)

structure Cb (l : List Node) (B : Nat) : Prop where
 nodes : GS l B
 node : ∀ n ∈ l, AP BK l n = true
 As : ∀ n ∈ l, ∀ q ∈ n.As, Ft q.nodes = true
 bulk : Ad.bulk l ≤ 1099511627776
 big : B ≤ 1099511627776
structure Can (l : List Node) (B M f i : Nat) (e : EE) (st : ES) : Prop where
 hi : i < l.length
 he : e.ok l B st.refs.length (700 * (st.steps + 1))
 hl : e.len ≤ 700 * (st.steps + 1)
 hst : st.ok l B M
 h0 : st.stop = 0
 hf : M - st.steps < f
def EvS (ty : List BP) (l : List Node) (B M b f : Nat) : Prop := ∀ i e st tv rv, Can l B M f i e st → Ay Tryz.prog 20 [.ptr 60 b 0 0, .int .i64 i, .sl (e.bs.map av)] (mH ty l M b tv rv st) (PT ty l M b (An l M f i e st))
theorem Abh {l : List Node} {B : Nat} (hp : Cb l B) {i : Nat} (hi : i < l.length) {j : Nat} (hj : j < l[i].kids.length) : (l[i].kids.map (av : Int → AV)).getD j .top = .int .i64 (kd l i j) := by
 have e1 := getD_map (av : Int → AV) l[i].kids j .top hj
 have hk : AF l i = l[i].kids := by simp [AF, List.getD_eq_getElem?_getD, hi]
 have hr := hp.nodes.kids i hi l[i].kids[j] (by rw [hk]; exact List.getElem_mem hj)
 have e2 : (kd l i j : Int) = l[i].kids[j] := by
  unfold kd
  rw [hk, show l[i].kids.getD j 0 = l[i].kids[j] by simp [List.getD_eq_getElem?_getD, hj]]
  omega
 rw [e1, Bo, e2]
theorem MK {l : List Node} {B : Nat} (hp : Cb l B) {i : Nat} (hi : i < l.length) (ha : 0 ≤ AJ l[i].kind) : (l[i].kids.length : Int) = AJ l[i].kind := by
 have h := hp.node l[i] (List.getElem_mem hi)
 unfold AP at h
 split at h
 ·cases h
 ·omega
def Lh (l : List Node) (M f : Nat) (x y : EV) (st : ES) : Option EV × ES := match x with
 | .fn i' nm env => An l M f (kd l i' 0) (.cons (l.getD i' default).s y (if nm = bs [] then env else .cons nm x env)) st
 | .given s => Bm s y st
 | _ => (none, st.bad)
theorem k6 {v : EV} (h : v.k = 6) : ∃ i nm e, v = .fn i nm e := by cases v <;> first | exact ⟨_, _, _, rfl⟩ | (simp [EV.k] at h)
theorem k8 {v : EV} (h : v.k = 8) : ∃ s, v = .given s := by cases v <;> first | exact ⟨_, rfl⟩ | (simp [EV.k] at h)
theorem Bz {o : Option EV} {x : AV} (h : Df o x) :
  ∃ (k n : Int) (t : ByteArray) (A E : AV) (bb : Bool), x = .tup [.agg [.int .i64 k, .int .i64 n, .str t, A, E], .bool bb] ∧ (∀ hp, A.AR hp = A) ∧ (∀ hp, E.AR hp = E) ∧ A.one = true ∧ E.one = true := by
 cases o with
 | none => exact ⟨0, 0, bs [], .Ar, .Ar, false, h, fun _ => rfl, fun _ => rfl, rfl, rfl⟩
 | some u => exact ⟨u.k, u.num, u.txt, u.kA, u.eA, true, h.trans (by rw [AU]), kA1 u, eA1 u, kAo u, eAo u⟩
set_option maxHeartbeats 8000000 in
theorem ZY {ty : List BP} {l : List Node} {B M b f : Nat} (hp : Cb l B) (hM : M ≤ 100000) (hE : EvS ty l B M b f) (tv rv : Nat) (x y : EV) (st : ES) (hst : st.ok l B M) (h0 : st.stop = 0) (hx : x.ok l B st.refs.length (700 * st.steps)) (hy : y.ok l B st.refs.length (700 * st.steps)) (hf : M - st.steps < f) (hil : st.inp.length ≤ 1099511627776) (hyt : y.txt.size ≤ 1099511627776) : Ay Tryz.prog 45 [.ptr 60 b 0 0, av x, av y] (mH ty l M b tv rv st) (PT ty l M b (Lh l M f x y st)) := by
 have s1 := hst.steps
 have s2 := hst.tr
 refine D3.H rfl ?_
 by_cases h8 : x.k = 8
 ·obtain ⟨s, rfl⟩ := k8 h8
  have C := AbB ty l M b tv rv st s y (fun hk => by cases y <;> first | exact hy | (simp [EV.k] at hk)) hyt (by omega) hst.inp hil
  rw [AU] at C
  have r1 : (EV.given s).k = 8 := rfl
  have r3 : (EV.given s).txt = s := rfl
  rw [AU, AU]
  rw [show Lh l M f (.given s) y st = Bm s y st from rfl]
  unfold mH mE at C ⊢
  simp +contextual -dsimp (maxSteps := 2000000) only [↓SD, SU, simprocAttr, D3, r1, r3, kA1, eA1, kAo, eAo]
  intro v6
  refine Ae [60, 61, 62] C (by simp +contextual -dsimp only [↓SD, SU, simprocAttr]) ?_
  rintro r hp' ⟨tv1, rv1, rfl, hr⟩
  obtain ⟨z1, z2, z3, z4, z5, z6, rfl, p4, p5, o4, o5⟩ := Bz hr
  generalize Bm s y st = R at *
  unfold mH mE
  simp +contextual -dsimp (maxSteps := 2000000) only [↓SD, SU, simprocAttr, p4, p5, o4, o5]
  refine Af.post (mH ty l M b tv1 rv1 R.2) ?_
  unfold mH mE
  simp +contextual -dsimp (maxSteps := 2000000) only [↓SD, SU, simprocAttr, p4, p5]
  exact ⟨tv1, rv1, by simp [mH, mE], hr⟩
 have g8 := eq_false h8
 by_cases h6 : x.k = 6
 ·obtain ⟨i, nm, e, rfl⟩ := k6 h6
  have hx' := hx
  rw [EV.ok] at hx
  obtain ⟨hi, hk5, hnm, hel, he⟩ := hx
  have r1 : (EV.fn i nm e).k = 6 := rfl
  have r2 : (EV.fn i nm e).num = (i : Int) := rfl
  have r3 : (EV.fn i nm e).txt = nm := rfl
  have r4 : (EV.fn i nm e).kA = .Ar := by rw [EV.kA]
  have r5 := Pr i nm e
  have e1 := getD_map av l i .top hi
  have hgd : l.getD i default = l[i] := by simp [List.getD_eq_getElem?_getD, hi]
  have hs := hp.nodes.str _ (List.getElem_mem hi)
  rw [hgd] at hk5
  have hkl := MK hp hi (by rw [hk5]; decide)
  rw [hk5] at hkl
  have hkl2 : l[i].kids.length = 1 := Int.ofNat_inj.1 hkl
  have hk0 := Abh hp hi (j := 0) (by omega)
  have hk02 : 0 < l[i].kids.length := by omega
  have app : ∀ env : EE, env.ok l B st.refs.length (700 * (st.steps + 1)) → env.len + 1 ≤ 700 * (st.steps + 1) → Ay Tryz.prog 20 [.ptr 60 b 0 0, .int .i64 (kd l i 0), .sl ((EE.cons l[i].s y env).bs.map av)] (mH ty l M b tv rv st) (PT ty l M b (An l M f (kd l i 0) (.cons l[i].s y env) st)) := fun env he1 he2 =>
   hE _ _ st tv rv ⟨hp.nodes.Bt hi 0, by rw [EE.ok]; exact ⟨hs, EV.Ak (Nat.le_refl _) (by omega) hy, he1⟩, by rw [EE.len]; omega, hst, h0, hf⟩
  have hb1 := AW (List.getElem_mem hi)
  by_cases hn0 : nm = bs []
  ·have e0 : Lh l M f (.fn i nm e) y st = An l M f (kd l i 0) (.cons l[i].s y e) st := by unfold Lh; dsimp only; rw [if_pos hn0, hgd]
   rw [e0]
   have gn := eq_true hn0
   have CW := IU e l[i].s y (by omega)
   have CE := app e (EE.Ak (Nat.le_refl _) (by omega) he) (by omega)
   rw [AU] at CW ⊢
   rw [AU]
   generalize hRR : An l M f (kd l i 0) (.cons l[i].s y e) st = R at *
   generalize hWW : (EE.cons l[i].s y e).bs.map (av : EB → AV) = W at *
   have hWp : ∀ hp, W.map (AV.pur hp) = W := fun hp => by rw [← hWW]; exact AA _ hp
   clear hRR hWW app
   generalize l[i] = n at *
   obtain ⟨k1, pos, nn, s, kids, As⟩ := n
   rw [AL] at e1
   dsimp only at *
   unfold mH mE at CE ⊢
   simp +contextual -dsimp (maxSteps := 2000000) only [↓SD, SU, simprocAttr, D3, Aa, r1, r2, r3, r4, r5, gn, hi, e1, hk02, hk0, kA1, eA1, kAo, eAo, AA, g8]
   intro v6
   refine ⟨?_, ?_⟩
   all_goals
    intro v9
    refine ⟨by omega, ?_⟩
    refine Ab _ CW ?_
    simp +contextual -dsimp (maxSteps := 2000000) only [↓SD, SU, simprocAttr, hWp]
    refine Ae [60, 61, 62] CE (by simp +contextual -dsimp only [↓SD, SU, simprocAttr]) ?_
    rintro r hp' ⟨tv1, rv1, rfl, hr⟩
    obtain ⟨z1, z2, z3, z4, z5, z6, rfl, p4, p5, o4, o5⟩ := Bz hr
    unfold mH mE
    simp +contextual -dsimp (maxSteps := 2000000) only [↓SD, SU, simprocAttr, p4, p5, o4, o5]
    refine Af.post (mH ty l M b tv1 rv1 R.2) ?_
    unfold mH mE
    simp +contextual -dsimp (maxSteps := 2000000) only [↓SD, SU, simprocAttr, p4, p5]
    exact ⟨tv1, rv1, by simp [mH, mE], hr⟩
  ·have e0 : Lh l M f (.fn i nm e) y st = An l M f (kd l i 0) (.cons l[i].s y (.cons nm (.fn i nm e) e)) st := by unfold Lh; dsimp only; rw [if_neg hn0, hgd]
   rw [e0]
   have gn := eq_false hn0
   have CW0 := IU e nm (.fn i nm e) (by omega)
   have CW := IU (.cons nm (.fn i nm e) e) l[i].s y (by rw [EE.len]; omega)
   have CE := app (.cons nm (.fn i nm e) e) (by rw [EE.ok]; exact ⟨hnm, EV.Ak (Nat.le_refl _) (by omega) hx', EE.Ak (Nat.le_refl _) (by omega) he⟩) (by rw [EE.len]; omega)
   rw [AU] at CW0 CW ⊢
   rw [r1, r2, r3, r4, r5] at CW0
   rw [AU]
   generalize hRR : An l M f (kd l i 0) (.cons l[i].s y (.cons nm (.fn i nm e) e)) st = R at *
   generalize hWW : (EE.cons l[i].s y (.cons nm (.fn i nm e) e)).bs.map (av : EB → AV) = W at *
   have hWp : ∀ hp, W.map (AV.pur hp) = W := fun hp => by rw [← hWW]; exact AA _ hp
   generalize hWW2 : (EE.cons nm (.fn i nm e) e).bs.map (av : EB → AV) = W2 at *
   have hWp2 : ∀ hp, W2.map (AV.pur hp) = W2 := fun hp => by rw [← hWW2]; exact AA _ hp
   clear hRR hWW hWW2 app
   generalize l[i] = n at *
   obtain ⟨k1, pos, nn, s, kids, As⟩ := n
   rw [AL] at e1
   dsimp only at *
   unfold mH mE at CE ⊢
   simp +contextual -dsimp (maxSteps := 2000000) only [↓SD, SU, simprocAttr, D3, Aa, r1, r2, r3, r4, r5, gn, hi, e1, hk02, hk0, kA1, eA1, kAo, eAo, AA, g8]
   intro v6
   refine Ab _ CW0 ?_
   simp +contextual -dsimp (maxSteps := 2000000) only [↓SD, SU, simprocAttr, Aa, r1, r2, r3, r4, r5, gn, hi, e1, hk02, hk0, kA1, eA1, kAo, eAo, AA, hWp2]
   refine ⟨?_, ?_⟩
   all_goals
    intro v9
    refine ⟨by omega, ?_⟩
    refine Ab _ CW ?_
    simp +contextual -dsimp (maxSteps := 2000000) only [↓SD, SU, simprocAttr, hWp]
    refine Ae [60, 61, 62] CE (by simp +contextual -dsimp only [↓SD, SU, simprocAttr]) ?_
    rintro r hp' ⟨tv1, rv1, rfl, hr⟩
    obtain ⟨z1, z2, z3, z4, z5, z6, rfl, p4, p5, o4, o5⟩ := Bz hr
    unfold mH mE
    simp +contextual -dsimp (maxSteps := 2000000) only [↓SD, SU, simprocAttr, p4, p5, o4, o5]
    refine Af.post (mH ty l M b tv1 rv1 R.2) ?_
    unfold mH mE
    simp +contextual -dsimp (maxSteps := 2000000) only [↓SD, SU, simprocAttr, p4, p5]
    exact ⟨tv1, rv1, by simp [mH, mE], hr⟩
 ·have g6 := eq_false h6
  have er : Lh l M f x y st = (none, { st with stop := 4, n := 0 }) := by cases x <;> first | rfl | (exact absurd rfl h6) | (exact absurd rfl h8)
  rw [er, AU, AU]
  unfold mH mE
  simp +contextual -dsimp (maxSteps := 2000000) only [↓SD, SU, simprocAttr, D3, g8, g6, kA1, eA1, kAo, eAo]
  intro v6
  refine Ae [60, 61, 62] (Ci ty l M b tv rv st (4) (0)) (by simp +contextual -dsimp only [↓SD, SU, simprocAttr, mH, mE]) ?_
  rintro r hp' ⟨tv1, rv1, rfl, hr⟩
  obtain ⟨z1, z2, z3, z4, z5, z6, rfl, p4, p5, o4, o5⟩ := Bz hr
  generalize ((none, { st with stop := 4, n := 0 }) : Option EV × ES) = R at *
  unfold mH mE
  simp +contextual -dsimp (maxSteps := 2000000) only [↓SD, SU, simprocAttr, p4, p5, o4, o5]
  refine Af.post (mH ty l M b tv1 rv1 R.2) ?_
  unfold mH mE
  simp +contextual -dsimp (maxSteps := 2000000) only [↓SD, SU, simprocAttr, p4, p5]
  exact ⟨tv1, rv1, by simp [mH, mE], hr⟩
def Wp (l : List Node) (M f i : Nat) (a : EV) (e : EE) (st : ES) : Option EV × ES := match Gr ((l.getD i default).As.map DY) a e 0 with
 | some (j, e') => An l M f (kd l i (j + 1)) e' st
 | none => (none, st.raise (-1))
set_option maxHeartbeats 8000000 in
theorem Zz {ty : List BP} {l : List Node} {B M b f : Nat} (hp : Cb l B) (hM : M ≤ 100000) (hE : EvS ty l B M b f) (tv rv : Nat) (i : Nat) (hi : i < l.length) (h13 : l[i].kind = 13) (v : EV) (e : EE) (st : ES) (hst : st.ok l B M) (h0 : st.stop = 0) (hv : v.ok l B st.refs.length (700 * st.steps)) (he : e.ok l B st.refs.length (700 * st.steps)) (hel : e.len + 700 ≤ 700 * (st.steps + 1)) (hf : M - st.steps < f) :
  Ay Tryz.prog 43 [.ptr 60 b 0 0, av l[i], av v, .sl (e.bs.map av)] (mH ty l M b tv rv st) (PT ty l M b (Wp l M f i v e st)) := by
 have s1 := hst.steps
 refine Ip.H rfl ?_
 have hm := List.getElem_mem hi
 have hgd : l.getD i default = l[i] := by simp [List.getD_eq_getElem?_getD, hi]
 have hkl : l[i].kids.length = l[i].As.length + 1 := by
  have h := hp.node _ hm
  unfold AP at h
  split at h
  ·cases h
  ·simp [h13] at h; omega
 have hb1 := AW hm
 have hb2 : Ad.bulk l[i] = Ad.bulk l[i].kind + Ad.bulk l[i].pos + Ad.bulk l[i].n + (l[i].s.size + 1) + Ad.bulk l[i].kids + Ad.bulk l[i].As + 1 := rfl
 have hb3 := hp.bulk
 have hpl := Ao l[i].As
 have hpp := hp.As _ hm
 have hpo := hp.nodes.pat _ hm
 have hkd := fun j (hj : j < l[i].kids.length) => Abh hp hi (j := j) hj
 have hem : Wp l M f i v e st = (match Gr (l[i].As.map DY) v e 0 with
  | some (j, e') => An l M f (kd l i (j + 1)) e' st
  | none => (none, st.raise (-1))) := by unfold Wp; rw [hgd]
 obtain ⟨RR, hRR⟩ : ∃ RR, RR = Wp l M f i v e st := ⟨_, rfl⟩
 rw [← hRR]
 rw [hem] at hRR
 clear hem hgd
 generalize l[i] = n at *
 obtain ⟨k1, pos, nn, s, kids, As⟩ := n
 rw [AL, AU]
 dsimp only at *
 unfold mH mE
 simp +contextual -dsimp (maxSteps := 2000000) only [↓SD, SU, simprocAttr, Ip, Aa, kA1, eA1, kAo, eAo, AA]
 intro v8
 refine Al (X := Nat) (fun j => ⟨[(0, .ptr 60 b 0 0), (3, .sl (e.bs.map av)), (5, .obj [.int .i64 k1, .int .i64 pos, .int .i64 nn, .str s, .sl (kids.map av), .sl (As.map av)]), (6, .obj [.int .i64 v.k, .int .i64 v.num, .str v.txt, v.kA, v.eA]), (8, .ptr 8 v8 0 0), (15, .sl (As.map av)), (16, .int .i64 As.length), (17, .int .i64 j)], [(8, ⟨v8, false, 55, 5, [zV]⟩), (60, mE ty l M b tv rv st), (61, ⟨tv, false, 9, 1, st.tr.map av⟩), (62, ⟨rv, false, 55, 5, st.refs.map av⟩)]⟩) (fun j => j ≤ As.length ∧ Gr (As.map DY) v e 0 = Gr ((As.drop j).map DY) v e j) (fun j => As.length - j) 0 ⟨Nat.zero_le _, rfl⟩ (by simp +contextual -dsimp only [↓SD, SU, simprocAttr]) (by simp +contextual -dsimp only [↓SD, SU, simprocAttr, zV, mE]) ?_
 rintro j ⟨hj, ha⟩
 unfold mE zV
 by_cases hlt : j < As.length
 ·have e9 := getD_map av As j .top hlt
  have hq := hpp As[j] (List.getElem_mem hlt)
  have hq2 := hpo As[j] (List.getElem_mem hlt)
  have hqb := AW (List.getElem_mem hlt)
  have hqb2 : Ad.bulk As[j] = Ad.bulk As[j].nodes + 1 := rfl
  have hq3 := hq
  simp only [Ft, Bool.and_eq_true, decide_eq_true_eq] at hq3
  have hX : Dc (phd As[j].nodes) (B8 As[j].nodes) (As[j].nodes.length + 1) 0 = DY As[j] := MR (fun i hi k hk => GJ hq3.1.2 hi hk) _ _ 0 (by omega) (by omega) (by omega)
  have CH := Abk As[j].nodes hq (by omega) (As[j].nodes.length + 1) 0 _ (of_decide_eq_true hq3.1.2) v e (by rw [hX]; omega)
  rw [hX, AU] at CH
  have hd : As.drop j = As[j] :: As.drop (j + 1) := List.drop_eq_getElem_cons hlt
  rw [hd, List.map_cons, Gr] at ha
  have hok := NX hq2.1 (EV.Ak (Nat.le_refl _) (show 700 * st.steps ≤ 700 * (st.steps + 1) by omega) hv) (EE.Ak (Nat.le_refl _) (show 700 * st.steps ≤ 700 * (st.steps + 1) by omega) he)
  have hle := Mc (DY As[j]) v e
  have hkj := hkd (j + 1) (by omega)
  have hj1 : (j : Int) + 1 < (kids.length : Int) := by omega
  have hj2 : j + 1 < kids.length := by omega
  have hj3 : ((j : Int) + 1).toNat = j + 1 := by omega
  generalize As[j] = q at *
  obtain ⟨qn⟩ := q
  rw [C9] at e9
  dsimp only at CH e9
  by_cases hb : (EL (DY ⟨qn⟩) v e).2 = true
  ·rw [NL, if_pos hb] at ha
   dsimp only at ha
   have CE := hE _ (EL (DY ⟨qn⟩) v e).1 st tv rv ⟨hp.nodes.Bt hi (j + 1), hok, by omega, hst, h0, hf⟩
   rw [ha] at hRR
   dsimp only at hRR
   rw [← hRR] at CE
   rw [hb] at CH
   generalize (EL (DY ⟨qn⟩) v e).1 = e' at *
   generalize RR = R at *
   unfold mH mE at CE
   simp +contextual -dsimp (maxSteps := 2000000) only [↓SD, SU, simprocAttr, Aa, hlt, e9, kA1, eA1, kAo, eAo, AA]
   intro v11
   refine Ab _ CH ?_
   simp +contextual -dsimp (maxSteps := 2000000) only [↓SD, SU, simprocAttr, Aa, hlt, e9, hj1, hj2, hj3, hkj, kA1, eA1, kAo, eAo, AA]
   refine ⟨by omega, by omega, ?_⟩
   refine Ae [60, 61, 62] CE (by simp +contextual -dsimp only [↓SD, SU, simprocAttr]) ?_
   rintro r hp' ⟨tv1, rv1, rfl, hr⟩
   obtain ⟨z1, z2, z3, z4, z5, z6, rfl, p4, p5, o4, o5⟩ := Bz hr
   unfold mH mE
   simp +contextual -dsimp (maxSteps := 2000000) only [↓SD, SU, simprocAttr, p4, p5, o4, o5]
   refine Af.post (mH ty l M b tv1 rv1 R.2) ?_
   unfold mH mE
   simp +contextual -dsimp (maxSteps := 2000000) only [↓SD, SU, simprocAttr, p4, p5]
   exact ⟨tv1, rv1, by simp [mH, mE], hr⟩
  ·have hb' : (EL (DY ⟨qn⟩) v e).2 = false := by simpa using hb
   rw [NL, if_neg hb] at ha
   dsimp only at ha
   rw [hb'] at CH
   generalize (EL (DY ⟨qn⟩) v e).1 = e' at *
   simp +contextual -dsimp (maxSteps := 2000000) only [↓SD, SU, simprocAttr, Aa, hlt, e9, kA1, eA1, kAo, eAo, AA]
   intro v11
   refine Ab _ CH ?_
   simp +contextual -dsimp (maxSteps := 2000000) only [↓SD, SU, simprocAttr, Aa, hlt, e9, kA1, eA1, kAo, eAo, AA]
   exact ⟨by omega, Af.le ⟨j + 1, ⟨⟨hlt, ha⟩, (by first | omega | (simp only; omega))⟩, rfl⟩ (by simp +contextual -dsimp only [↓SD, SU, simprocAttr, Int.natCast_add]) (by simp +contextual -dsimp only [↓SD, SU, simprocAttr])⟩
 ·obtain rfl : j = As.length := by omega
  rw [List.drop_length, List.map_nil, Gr] at ha
  rw [ha] at hRR
  have hr2 : RR = ((none, { st with stop := 2, n := -1 }) : Option EV × ES) := hRR
  rw [hr2]
  simp +contextual -dsimp (maxSteps := 2000000) only [↓SD, SU, simprocAttr, Aa, Nat.lt_irrefl]
  refine Ae [60, 61, 62] (Ci ty l M b tv rv st (2) (-1)) (by simp +contextual -dsimp only [↓SD, SU, simprocAttr, mH, mE]) ?_
  rintro r hp' ⟨tv1, rv1, rfl, hr⟩
  obtain ⟨z1, z2, z3, z4, z5, z6, rfl, p4, p5, o4, o5⟩ := Bz hr
  generalize ((none, { st with stop := 2, n := -1 }) : Option EV × ES) = R at *
  unfold mH mE
  simp +contextual -dsimp (maxSteps := 2000000) only [↓SD, SU, simprocAttr, p4, p5, o4, o5]
  refine Af.post (mH ty l M b tv1 rv1 R.2) ?_
  unfold mH mE
  simp +contextual -dsimp (maxSteps := 2000000) only [↓SD, SU, simprocAttr, p4, p5]
  exact ⟨tv1, rv1, by simp [mH, mE], hr⟩
theorem AdG {l : List Node} {n : Node} (h : AP BK l n = true) : n.kind = 1 ∨ n.kind = 2 ∨ n.kind = 3 ∨ n.kind = 4 ∨ n.kind = 5 ∨ n.kind = 6 ∨ n.kind = 7 ∨ n.kind = 8 ∨ n.kind = 9 ∨ n.kind = 10 ∨ n.kind = 11 ∨ n.kind = 12 ∨ n.kind = 13 ∨ n.kind = 14 ∨ n.kind = 15 ∨ n.kind = 16 ∨ n.kind = 17 ∨ n.kind = 18 ∨ n.kind = 19 := by
 unfold AP at h
 repeat' (split at h)
 all_goals first | omega | cases h
set_option maxHeartbeats 8000000 in
theorem WH {ty : List BP} {l : List Node} {B M b f : Nat} (hp : Cb l B) (hM : M ≤ 100000) (hil : ∀ st : ES, st.ok l B M → st.inp.length ≤ 1099511627776) (hE : EvS ty l B M b f) : EvS ty l B M b (f + 1) := by
 intro i e st tv rv hc
 obtain ⟨hi, he, hel, hst, h0, hf⟩ := hc
 have s1 := hst.steps
 have s2 := hst.refs
 have s3 := hst.tr
 have hgd : l.getD i default = l[i] := by simp [List.getD_eq_getElem?_getD, hi]
 have e1 := getD_map av l i .top hi
 have e2 := e1
 rw [AL] at e1
 refine Gn.H rfl ?_
 rw [An]
 by_cases hMs : M ≤ st.steps
 ·rw [if_pos hMs, show st.out = { st with stop := 3, n := 0 } from rfl]
  have g0 := eq_true (show (M : Int) ≤ (st.steps : Int) by omega)
  unfold mH mE
  simp +contextual -dsimp (maxSteps := 2000000) only [↓SD, SU, simprocAttr, Gn, g0]
  intro v6
  refine Ae [60, 61, 62] (Ci ty l M b tv rv st (3) (0)) (by simp +contextual -dsimp only [↓SD, SU, simprocAttr, mH, mE]) ?_
  rintro r hp' ⟨tv1, rv1, rfl, hr⟩
  obtain ⟨z1, z2, z3, z4, z5, z6, rfl, p4, p5, o4, o5⟩ := Bz hr
  generalize ((none, { st with stop := 3, n := 0 }) : Option EV × ES) = R at *
  unfold mH mE
  simp +contextual -dsimp (maxSteps := 2000000) only [↓SD, SU, simprocAttr, p4, p5, o4, o5]
  refine Af.post (mH ty l M b tv1 rv1 R.2) ?_
  unfold mH mE
  simp +contextual -dsimp (maxSteps := 2000000) only [↓SD, SU, simprocAttr, p4, p5]
  exact ⟨tv1, rv1, by simp [mH, mE], hr⟩
 rw [if_neg hMs, hgd]
 have g0 := eq_false (show ¬ (M : Int) ≤ (st.steps : Int) by omega)
 have q1 : -9223372036854775808 ≤ (st.steps : Int) + 1 ∧ (st.steps : Int) + 1 ≤ 9223372036854775807 := by omega
 have hq : (st.steps : Int) + 1 = (st.tick.steps : Int) := by simp [ES.tick]
 obtain ⟨RR, hRR⟩ : ∃ RR, RR = Ho l M l[i] i (fun j e st => An l M f (kd l i j) e st) (fun i' e st => An l M f (kd l i' 0) e st) e st.tick := ⟨_, rfl⟩
 rw [← hRR]
 unfold mH mE
 simp +contextual -dsimp (maxSteps := 2000000) only [↓SD, SU, simprocAttr, Gn, g0, q1.1, q1.2, Aa, hi, e1]
 intro v6 v8
 refine Me (Af.frz 8 (Af.pur 8 (Af.le (t := ⟨[(0, .ptr 60 b 0 0), (1, .int .i64 i), (2, .sl (e.bs.map av)), (6, .ptr 6 v6 0 0), (7, .bool false), (8, .obj [.int .i64 l[i].kind, .int .i64 l[i].pos, .int .i64 l[i].n, .str l[i].s, .sl (l[i].kids.map av), .sl (l[i].As.map av)])], [(6, ⟨v6, false, 55, 5, [zV]⟩), (60, mE ty l M b tv rv st.tick), (61, ⟨tv, false, 9, 1, st.tick.tr.map av⟩), (62, ⟨rv, false, 55, 5, st.tick.refs.map av⟩)]⟩) ?_ (by simp +contextual -dsimp only [↓SD, SU, simprocAttr]) (by simp +contextual -dsimp only [↓SD, SU, simprocAttr, zV, mE, hq, show st.tick.inp = st.inp from rfl, show st.tick.tr = st.tr from rfl, show st.tick.refs = st.refs from rfl, show st.tick.stop = st.stop from rfl, show st.tick.n = st.n from rfl]))))
 have hst1 := hst.tick (by omega : st.steps < M)
 have he1 : e.ok l B st.tick.refs.length (700 * st.tick.steps) := he
 have hel1 : e.len ≤ 700 * st.tick.steps := hel
 have h01 : st.tick.stop = 0 := h0
 have hf1 : M - st.tick.steps < f := by simp only [ES.tick]; omega
 have lt1 : st.tick.tr.length < st.tick.steps := Nat.lt_succ_of_le s3
 have lt2 : st.tick.refs.length < st.tick.steps := Nat.lt_succ_of_le s2
 clear hq q1 g0 s1 s2 s3 hMs he hel h0 hf e1 e2
 generalize st.tick = S at *
 clear hst
 have s1 := hst1.steps
 have hm := List.getElem_mem hi
 have hn := hp.node _ hm
 have hs := hp.nodes.str _ hm
 have hnum := hp.nodes.num _ hm
 have hka := fun h => MK hp hi h
 have hkd := fun j (hj : j < l[i].kids.length) => Abh hp hi (j := j) hj
 have hb1 := AW hm
 have hb2 : Ad.bulk l[i] = Ad.bulk l[i].kind + Ad.bulk l[i].pos + Ad.bulk l[i].n + (l[i].s.size + 1) + Ad.bulk l[i].kids + Ad.bulk l[i].As + 1 := rfl
 have hb3 := hp.bulk
 have hkl := Ao l[i].kids
 have CM := fun (h13 : l[i].kind = 13) v st tv rv a1 a2 a3 a4 a5 a6 => Zz hp hM hE tv rv i hi h13 v e st a1 a2 a3 a4 a5 a6
 generalize l[i] = n at *
 obtain ⟨k, pos, nn, s, kids, As⟩ := n
 dsimp only at *
 rcases AdG hn with hk | hk | hk | hk | hk | hk | hk | hk | hk | hk | hk | hk | hk | hk | hk | hk | hk | hk | hk
 all_goals
  dsimp only at hk
  subst hk
  simp only [Ho, Int.reduceEq, if_true, if_false] at hRR
 ·rw [hRR]
  unfold mE zV
  simp +contextual -dsimp (maxSteps := 2000000) only [↓SD, SU, simprocAttr]
  refine Af.post (mH ty l M b tv rv S) ?_
  unfold mH mE
  simp +contextual -dsimp (maxSteps := 2000000) only [↓SD, SU, simprocAttr, kA1, eA1]
  exact ⟨tv, rv, by simp [mH, mE], by simp [Df, EV.k, EV.num, EV.txt, EV.kA, EV.eA, AU, Pr, OT]⟩
 ·rw [hRR]
  unfold mE zV
  simp +contextual -dsimp (maxSteps := 2000000) only [↓SD, SU, simprocAttr]
  refine Af.post (mH ty l M b tv rv S) ?_
  unfold mH mE
  simp +contextual -dsimp (maxSteps := 2000000) only [↓SD, SU, simprocAttr, kA1, eA1]
  exact ⟨tv, rv, by simp [mH, mE], by simp [Df, EV.k, EV.num, EV.txt, EV.kA, EV.eA, AU, Pr, OT]⟩
 ·have CL := Aa8 ty l M b tv rv S s e (by omega)
  unfold mH mE at CL
  unfold mE zV
  simp +contextual -dsimp (maxSteps := 2000000) only [↓SD, SU, simprocAttr]
  refine Ae [60, 61, 62] CL (by simp +contextual -dsimp only [↓SD, SU, simprocAttr]) ?_
  rw [show RR = Uh s e S from by rw [hRR]; unfold Uh; cases DR s e <;> rfl]
  clear hRR
  rintro r hp' ⟨tv1, rv1, rfl, hr⟩
  obtain ⟨z1, z2, z3, z4, z5, z6, rfl, p4, p5, o4, o5⟩ := Bz hr
  generalize Uh s e S = R at *
  unfold mH mE
  simp +contextual -dsimp (maxSteps := 2000000) only [↓SD, SU, simprocAttr, p4, p5, o4, o5]
  refine Af.post (mH ty l M b tv1 rv1 R.2) ?_
  unfold mH mE
  simp +contextual -dsimp (maxSteps := 2000000) only [↓SD, SU, simprocAttr, p4, p5]
  exact ⟨tv1, rv1, by simp [mH, mE], hr⟩
 ·by_cases hk0 : kids.length = 0
  ·rw [if_pos hk0] at hRR
   rw [hRR]
   have g1 := eq_false (show ¬ (0 : Int) < (kids.length : Int) by omega)
   have g2 := eq_true (show (kids.length : Int) = 0 by omega)
   unfold mE zV
   simp +contextual -dsimp (maxSteps := 2000000) only [↓SD, SU, simprocAttr, Aa, g1, g2]
   intro v10
   refine Af.post (mH ty l M b tv rv S) ?_
   unfold mH mE
   simp +contextual -dsimp (maxSteps := 2000000) only [↓SD, SU, simprocAttr, kA1, eA1]
   exact ⟨tv, rv, by simp [mH, mE], by simp [Df, EV.k, EV.num, EV.txt, EV.kA, EV.eA, AU, Pr, OT]⟩
  ·rw [if_neg hk0] at hRR
   have c0 : (0 : Int) < (kids.length : Int) := by omega
   have d0 : 0 < kids.length := by omega
   have e0 := eq_false (show ¬ (kids.length : Int) = 0 by omega)
   have k0 := hkd 0 (by omega)
   have CE0 := hE (kd l i 0) e S tv rv ⟨hp.nodes.Bt hi 0, EE.Ak (Nat.le_refl _) (by omega) he1, by omega, hst1, h01, hf1⟩
   have RO := BO hp.nodes hp.big f (kd l i 0) e S (hp.nodes.Bt hi 0) (EE.Ak (Nat.le_refl _) (by omega) he1) (by omega) hst1 h01 hf1
   unfold mH mE at CE0
   unfold mE zV
   simp +contextual -dsimp (maxSteps := 2000000) only [↓SD, SU, simprocAttr, Aa, c0, d0, k0]
   intro v10
   refine Ae [60, 61, 62] CE0 (by simp +contextual -dsimp only [↓SD, SU, simprocAttr]) ?_
   rintro r hp' ⟨tv1, rv1, rfl, hr⟩
   clear CE0
   generalize hR0 : An l M f (kd l i 0) e S = R0 at *
   obtain ⟨oo, S1⟩ := R0
   cases oo with
   | none =>
    obtain rfl : r = .tup [zV, .bool false] := hr
    have hRR : RR = (none, S1) := hRR
    rw [hRR]
    unfold mH mE zV
    simp +contextual -dsimp (maxSteps := 2000000) only [↓SD, SU, simprocAttr, Aa, c0, d0, k0, e0]
    refine Af.post (mH ty l M b tv1 rv1 S1) ?_
    unfold mH mE
    simp +contextual -dsimp (maxSteps := 2000000) only [↓SD, SU, simprocAttr]
    exact ⟨tv1, rv1, by simp [mH, mE], by simp [Df, zV]⟩
   | some a =>
    obtain rfl : r = .tup [av a, .bool true] := hr
    obtain ⟨a1, a2⟩ := RO.val a rfl
    have ro1 := RO.steps
    have ro2 := RO.refs
    have ro3 := RO.trg
    have ro4 := RO.rfg
    have hst2 := RO.ok
    dsimp only at ro1 ro2 ro3 ro4 hst2 a1 a2
    have t1 := hst2.steps
    have he2 : e.ok l B S1.refs.length (700 * S1.steps) := EE.Ak ro2 (by omega) he1
    rw [AU]
    unfold mH mE
    have hRR2 : RR = ((some (.Gl s a), S1) : Option EV × ES) := by rw [hRR]; simp only [Cp, Cf, DO, Int.reduceEq, if_true, if_false]
    rw [hRR2]
    clear hRR hRR2
    simp +contextual -dsimp (maxSteps := 2000000) only [↓SD, SU, simprocAttr, Aa, c0, d0, k0, e0, kA1, eA1, kAo, eAo]
    refine Af.post (mH ty l M b tv1 rv1 S1) ?_
    unfold mH mE
    simp +contextual -dsimp (maxSteps := 2000000) only [↓SD, SU, simprocAttr, kA1, eA1]
    exact ⟨tv1, rv1, by simp [mH, mE], by simp [Df, EV.k, EV.num, EV.txt, EV.eA, NW, AU]⟩
 ·rw [hRR]
  unfold mE zV
  simp +contextual -dsimp (maxSteps := 2000000) only [↓SD, SU, simprocAttr]
  refine Af.post (mH ty l M b tv rv S) ?_
  unfold mH mE
  simp +contextual -dsimp (maxSteps := 2000000) only [↓SD, SU, simprocAttr, kA1, eA1]
  exact ⟨tv, rv, by simp [mH, mE], by simp [Df, EV.k, EV.num, EV.txt, EV.kA, EV.eA, AU, Pr, OT]⟩
 ·have hl : kids.length = 2 := Int.ofNat_inj.1 (hka (by decide))
  have c0 : (0 : Int) < (kids.length : Int) := by omega
  have d0 : 0 < kids.length := by omega
  have k0 := hkd 0 (by omega)
  have c1 : (1 : Int) < (kids.length : Int) := by omega
  have d1 : 1 < kids.length := by omega
  have k1 := hkd 1 (by omega)
  have CE0 := hE (kd l i 0) e S tv rv ⟨hp.nodes.Bt hi 0, EE.Ak (Nat.le_refl _) (by omega) he1, by omega, hst1, h01, hf1⟩
  have RO := BO hp.nodes hp.big f (kd l i 0) e S (hp.nodes.Bt hi 0) (EE.Ak (Nat.le_refl _) (by omega) he1) (by omega) hst1 h01 hf1
  unfold mH mE at CE0
  unfold mE zV
  simp +contextual -dsimp (maxSteps := 2000000) only [↓SD, SU, simprocAttr, Aa, c0, d0, k0]
  intro v10
  refine Ae [60, 61, 62] CE0 (by simp +contextual -dsimp only [↓SD, SU, simprocAttr]) ?_
  rintro r hp' ⟨tv1, rv1, rfl, hr⟩
  clear CE0
  generalize hR0 : An l M f (kd l i 0) e S = R0 at *
  obtain ⟨oo, S1⟩ := R0
  cases oo with
  | none =>
   obtain rfl : r = .tup [zV, .bool false] := hr
   have hRR : RR = (none, S1) := hRR
   rw [hRR]
   unfold mH mE zV
   simp +contextual -dsimp (maxSteps := 2000000) only [↓SD, SU, simprocAttr, Aa, c0, d0, k0]
   refine Af.post (mH ty l M b tv1 rv1 S1) ?_
   unfold mH mE
   simp +contextual -dsimp (maxSteps := 2000000) only [↓SD, SU, simprocAttr]
   exact ⟨tv1, rv1, by simp [mH, mE], by simp [Df, zV]⟩
  | some a =>
   obtain rfl : r = .tup [av a, .bool true] := hr
   obtain ⟨a1, a2⟩ := RO.val a rfl
   have ro1 := RO.steps
   have ro2 := RO.refs
   have ro3 := RO.trg
   have ro4 := RO.rfg
   have hst2 := RO.ok
   dsimp only at ro1 ro2 ro3 ro4 hst2 a1 a2
   have t1 := hst2.steps
   have he2 : e.ok l B S1.refs.length (700 * S1.steps) := EE.Ak ro2 (by omega) he1
   rw [AU]
   unfold mH mE
   have CE1 := hE (kd l i 1) e S1 tv1 rv1 ⟨hp.nodes.Bt hi 1, EE.Ak (Nat.le_refl _) (by omega) he2, by omega, hst2, a2, by omega⟩
   have RO1 := BO hp.nodes hp.big f (kd l i 1) e S1 (hp.nodes.Bt hi 1) (EE.Ak (Nat.le_refl _) (by omega) he2) (by omega) hst2 a2 (by omega)
   have hRR3 : RR = Cp (An l M f (kd l i 1) e S1) fun b9 st2 => DO l ⟨6, pos, nn, s, kids, As⟩ (fun i' e st => An l M f (kd l i' 0) e st) a b9 st2 := by rw [hRR]; simp only [Cp, Cf, Int.reduceEq, if_true, if_false]
   clear hRR
   unfold mH mE at CE1
   simp +contextual -dsimp (maxSteps := 2000000) only [↓SD, SU, simprocAttr, Aa, c0, d0, k0, c1, d1, k1, kA1, eA1, kAo, eAo, AA]
   refine Ae [60, 61, 62] CE1 (by simp +contextual -dsimp only [↓SD, SU, simprocAttr]) ?_
   rintro r hp' ⟨tv2, rv2, rfl, hr⟩
   clear CE1
   generalize hR1 : An l M f (kd l i 1) e S1 = R1 at *
   obtain ⟨oo, S2⟩ := R1
   cases oo with
   | none =>
    obtain rfl : r = .tup [zV, .bool false] := hr
    have hRR : RR = (none, S2) := hRR3
    rw [hRR]
    unfold mH mE zV
    simp +contextual -dsimp (maxSteps := 2000000) only [↓SD, SU, simprocAttr, Aa, c0, d0, k0, c1, d1, k1, kA1, eA1, kAo, eAo, AA]
    intro v12
    refine Af.post (mH ty l M b tv2 rv2 S2) ?_
    unfold mH mE
    simp +contextual -dsimp (maxSteps := 2000000) only [↓SD, SU, simprocAttr]
    exact ⟨tv2, rv2, by simp [mH, mE], by simp [Df, zV]⟩
   | some c =>
    obtain rfl : r = .tup [av c, .bool true] := hr
    obtain ⟨b1, b2⟩ := RO1.val c rfl
    have so1 := RO1.steps
    have so2 := RO1.refs
    have hst3 := RO1.ok
    dsimp only at so1 so2 hst3 b1 b2
    have t2 := hst3.steps
    have a3 : a.ok l B S2.refs.length (700 * S2.steps) := EV.Ak so2 (by omega) a1
    have hRR : RR = DO l ⟨6, pos, nn, s, kids, As⟩ (fun i' e st => An l M f (kd l i' 0) e st) a c S2 := hRR3
    clear hRR3
    rw [AU]
    unfold mH mE
    have hRR2 : RR = Lh l M f a c S2 := by rw [hRR]; simp only [DO, Int.reduceEq, if_true, if_false]; unfold Lh; cases a <;> rfl
    rw [hRR2]
    clear hRR hRR2
    have CR := ZY hp hM hE tv2 rv2 a c S2 hst3 b2 a3 b1 (by omega) (hil S2 hst3) (by cases c <;> simp only [EV.txt] <;> first | (rw [EV.ok] at b1; have := hp.big; first | exact Nat.le_trans b1 this | exact Nat.le_trans b1.1 this | exact Nat.le_trans b1.2.2.1 this) | exact Nat.zero_le _)
    rw [AU, AU] at CR
    unfold mH mE at CR
    generalize Lh l M f a c S2 = R at *
    simp +contextual -dsimp (maxSteps := 2000000) only [↓SD, SU, simprocAttr, Aa, c0, d0, k0, c1, d1, k1, kA1, eA1, kAo, eAo, AA]
    intro v12
    refine Ae [60, 61, 62] CR (by simp +contextual -dsimp only [↓SD, SU, simprocAttr]) ?_
    rintro r hp' ⟨tv1, rv1, rfl, hr⟩
    obtain ⟨z1, z2, z3, z4, z5, z6, rfl, p4, p5, o4, o5⟩ := Bz hr
    unfold mH mE
    simp +contextual -dsimp (maxSteps := 2000000) only [↓SD, SU, simprocAttr, p4, p5, o4, o5]
    refine Af.post (mH ty l M b tv1 rv1 R.2) ?_
    unfold mH mE
    simp +contextual -dsimp (maxSteps := 2000000) only [↓SD, SU, simprocAttr, p4, p5]
    exact ⟨tv1, rv1, by simp [mH, mE], hr⟩
 ·have hl : kids.length = 2 := Int.ofNat_inj.1 (hka (by decide))
  have c0 : (0 : Int) < (kids.length : Int) := by omega
  have d0 : 0 < kids.length := by omega
  have k0 := hkd 0 (by omega)
  have c1 : (1 : Int) < (kids.length : Int) := by omega
  have d1 : 1 < kids.length := by omega
  have k1 := hkd 1 (by omega)
  have CE0 := hE (kd l i 0) e S tv rv ⟨hp.nodes.Bt hi 0, EE.Ak (Nat.le_refl _) (by omega) he1, by omega, hst1, h01, hf1⟩
  have RO := BO hp.nodes hp.big f (kd l i 0) e S (hp.nodes.Bt hi 0) (EE.Ak (Nat.le_refl _) (by omega) he1) (by omega) hst1 h01 hf1
  unfold mH mE at CE0
  unfold mE zV
  simp +contextual -dsimp (maxSteps := 2000000) only [↓SD, SU, simprocAttr, Aa, c0, d0, k0]
  intro v10
  refine Ae [60, 61, 62] CE0 (by simp +contextual -dsimp only [↓SD, SU, simprocAttr]) ?_
  rintro r hp' ⟨tv1, rv1, rfl, hr⟩
  clear CE0
  generalize hR0 : An l M f (kd l i 0) e S = R0 at *
  obtain ⟨oo, S1⟩ := R0
  cases oo with
  | none =>
   obtain rfl : r = .tup [zV, .bool false] := hr
   have hRR : RR = (none, S1) := hRR
   rw [hRR]
   unfold mH mE zV
   simp +contextual -dsimp (maxSteps := 2000000) only [↓SD, SU, simprocAttr, Aa, c0, d0, k0]
   refine Af.post (mH ty l M b tv1 rv1 S1) ?_
   unfold mH mE
   simp +contextual -dsimp (maxSteps := 2000000) only [↓SD, SU, simprocAttr]
   exact ⟨tv1, rv1, by simp [mH, mE], by simp [Df, zV]⟩
  | some a =>
   obtain rfl : r = .tup [av a, .bool true] := hr
   obtain ⟨a1, a2⟩ := RO.val a rfl
   have ro1 := RO.steps
   have ro2 := RO.refs
   have ro3 := RO.trg
   have ro4 := RO.rfg
   have hst2 := RO.ok
   dsimp only at ro1 ro2 ro3 ro4 hst2 a1 a2
   have t1 := hst2.steps
   have he2 : e.ok l B S1.refs.length (700 * S1.steps) := EE.Ak ro2 (by omega) he1
   have hRR2 : RR = An l M f (kd l i 1) (.cons s a e) S1 := by rw [hRR]; simp only [Cp, Cf, DO, Int.reduceEq, if_true, if_false]
   rw [hRR2]
   clear hRR hRR2
   have CW := IU e s a (by omega)
   have CE1 := hE (kd l i 1) (.cons s a e) S1 tv1 rv1 ⟨hp.nodes.Bt hi 1, by rw [EE.ok]; exact ⟨hs, EV.Ak (Nat.le_refl _) (by omega) a1, EE.Ak (Nat.le_refl _) (by omega) he2⟩, by rw [EE.len]; omega, hst2, a2, by omega⟩
   generalize hXX : An l M f (kd l i 1) (.cons s a e) S1 = R at *
   generalize hWW : (EE.cons s a e).bs.map (av : EB → AV) = W at *
   have hWp : ∀ hp, W.map (AV.pur hp) = W := fun hp => by rw [← hWW]; exact AA _ hp
   clear hWW
   rw [AU] at CW ⊢
   unfold mH mE at CE1 ⊢
   simp +contextual -dsimp (maxSteps := 2000000) only [↓SD, SU, simprocAttr, Aa, c0, d0, k0, c1, d1, k1, kA1, eA1, kAo, eAo, AA]
   refine Ab _ CW ?_
   simp +contextual -dsimp (maxSteps := 2000000) only [↓SD, SU, simprocAttr, hWp]
   refine Ae [60, 61, 62] CE1 (by simp +contextual -dsimp only [↓SD, SU, simprocAttr]) ?_
   rintro r hp' ⟨tv1, rv1, rfl, hr⟩
   obtain ⟨z1, z2, z3, z4, z5, z6, rfl, p4, p5, o4, o5⟩ := Bz hr
   unfold mH mE
   simp +contextual -dsimp (maxSteps := 2000000) only [↓SD, SU, simprocAttr, p4, p5, o4, o5]
   refine Af.post (mH ty l M b tv1 rv1 R.2) ?_
   unfold mH mE
   simp +contextual -dsimp (maxSteps := 2000000) only [↓SD, SU, simprocAttr, p4, p5]
   exact ⟨tv1, rv1, by simp [mH, mE], hr⟩
 ·have hl : kids.length = 2 := Int.ofNat_inj.1 (hka (by decide))
  have c0 : (0 : Int) < (kids.length : Int) := by omega
  have d0 : 0 < kids.length := by omega
  have k0 := hkd 0 (by omega)
  have c1 : (1 : Int) < (kids.length : Int) := by omega
  have d1 : 1 < kids.length := by omega
  have k1 := hkd 1 (by omega)
  have q1 : -9223372036854775808 ≤ (S.steps : Int) + 1 ∧ (S.steps : Int) + 1 ≤ 9223372036854775807 := by omega
  by_cases hMs : M ≤ S.steps
  ·rw [if_pos hMs] at hRR
   have hSM : S.steps = M := by omega
   rw [show RR = ((none, { S with stop := 3, n := 0 }) : Option EV × ES) from hRR]
   have g0 := eq_true (show (M : Int) < (S.steps : Int) + 1 by omega)
   unfold mE zV
   simp +contextual -dsimp (maxSteps := 2000000) only [↓SD, SU, simprocAttr, Aa, g0, q1.1, q1.2]
   refine Ae [60, 61, 62] (Ci ty l M b tv rv S 3 0) (by simp +contextual -dsimp only [↓SD, SU, simprocAttr, mH, mE, hSM]) ?_
   rintro r hp' ⟨tv1, rv1, rfl, hr⟩
   obtain ⟨z1, z2, z3, z4, z5, z6, rfl, p4, p5, o4, o5⟩ := Bz hr
   generalize ((none, { S with stop := 3, n := 0 }) : Option EV × ES) = R at *
   unfold mH mE
   simp +contextual -dsimp (maxSteps := 2000000) only [↓SD, SU, simprocAttr, p4, p5, o4, o5]
   refine Af.post (mH ty l M b tv1 rv1 R.2) ?_
   unfold mH mE
   simp +contextual -dsimp (maxSteps := 2000000) only [↓SD, SU, simprocAttr, p4, p5]
   exact ⟨tv1, rv1, by simp [mH, mE], hr⟩
  ·rw [if_neg hMs] at hRR
   have g0 := eq_false (show ¬ (M : Int) < (S.steps : Int) + 1 by omega)
   have hq : (S.steps : Int) + 1 = (S.tick.steps : Int) := by simp [ES.tick]
   have hst2 := hst1.tick (by omega : S.steps < M)
   have he2 : e.ok l B S.refs.length (700 * (S.steps + 1 + 1)) := EE.Ak (Nat.le_refl _) (by omega) he1
   have CW := IU e s (.fn (kd l i 0) s e) (by omega)
   have hk5 : (l.getD (kd l i 0) default).kind = 5 := hp.nodes.Adp i hi (by rw [hgd])
   have CE1 := hE (kd l i 1) (.cons s (.fn (kd l i 0) s e) e) S.tick tv rv ⟨hp.nodes.Bt hi 1, by rw [EE.ok, EV.ok]; exact ⟨hs, ⟨hp.nodes.Bt hi 0, hk5, hs, by show e.len ≤ 700 * (S.steps + 1 + 1); omega, he2⟩, he2⟩, by rw [EE.len]; show e.len + 1 ≤ 700 * (S.steps + 1 + 1); omega, hst2, h01, by simp only [ES.tick]; omega⟩
   rw [hRR]
   clear hRR
   generalize hXX : An l M f (kd l i 1) (.cons s (.fn (kd l i 0) s e) e) S.tick = R at *
   generalize hWW : (EE.cons s (.fn (kd l i 0) s e) e).bs.map (av : EB → AV) = W at *
   have hWp : ∀ hp, W.map (AV.pur hp) = W := fun hp => by rw [← hWW]; exact AA _ hp
   clear hWW
   rw [AU, show (EV.fn (kd l i 0) s e).k = 6 from rfl, show (EV.fn (kd l i 0) s e).num = (kd l i 0 : Int) from rfl, show (EV.fn (kd l i 0) s e).txt = s from rfl, show (EV.fn (kd l i 0) s e).kA = .Ar by rw [EV.kA], Pr] at CW
   unfold mH mE at CE1
   rw [← hq, show S.tick.inp = S.inp from rfl, show S.tick.tr = S.tr from rfl, show S.tick.refs = S.refs from rfl, show S.tick.stop = S.stop from rfl, show S.tick.n = S.n from rfl] at CE1
   unfold mE zV
   simp +contextual -dsimp (maxSteps := 2000000) only [↓SD, SU, simprocAttr, Aa, g0, q1.1, q1.2, c0, d0, k0, c1, d1, k1, AA]
   repeat' (first | omega | refine And.intro ?_ ?_ | intro _)
   all_goals
    refine Ab _ CW ?_
    simp +contextual -dsimp (maxSteps := 2000000) only [↓SD, SU, simprocAttr, hWp]
    refine Ae [60, 61, 62] CE1 (by simp +contextual -dsimp only [↓SD, SU, simprocAttr]) ?_
    rintro r hp' ⟨tv1, rv1, rfl, hr⟩
    obtain ⟨z1, z2, z3, z4, z5, z6, rfl, p4, p5, o4, o5⟩ := Bz hr
    unfold mH mE
    simp +contextual -dsimp (maxSteps := 2000000) only [↓SD, SU, simprocAttr, p4, p5, o4, o5]
    refine Af.post (mH ty l M b tv1 rv1 R.2) ?_
    unfold mH mE
    simp +contextual -dsimp (maxSteps := 2000000) only [↓SD, SU, simprocAttr, p4, p5]
    exact ⟨tv1, rv1, by simp [mH, mE], hr⟩
 ·have hl : kids.length = 3 := Int.ofNat_inj.1 (hka (by decide))
  have c0 : (0 : Int) < (kids.length : Int) := by omega
  have d0 : 0 < kids.length := by omega
  have k0 := hkd 0 (by omega)
  have c1 : (1 : Int) < (kids.length : Int) := by omega
  have d1 : 1 < kids.length := by omega
  have k1 := hkd 1 (by omega)
  have c2 : (2 : Int) < (kids.length : Int) := by omega
  have d2 : 2 < kids.length := by omega
  have k2 := hkd 2 (by omega)
  have CE0 := hE (kd l i 0) e S tv rv ⟨hp.nodes.Bt hi 0, EE.Ak (Nat.le_refl _) (by omega) he1, by omega, hst1, h01, hf1⟩
  have RO := BO hp.nodes hp.big f (kd l i 0) e S (hp.nodes.Bt hi 0) (EE.Ak (Nat.le_refl _) (by omega) he1) (by omega) hst1 h01 hf1
  unfold mH mE at CE0
  unfold mE zV
  simp +contextual -dsimp (maxSteps := 2000000) only [↓SD, SU, simprocAttr, Aa, c0, d0, k0]
  intro v10
  refine Ae [60, 61, 62] CE0 (by simp +contextual -dsimp only [↓SD, SU, simprocAttr]) ?_
  rintro r hp' ⟨tv1, rv1, rfl, hr⟩
  clear CE0
  generalize hR0 : An l M f (kd l i 0) e S = R0 at *
  obtain ⟨oo, S1⟩ := R0
  cases oo with
  | none =>
   obtain rfl : r = .tup [zV, .bool false] := hr
   have hRR : RR = (none, S1) := hRR
   rw [hRR]
   unfold mH mE zV
   simp +contextual -dsimp (maxSteps := 2000000) only [↓SD, SU, simprocAttr, Aa, c0, d0, k0]
   refine Af.post (mH ty l M b tv1 rv1 S1) ?_
   unfold mH mE
   simp +contextual -dsimp (maxSteps := 2000000) only [↓SD, SU, simprocAttr]
   exact ⟨tv1, rv1, by simp [mH, mE], by simp [Df, zV]⟩
  | some a =>
   obtain rfl : r = .tup [av a, .bool true] := hr
   obtain ⟨a1, a2⟩ := RO.val a rfl
   have ro1 := RO.steps
   have ro2 := RO.refs
   have ro3 := RO.trg
   have ro4 := RO.rfg
   have hst2 := RO.ok
   dsimp only at ro1 ro2 ro3 ro4 hst2 a1 a2
   have t1 := hst2.steps
   have he2 : e.ok l B S1.refs.length (700 * S1.steps) := EE.Ak ro2 (by omega) he1
   rw [AU]
   unfold mH mE
   have q1 : ((1 : Int) ≤ 0) = False := eq_false (by decide)
   by_cases h4 : a.k = 4
   ·have g4 := eq_true h4
    have hf : (∃ u, a = .EZ u) ∨ ∃ u v, a = .Gl u v := by cases a <;> first | exact .inl ⟨_, rfl⟩ | exact .inr ⟨_, _, rfl⟩ | (simp [EV.k] at h4)
    rcases hf with ⟨u, rfl⟩ | ⟨u, v, rfl⟩
    ·have r3 : (EV.EZ u).txt = u := rfl
     have r4 : (EV.EZ u).kA = .Ar := by rw [EV.kA]
     have qtf : (bs [116, 114, 117, 101] = bs [102, 97, 108, 115, 101]) = False := eq_false (by decide)
     have qft : (bs [102, 97, 108, 115, 101] = bs [116, 114, 117, 101]) = False := eq_false (by decide)
     by_cases ht : u = bs [116, 114, 117, 101]
     ·subst ht
      have hRR2 : RR = An l M f (kd l i 1) e S1 := by rw [hRR]; simp only [Cp, Cf, DO, Int.reduceEq, if_true, if_false]
      rw [hRR2]
      clear hRR hRR2
      have CE1 := hE (kd l i 1) e S1 tv1 rv1 ⟨hp.nodes.Bt hi 1, EE.Ak (Nat.le_refl _) (by omega) he2, by omega, hst2, a2, by omega⟩
      generalize An l M f (kd l i 1) e S1 = R at *
      unfold mH mE at CE1
      simp +contextual -dsimp (maxSteps := 2000000) only [↓SD, SU, simprocAttr, Aa, g4, r3, r4, qtf, qft, c0, d0, k0, c1, d1, k1, kA1, eA1, kAo, eAo, AA]
      refine Ae [60, 61, 62] CE1 (by simp +contextual -dsimp only [↓SD, SU, simprocAttr]) ?_
      rintro r hp' ⟨tv1, rv1, rfl, hr⟩
      obtain ⟨z1, z2, z3, z4, z5, z6, rfl, p4, p5, o4, o5⟩ := Bz hr
      unfold mH mE
      simp +contextual -dsimp (maxSteps := 2000000) only [↓SD, SU, simprocAttr, p4, p5, o4, o5]
      refine Af.post (mH ty l M b tv1 rv1 R.2) ?_
      unfold mH mE
      simp +contextual -dsimp (maxSteps := 2000000) only [↓SD, SU, simprocAttr, p4, p5]
      exact ⟨tv1, rv1, by simp [mH, mE], hr⟩
     ·have gt := eq_false ht
      by_cases hF : u = bs [102, 97, 108, 115, 101]
      ·subst hF
       have hRR2 : RR = An l M f (kd l i 2) e S1 := by rw [hRR]; simp only [Cp, Cf, DO, Int.reduceEq, if_true, if_false]; rw [if_neg (by decide)]
       rw [hRR2]
       clear hRR hRR2
       have CE1 := hE (kd l i 2) e S1 tv1 rv1 ⟨hp.nodes.Bt hi 2, EE.Ak (Nat.le_refl _) (by omega) he2, by omega, hst2, a2, by omega⟩
       generalize An l M f (kd l i 2) e S1 = R at *
       unfold mH mE at CE1
       simp +contextual -dsimp (maxSteps := 2000000) only [↓SD, SU, simprocAttr, Aa, g4, r3, r4, qtf, qft, c2, d2, k2, c0, d0, k0, c1, d1, k1, kA1, eA1, kAo, eAo, AA]
       refine Ae [60, 61, 62] CE1 (by simp +contextual -dsimp only [↓SD, SU, simprocAttr]) ?_
       rintro r hp' ⟨tv1, rv1, rfl, hr⟩
       obtain ⟨z1, z2, z3, z4, z5, z6, rfl, p4, p5, o4, o5⟩ := Bz hr
       unfold mH mE
       simp +contextual -dsimp (maxSteps := 2000000) only [↓SD, SU, simprocAttr, p4, p5, o4, o5]
       refine Af.post (mH ty l M b tv1 rv1 R.2) ?_
       unfold mH mE
       simp +contextual -dsimp (maxSteps := 2000000) only [↓SD, SU, simprocAttr, p4, p5]
       exact ⟨tv1, rv1, by simp [mH, mE], hr⟩
      ·have gF := eq_false hF
       have hRR2 : RR = (none, { S1 with stop := 4, n := 0 }) := by rw [hRR]; simp only [Cp, Cf, DO, Int.reduceEq, if_true, if_false]; rw [if_neg ht, if_neg hF]; rfl
       rw [hRR2]
       simp +contextual -dsimp (maxSteps := 2000000) only [↓SD, SU, simprocAttr, Aa, g4, r3, r4, gt, gF, c0, d0, k0, c1, d1, k1, kA1, eA1, kAo, eAo, AA]
       refine Ae [60, 61, 62] (Ci ty l M b tv1 rv1 S1 (4) (0)) (by simp +contextual -dsimp only [↓SD, SU, simprocAttr, mH, mE]) ?_
       rintro r hp' ⟨tv1, rv1, rfl, hr⟩
       obtain ⟨z1, z2, z3, z4, z5, z6, rfl, p4, p5, o4, o5⟩ := Bz hr
       generalize ((none, { S1 with stop := 4, n := 0 }) : Option EV × ES) = R at *
       unfold mH mE
       simp +contextual -dsimp (maxSteps := 2000000) only [↓SD, SU, simprocAttr, p4, p5, o4, o5]
       refine Af.post (mH ty l M b tv1 rv1 R.2) ?_
       unfold mH mE
       simp +contextual -dsimp (maxSteps := 2000000) only [↓SD, SU, simprocAttr, p4, p5]
       exact ⟨tv1, rv1, by simp [mH, mE], hr⟩
    ·have r4 := NW u v
     have hRR2 : RR = (none, { S1 with stop := 4, n := 0 }) := by rw [hRR]; simp only [Cp, Cf, DO, Int.reduceEq, if_true, if_false]; rfl
     rw [hRR2]
     simp +contextual -dsimp (maxSteps := 2000000) only [↓SD, SU, simprocAttr, Aa, g4, r4, c0, d0, k0, c1, d1, k1, kA1, eA1, kAo, eAo, AA]
     refine Ae [60, 61, 62] (Ci ty l M b tv1 rv1 S1 (4) (0)) (by simp +contextual -dsimp only [↓SD, SU, simprocAttr, mH, mE]) ?_
     rintro r hp' ⟨tv1, rv1, rfl, hr⟩
     obtain ⟨z1, z2, z3, z4, z5, z6, rfl, p4, p5, o4, o5⟩ := Bz hr
     generalize ((none, { S1 with stop := 4, n := 0 }) : Option EV × ES) = R at *
     unfold mH mE
     simp +contextual -dsimp (maxSteps := 2000000) only [↓SD, SU, simprocAttr, p4, p5, o4, o5]
     refine Af.post (mH ty l M b tv1 rv1 R.2) ?_
     unfold mH mE
     simp +contextual -dsimp (maxSteps := 2000000) only [↓SD, SU, simprocAttr, p4, p5]
     exact ⟨tv1, rv1, by simp [mH, mE], hr⟩
   ·have g4 := eq_false h4
    have hRR2 : RR = (none, { S1 with stop := 4, n := 0 }) := by rw [hRR]; simp only [Cp, Cf, DO, Int.reduceEq, if_true, if_false]; cases a <;> first | rfl | (exact absurd rfl h4)
    rw [hRR2]
    simp +contextual -dsimp (maxSteps := 2000000) only [↓SD, SU, simprocAttr, Aa, g4, c0, d0, k0, c1, d1, k1, kA1, eA1, kAo, eAo, AA]
    refine Ae [60, 61, 62] (Ci ty l M b tv1 rv1 S1 (4) (0)) (by simp +contextual -dsimp only [↓SD, SU, simprocAttr, mH, mE]) ?_
    rintro r hp' ⟨tv1, rv1, rfl, hr⟩
    obtain ⟨z1, z2, z3, z4, z5, z6, rfl, p4, p5, o4, o5⟩ := Bz hr
    generalize ((none, { S1 with stop := 4, n := 0 }) : Option EV × ES) = R at *
    unfold mH mE
    simp +contextual -dsimp (maxSteps := 2000000) only [↓SD, SU, simprocAttr, p4, p5, o4, o5]
    refine Af.post (mH ty l M b tv1 rv1 R.2) ?_
    unfold mH mE
    simp +contextual -dsimp (maxSteps := 2000000) only [↓SD, SU, simprocAttr, p4, p5]
    exact ⟨tv1, rv1, by simp [mH, mE], hr⟩
 ·have hl : kids.length = 2 := Int.ofNat_inj.1 (hka (by decide))
  have c0 : (0 : Int) < (kids.length : Int) := by omega
  have d0 : 0 < kids.length := by omega
  have k0 := hkd 0 (by omega)
  have c1 : (1 : Int) < (kids.length : Int) := by omega
  have d1 : 1 < kids.length := by omega
  have k1 := hkd 1 (by omega)
  have CE0 := hE (kd l i 0) e S tv rv ⟨hp.nodes.Bt hi 0, EE.Ak (Nat.le_refl _) (by omega) he1, by omega, hst1, h01, hf1⟩
  have RO := BO hp.nodes hp.big f (kd l i 0) e S (hp.nodes.Bt hi 0) (EE.Ak (Nat.le_refl _) (by omega) he1) (by omega) hst1 h01 hf1
  unfold mH mE at CE0
  unfold mE zV
  simp +contextual -dsimp (maxSteps := 2000000) only [↓SD, SU, simprocAttr, Aa, c0, d0, k0]
  intro v10
  refine Ae [60, 61, 62] CE0 (by simp +contextual -dsimp only [↓SD, SU, simprocAttr]) ?_
  rintro r hp' ⟨tv1, rv1, rfl, hr⟩
  clear CE0
  generalize hR0 : An l M f (kd l i 0) e S = R0 at *
  obtain ⟨oo, S1⟩ := R0
  cases oo with
  | none =>
   obtain rfl : r = .tup [zV, .bool false] := hr
   have hRR : RR = (none, S1) := hRR
   rw [hRR]
   unfold mH mE zV
   simp +contextual -dsimp (maxSteps := 2000000) only [↓SD, SU, simprocAttr, Aa, c0, d0, k0]
   refine Af.post (mH ty l M b tv1 rv1 S1) ?_
   unfold mH mE
   simp +contextual -dsimp (maxSteps := 2000000) only [↓SD, SU, simprocAttr]
   exact ⟨tv1, rv1, by simp [mH, mE], by simp [Df, zV]⟩
  | some a =>
   obtain rfl : r = .tup [av a, .bool true] := hr
   obtain ⟨a1, a2⟩ := RO.val a rfl
   have ro1 := RO.steps
   have ro2 := RO.refs
   have ro3 := RO.trg
   have ro4 := RO.rfg
   have hst2 := RO.ok
   dsimp only at ro1 ro2 ro3 ro4 hst2 a1 a2
   have t1 := hst2.steps
   have he2 : e.ok l B S1.refs.length (700 * S1.steps) := EE.Ak ro2 (by omega) he1
   rw [AU]
   unfold mH mE
   have CE1 := hE (kd l i 1) e S1 tv1 rv1 ⟨hp.nodes.Bt hi 1, EE.Ak (Nat.le_refl _) (by omega) he2, by omega, hst2, a2, by omega⟩
   have RO1 := BO hp.nodes hp.big f (kd l i 1) e S1 (hp.nodes.Bt hi 1) (EE.Ak (Nat.le_refl _) (by omega) he2) (by omega) hst2 a2 (by omega)
   have hRR3 : RR = Cp (An l M f (kd l i 1) e S1) fun b9 st2 => DO l ⟨10, pos, nn, s, kids, As⟩ (fun i' e st => An l M f (kd l i' 0) e st) a b9 st2 := by rw [hRR]; simp only [Cp, Cf, Int.reduceEq, if_true, if_false]
   clear hRR
   unfold mH mE at CE1
   simp +contextual -dsimp (maxSteps := 2000000) only [↓SD, SU, simprocAttr, Aa, c0, d0, k0, c1, d1, k1, kA1, eA1, kAo, eAo, AA]
   refine Ae [60, 61, 62] CE1 (by simp +contextual -dsimp only [↓SD, SU, simprocAttr]) ?_
   rintro r hp' ⟨tv2, rv2, rfl, hr⟩
   clear CE1
   generalize hR1 : An l M f (kd l i 1) e S1 = R1 at *
   obtain ⟨oo, S2⟩ := R1
   cases oo with
   | none =>
    obtain rfl : r = .tup [zV, .bool false] := hr
    have hRR : RR = (none, S2) := hRR3
    rw [hRR]
    unfold mH mE zV
    simp +contextual -dsimp (maxSteps := 2000000) only [↓SD, SU, simprocAttr, Aa, c0, d0, k0, c1, d1, k1, kA1, eA1, kAo, eAo, AA]
    intro v12
    refine Af.post (mH ty l M b tv2 rv2 S2) ?_
    unfold mH mE
    simp +contextual -dsimp (maxSteps := 2000000) only [↓SD, SU, simprocAttr]
    exact ⟨tv2, rv2, by simp [mH, mE], by simp [Df, zV]⟩
   | some c =>
    obtain rfl : r = .tup [av c, .bool true] := hr
    obtain ⟨b1, b2⟩ := RO1.val c rfl
    have so1 := RO1.steps
    have so2 := RO1.refs
    have hst3 := RO1.ok
    dsimp only at so1 so2 hst3 b1 b2
    have t2 := hst3.steps
    have a3 : a.ok l B S2.refs.length (700 * S2.steps) := EV.Ak so2 (by omega) a1
    have hRR : RR = DO l ⟨10, pos, nn, s, kids, As⟩ (fun i' e st => An l M f (kd l i' 0) e st) a c S2 := hRR3
    clear hRR3
    rw [AU]
    unfold mH mE
    have hRR2 : RR = Ce s a c S2 := by rw [hRR]; simp only [DO, Int.reduceEq, if_true, if_false]
    rw [hRR2]
    clear hRR hRR2
    have hop : (opsL.any fun z => decide (s = z)) = true := by
     unfold AP at hn
     split at hn
     ·cases hn
     ·simpa using hn
    have CR := AaH ty l M b tv2 rv2 S2 s a c (fun hk => by cases a <;> first | (rw [EV.ok] at a3; exact a3) | (simp [EV.k] at hk)) (fun hk => by cases c <;> first | (rw [EV.ok] at b1; exact b1) | (simp [EV.k] at hk)) hop (by cases a <;> simp only [EV.txt] <;> first | (rw [EV.ok] at a3; have := hp.big; first | exact Nat.le_trans a3 this | exact Nat.le_trans a3.1 this | exact Nat.le_trans a3.2.2.1 this) | exact Nat.zero_le _) (by cases c <;> simp only [EV.txt] <;> first | (rw [EV.ok] at b1; have := hp.big; first | exact Nat.le_trans b1 this | exact Nat.le_trans b1.1 this | exact Nat.le_trans b1.2.2.1 this) | exact Nat.zero_le _)
    rw [AU, AU] at CR
    unfold mH mE at CR
    generalize Ce s a c S2 = R at *
    simp +contextual -dsimp (maxSteps := 2000000) only [↓SD, SU, simprocAttr, Aa, c0, d0, k0, c1, d1, k1, kA1, eA1, kAo, eAo, AA]
    intro v12
    refine Ae [60, 61, 62] CR (by simp +contextual -dsimp only [↓SD, SU, simprocAttr]) ?_
    rintro r hp' ⟨tv1, rv1, rfl, hr⟩
    obtain ⟨z1, z2, z3, z4, z5, z6, rfl, p4, p5, o4, o5⟩ := Bz hr
    unfold mH mE
    simp +contextual -dsimp (maxSteps := 2000000) only [↓SD, SU, simprocAttr, p4, p5, o4, o5]
    refine Af.post (mH ty l M b tv1 rv1 R.2) ?_
    unfold mH mE
    simp +contextual -dsimp (maxSteps := 2000000) only [↓SD, SU, simprocAttr, p4, p5]
    exact ⟨tv1, rv1, by simp [mH, mE], hr⟩
 ·have hl : kids.length = 2 := Int.ofNat_inj.1 (hka (by decide))
  have c0 : (0 : Int) < (kids.length : Int) := by omega
  have d0 : 0 < kids.length := by omega
  have k0 := hkd 0 (by omega)
  have c1 : (1 : Int) < (kids.length : Int) := by omega
  have d1 : 1 < kids.length := by omega
  have k1 := hkd 1 (by omega)
  have CE0 := hE (kd l i 0) e S tv rv ⟨hp.nodes.Bt hi 0, EE.Ak (Nat.le_refl _) (by omega) he1, by omega, hst1, h01, hf1⟩
  have RO := BO hp.nodes hp.big f (kd l i 0) e S (hp.nodes.Bt hi 0) (EE.Ak (Nat.le_refl _) (by omega) he1) (by omega) hst1 h01 hf1
  unfold mH mE at CE0
  unfold mE zV
  simp +contextual -dsimp (maxSteps := 2000000) only [↓SD, SU, simprocAttr, Aa, c0, d0, k0]
  intro v10
  refine Ae [60, 61, 62] CE0 (by simp +contextual -dsimp only [↓SD, SU, simprocAttr]) ?_
  rintro r hp' ⟨tv1, rv1, rfl, hr⟩
  clear CE0
  generalize hR0 : An l M f (kd l i 0) e S = R0 at *
  obtain ⟨oo, S1⟩ := R0
  cases oo with
  | none =>
   obtain rfl : r = .tup [zV, .bool false] := hr
   have hRR : RR = (none, S1) := hRR
   rw [hRR]
   unfold mH mE zV
   simp +contextual -dsimp (maxSteps := 2000000) only [↓SD, SU, simprocAttr, Aa, c0, d0, k0]
   refine Af.post (mH ty l M b tv1 rv1 S1) ?_
   unfold mH mE
   simp +contextual -dsimp (maxSteps := 2000000) only [↓SD, SU, simprocAttr]
   exact ⟨tv1, rv1, by simp [mH, mE], by simp [Df, zV]⟩
  | some a =>
   obtain rfl : r = .tup [av a, .bool true] := hr
   obtain ⟨a1, a2⟩ := RO.val a rfl
   have ro1 := RO.steps
   have ro2 := RO.refs
   have ro3 := RO.trg
   have ro4 := RO.rfg
   have hst2 := RO.ok
   dsimp only at ro1 ro2 ro3 ro4 hst2 a1 a2
   have t1 := hst2.steps
   have he2 : e.ok l B S1.refs.length (700 * S1.steps) := EE.Ak ro2 (by omega) he1
   rw [AU]
   unfold mH mE
   have CE1 := hE (kd l i 1) e S1 tv1 rv1 ⟨hp.nodes.Bt hi 1, EE.Ak (Nat.le_refl _) (by omega) he2, by omega, hst2, a2, by omega⟩
   have RO1 := BO hp.nodes hp.big f (kd l i 1) e S1 (hp.nodes.Bt hi 1) (EE.Ak (Nat.le_refl _) (by omega) he2) (by omega) hst2 a2 (by omega)
   have hRR3 : RR = Cp (An l M f (kd l i 1) e S1) fun b9 st2 => DO l ⟨11, pos, nn, s, kids, As⟩ (fun i' e st => An l M f (kd l i' 0) e st) a b9 st2 := by rw [hRR]; simp only [Cp, Cf, Int.reduceEq, if_true, if_false]
   clear hRR
   unfold mH mE at CE1
   simp +contextual -dsimp (maxSteps := 2000000) only [↓SD, SU, simprocAttr, Aa, c0, d0, k0, c1, d1, k1, kA1, eA1, kAo, eAo, AA]
   refine Ae [60, 61, 62] CE1 (by simp +contextual -dsimp only [↓SD, SU, simprocAttr]) ?_
   rintro r hp' ⟨tv2, rv2, rfl, hr⟩
   clear CE1
   generalize hR1 : An l M f (kd l i 1) e S1 = R1 at *
   obtain ⟨oo, S2⟩ := R1
   cases oo with
   | none =>
    obtain rfl : r = .tup [zV, .bool false] := hr
    have hRR : RR = (none, S2) := hRR3
    rw [hRR]
    unfold mH mE zV
    simp +contextual -dsimp (maxSteps := 2000000) only [↓SD, SU, simprocAttr, Aa, c0, d0, k0, c1, d1, k1, kA1, eA1, kAo, eAo, AA]
    intro v12
    refine Af.post (mH ty l M b tv2 rv2 S2) ?_
    unfold mH mE
    simp +contextual -dsimp (maxSteps := 2000000) only [↓SD, SU, simprocAttr]
    exact ⟨tv2, rv2, by simp [mH, mE], by simp [Df, zV]⟩
   | some c =>
    obtain rfl : r = .tup [av c, .bool true] := hr
    obtain ⟨b1, b2⟩ := RO1.val c rfl
    have so1 := RO1.steps
    have so2 := RO1.refs
    have hst3 := RO1.ok
    dsimp only at so1 so2 hst3 b1 b2
    have t2 := hst3.steps
    have a3 : a.ok l B S2.refs.length (700 * S2.steps) := EV.Ak so2 (by omega) a1
    have hRR : RR = DO l ⟨11, pos, nn, s, kids, As⟩ (fun i' e st => An l M f (kd l i' 0) e st) a c S2 := hRR3
    clear hRR3
    rw [AU]
    unfold mH mE
    have hRR2 : RR = ((some (.pair a c), S2) : Option EV × ES) := by rw [hRR]; simp only [DO, Int.reduceEq, if_true, if_false]
    rw [hRR2]
    clear hRR hRR2
    simp +contextual -dsimp (maxSteps := 2000000) only [↓SD, SU, simprocAttr, Aa, c0, d0, k0, c1, d1, k1, kA1, eA1, kAo, eAo, AA]
    intro v12
    refine Af.post (mH ty l M b tv2 rv2 S2) ?_
    unfold mH mE
    simp +contextual -dsimp (maxSteps := 2000000) only [↓SD, SU, simprocAttr, kA1, eA1]
    exact ⟨tv2, rv2, by simp [mH, mE], by simp [Df, EV.k, EV.num, EV.txt, EV.eA, Yf, AU]⟩
 ·rw [hRR]
  unfold mE zV
  simp +contextual -dsimp (maxSteps := 2000000) only [↓SD, SU, simprocAttr]
  refine Af.post (mH ty l M b tv rv S) ?_
  unfold mH mE
  simp +contextual -dsimp (maxSteps := 2000000) only [↓SD, SU, simprocAttr, kA1, eA1]
  exact ⟨tv, rv, by simp [mH, mE], by simp [Df, EV.k, EV.num, EV.txt, EV.kA, EV.eA, AU, Pr, OT]⟩
 ·have hk13 : kids.length = As.length + 1 := by
   unfold AP at hn
   split at hn
   ·cases hn
   ·simp at hn; omega
  have c0 : (0 : Int) < (kids.length : Int) := by omega
  have d0 : 0 < kids.length := by omega
  have k0 := hkd 0 (by omega)
  have CE0 := hE (kd l i 0) e S tv rv ⟨hp.nodes.Bt hi 0, EE.Ak (Nat.le_refl _) (by omega) he1, by omega, hst1, h01, hf1⟩
  have RO := BO hp.nodes hp.big f (kd l i 0) e S (hp.nodes.Bt hi 0) (EE.Ak (Nat.le_refl _) (by omega) he1) (by omega) hst1 h01 hf1
  unfold mH mE at CE0
  unfold mE zV
  simp +contextual -dsimp (maxSteps := 2000000) only [↓SD, SU, simprocAttr, Aa, c0, d0, k0]
  intro v10
  refine Ae [60, 61, 62] CE0 (by simp +contextual -dsimp only [↓SD, SU, simprocAttr]) ?_
  rintro r hp' ⟨tv1, rv1, rfl, hr⟩
  clear CE0
  generalize hR0 : An l M f (kd l i 0) e S = R0 at *
  obtain ⟨oo, S1⟩ := R0
  cases oo with
  | none =>
   obtain rfl : r = .tup [zV, .bool false] := hr
   have hRR : RR = (none, S1) := hRR
   rw [hRR]
   unfold mH mE zV
   simp +contextual -dsimp (maxSteps := 2000000) only [↓SD, SU, simprocAttr, Aa, c0, d0, k0]
   refine Af.post (mH ty l M b tv1 rv1 S1) ?_
   unfold mH mE
   simp +contextual -dsimp (maxSteps := 2000000) only [↓SD, SU, simprocAttr]
   exact ⟨tv1, rv1, by simp [mH, mE], by simp [Df, zV]⟩
  | some a =>
   obtain rfl : r = .tup [av a, .bool true] := hr
   obtain ⟨a1, a2⟩ := RO.val a rfl
   have ro1 := RO.steps
   have ro2 := RO.refs
   have ro3 := RO.trg
   have ro4 := RO.rfg
   have hst2 := RO.ok
   dsimp only at ro1 ro2 ro3 ro4 hst2 a1 a2
   have t1 := hst2.steps
   have he2 : e.ok l B S1.refs.length (700 * S1.steps) := EE.Ak ro2 (by omega) he1
   have hRR2 : RR = Wp l M f i a e S1 := by rw [hRR]; simp only [Cp, Cf, DO, Int.reduceEq, if_true, if_false]; unfold Wp; rw [hgd]; cases Gr (As.map DY) a e 0 <;> rfl
   rw [hRR2]
   clear hRR hRR2
   have CR := CM rfl a S1 tv1 rv1 hst2 a2 a1 he2 (by omega) (by omega)
   generalize Wp l M f i a e S1 = R at *
   rw [AL, AU] at CR
   dsimp only at CR
   rw [AU]
   unfold mH mE at CR ⊢
   simp +contextual -dsimp (maxSteps := 2000000) only [↓SD, SU, simprocAttr, Aa, c0, d0, k0, kA1, eA1, kAo, eAo, AA]
   refine Ae [60, 61, 62] CR (by simp +contextual -dsimp only [↓SD, SU, simprocAttr]) ?_
   rintro r hp' ⟨tv1, rv1, rfl, hr⟩
   obtain ⟨z1, z2, z3, z4, z5, z6, rfl, p4, p5, o4, o5⟩ := Bz hr
   unfold mH mE
   simp +contextual -dsimp (maxSteps := 2000000) only [↓SD, SU, simprocAttr, p4, p5, o4, o5]
   refine Af.post (mH ty l M b tv1 rv1 R.2) ?_
   unfold mH mE
   simp +contextual -dsimp (maxSteps := 2000000) only [↓SD, SU, simprocAttr, p4, p5]
   exact ⟨tv1, rv1, by simp [mH, mE], hr⟩
 ·have hl : kids.length = 1 := Int.ofNat_inj.1 (hka (by decide))
  have c0 : (0 : Int) < (kids.length : Int) := by omega
  have d0 : 0 < kids.length := by omega
  have k0 := hkd 0 (by omega)
  have CE0 := hE (kd l i 0) e S tv rv ⟨hp.nodes.Bt hi 0, EE.Ak (Nat.le_refl _) (by omega) he1, by omega, hst1, h01, hf1⟩
  have RO := BO hp.nodes hp.big f (kd l i 0) e S (hp.nodes.Bt hi 0) (EE.Ak (Nat.le_refl _) (by omega) he1) (by omega) hst1 h01 hf1
  unfold mH mE at CE0
  unfold mE zV
  simp +contextual -dsimp (maxSteps := 2000000) only [↓SD, SU, simprocAttr, Aa, c0, d0, k0]
  intro v10
  refine Ae [60, 61, 62] CE0 (by simp +contextual -dsimp only [↓SD, SU, simprocAttr]) ?_
  rintro r hp' ⟨tv1, rv1, rfl, hr⟩
  clear CE0
  generalize hR0 : An l M f (kd l i 0) e S = R0 at *
  obtain ⟨oo, S1⟩ := R0
  cases oo with
  | none =>
   obtain rfl : r = .tup [zV, .bool false] := hr
   have hRR : RR = (none, S1) := hRR
   rw [hRR]
   unfold mH mE zV
   simp +contextual -dsimp (maxSteps := 2000000) only [↓SD, SU, simprocAttr, Aa, c0, d0, k0]
   refine Af.post (mH ty l M b tv1 rv1 S1) ?_
   unfold mH mE
   simp +contextual -dsimp (maxSteps := 2000000) only [↓SD, SU, simprocAttr]
   exact ⟨tv1, rv1, by simp [mH, mE], by simp [Df, zV]⟩
  | some a =>
   obtain rfl : r = .tup [av a, .bool true] := hr
   obtain ⟨a1, a2⟩ := RO.val a rfl
   have ro1 := RO.steps
   have ro2 := RO.refs
   have ro3 := RO.trg
   have ro4 := RO.rfg
   have hst2 := RO.ok
   dsimp only at ro1 ro2 ro3 ro4 hst2 a1 a2
   have t1 := hst2.steps
   have he2 : e.ok l B S1.refs.length (700 * S1.steps) := EE.Ak ro2 (by omega) he1
   rw [AU]
   unfold mH mE
   by_cases h3 : a.k = 1
   ·have g3 := eq_true h3
    obtain ⟨m, rfl⟩ : ∃ m, a = .int m := by cases a <;> first | exact ⟨_, rfl⟩ | (simp [EV.k] at h3)
    have r2 : (EV.int m).num = m := rfl
    have hRR2 : RR = ((none, { S1 with stop := 2, n := m }) : Option EV × ES) := by rw [hRR]; simp only [Cp, Cf, DO, Int.reduceEq, if_true, if_false]; rfl
    rw [hRR2]
    clear hRR hRR2
    simp +contextual -dsimp (maxSteps := 2000000) only [↓SD, SU, simprocAttr, Aa, g3, r2, c0, d0, k0, kA1, eA1, kAo, eAo]
    refine Ae [60, 61, 62] (Ci ty l M b tv1 rv1 S1 (2) (m)) (by simp +contextual -dsimp only [↓SD, SU, simprocAttr, mH, mE]) ?_
    rintro r hp' ⟨tv1, rv1, rfl, hr⟩
    obtain ⟨z1, z2, z3, z4, z5, z6, rfl, p4, p5, o4, o5⟩ := Bz hr
    generalize ((none, { S1 with stop := 2, n := m }) : Option EV × ES) = R at *
    unfold mH mE
    simp +contextual -dsimp (maxSteps := 2000000) only [↓SD, SU, simprocAttr, p4, p5, o4, o5]
    refine Af.post (mH ty l M b tv1 rv1 R.2) ?_
    unfold mH mE
    simp +contextual -dsimp (maxSteps := 2000000) only [↓SD, SU, simprocAttr, p4, p5]
    exact ⟨tv1, rv1, by simp [mH, mE], hr⟩
   ·have g3 := eq_false h3
    have hRR2 : RR = (none, { S1 with stop := 4, n := 0 }) := by rw [hRR]; simp only [Cp, Cf, DO, Int.reduceEq, if_true, if_false]; cases a <;> first | rfl | (exact absurd rfl h3)
    rw [hRR2]
    simp +contextual -dsimp (maxSteps := 2000000) only [↓SD, SU, simprocAttr, Aa, g3, c0, d0, k0, kA1, eA1, kAo, eAo]
    refine Ae [60, 61, 62] (Ci ty l M b tv1 rv1 S1 (4) (0)) (by simp +contextual -dsimp only [↓SD, SU, simprocAttr, mH, mE]) ?_
    rintro r hp' ⟨tv1, rv1, rfl, hr⟩
    obtain ⟨z1, z2, z3, z4, z5, z6, rfl, p4, p5, o4, o5⟩ := Bz hr
    generalize ((none, { S1 with stop := 4, n := 0 }) : Option EV × ES) = R at *
    unfold mH mE
    simp +contextual -dsimp (maxSteps := 2000000) only [↓SD, SU, simprocAttr, p4, p5, o4, o5]
    refine Af.post (mH ty l M b tv1 rv1 R.2) ?_
    unfold mH mE
    simp +contextual -dsimp (maxSteps := 2000000) only [↓SD, SU, simprocAttr, p4, p5]
    exact ⟨tv1, rv1, by simp [mH, mE], hr⟩
 ·have hl : kids.length = 2 := Int.ofNat_inj.1 (hka (by decide))
  have c0 : (0 : Int) < (kids.length : Int) := by omega
  have d0 : 0 < kids.length := by omega
  have k0 := hkd 0 (by omega)
  have c1 : (1 : Int) < (kids.length : Int) := by omega
  have d1 : 1 < kids.length := by omega
  have k1 := hkd 1 (by omega)
  have CE0 := hE (kd l i 0) e S tv rv ⟨hp.nodes.Bt hi 0, EE.Ak (Nat.le_refl _) (by omega) he1, by omega, hst1, h01, hf1⟩
  have RO := BO hp.nodes hp.big f (kd l i 0) e S (hp.nodes.Bt hi 0) (EE.Ak (Nat.le_refl _) (by omega) he1) (by omega) hst1 h01 hf1
  unfold mH mE at CE0
  unfold mE zV
  simp +contextual -dsimp (maxSteps := 2000000) only [↓SD, SU, simprocAttr, Aa, c0, d0, k0]
  intro v10
  refine Ae [60, 61, 62] CE0 (by simp +contextual -dsimp only [↓SD, SU, simprocAttr]) ?_
  rintro r hp' ⟨tv1, rv1, rfl, hr⟩
  clear CE0
  generalize hR0 : An l M f (kd l i 0) e S = R0 at *
  obtain ⟨oo, S1⟩ := R0
  cases oo with
  | none =>
   obtain rfl : r = .tup [zV, .bool false] := hr
   have ro1 := RO.steps
   have ro2 := RO.refs
   have hst2 := RO.ok
   dsimp only at ro1 ro2 hst2
   have t1 := hst2.steps
   have he2 : e.ok l B S1.refs.length (700 * S1.steps) := EE.Ak ro2 (by omega) he1
   by_cases h2 : S1.stop = 2
   ·have hRR2 : RR = An l M f (kd l i 1) (.cons s (.int S1.n) e) { S1 with stop := 0 } := by rw [hRR]; dsimp only; rw [if_pos h2]
    rw [hRR2]
    clear hRR hRR2
    have CW := IU e s (.int S1.n) (by omega)
    have CE1 := hE (kd l i 1) (.cons s (.int S1.n) e) { S1 with stop := 0 } tv1 rv1 ⟨hp.nodes.Bt hi 1, by rw [EE.ok, EV.ok]; exact ⟨hs, hst2.n, EE.Ak (Nat.le_refl _) (by dsimp only; omega) he2⟩, by rw [EE.len]; dsimp only; omega, hst2.stop 0, rfl, by dsimp only; omega⟩
    generalize hXX : An l M f (kd l i 1) (.cons s (.int S1.n) e) { S1 with stop := 0 } = R at *
    generalize hWW : (EE.cons s (.int S1.n) e).bs.map (av : EB → AV) = W at *
    have hWp : ∀ hp, W.map (AV.pur hp) = W := fun hp => by rw [← hWW]; exact AA _ hp
    clear hWW
    rw [AU, show (EV.int S1.n).k = 1 from rfl, show (EV.int S1.n).num = S1.n from rfl, show (EV.int S1.n).txt = bs [] from rfl, show (EV.int S1.n).kA = .Ar by rw [EV.kA], show (EV.int S1.n).eA = .Ar by rw [EV.eA]] at CW
    unfold mH mE at CE1
    unfold mH mE zV
    have g2 := eq_true h2
    simp +contextual -dsimp (maxSteps := 2000000) only [↓SD, SU, simprocAttr, Aa, g2, c0, d0, k0, c1, d1, k1, kA1, eA1, kAo, eAo, AA]
    refine Ab _ CW ?_
    simp +contextual -dsimp (maxSteps := 2000000) only [↓SD, SU, simprocAttr, hWp]
    refine Ae [60, 61, 62] CE1 (by simp +contextual -dsimp only [↓SD, SU, simprocAttr]) ?_
    rintro r hp' ⟨tv1, rv1, rfl, hr⟩
    obtain ⟨z1, z2, z3, z4, z5, z6, rfl, p4, p5, o4, o5⟩ := Bz hr
    unfold mH mE
    simp +contextual -dsimp (maxSteps := 2000000) only [↓SD, SU, simprocAttr, p4, p5, o4, o5]
    refine Af.post (mH ty l M b tv1 rv1 R.2) ?_
    unfold mH mE
    simp +contextual -dsimp (maxSteps := 2000000) only [↓SD, SU, simprocAttr, p4, p5]
    exact ⟨tv1, rv1, by simp [mH, mE], hr⟩
   ·have hRR2 : RR = (none, S1) := by rw [hRR]; dsimp only; rw [if_neg h2]
    rw [hRR2]
    have g2 := eq_false h2
    unfold mH mE zV
    simp +contextual -dsimp (maxSteps := 2000000) only [↓SD, SU, simprocAttr, Aa, g2, c0, d0, k0]
    refine Af.post (mH ty l M b tv1 rv1 S1) ?_
    unfold mH mE
    simp +contextual -dsimp (maxSteps := 2000000) only [↓SD, SU, simprocAttr]
    exact ⟨tv1, rv1, by simp [mH, mE], by simp [Df, zV]⟩
  | some a =>
   obtain rfl : r = .tup [av a, .bool true] := hr
   obtain ⟨a1, a2⟩ := RO.val a rfl
   have ro1 := RO.steps
   have ro2 := RO.refs
   have ro3 := RO.trg
   have ro4 := RO.rfg
   have hst2 := RO.ok
   dsimp only at ro1 ro2 ro3 ro4 hst2 a1 a2
   have t1 := hst2.steps
   have he2 : e.ok l B S1.refs.length (700 * S1.steps) := EE.Ak ro2 (by omega) he1
   rw [AU]
   unfold mH mE
   have hRR2 : RR = (some a, S1) := hRR
   rw [hRR2]
   simp +contextual -dsimp (maxSteps := 2000000) only [↓SD, SU, simprocAttr, Aa, c0, d0, k0, kA1, eA1, kAo, eAo]
   refine Af.post (mH ty l M b tv1 rv1 S1) ?_
   unfold mH mE
   simp +contextual -dsimp (maxSteps := 2000000) only [↓SD, SU, simprocAttr, kA1, eA1]
   exact ⟨tv1, rv1, by simp [mH, mE], by simp [Df, AU]⟩
 ·have hl : kids.length = 1 := Int.ofNat_inj.1 (hka (by decide))
  have c0 : (0 : Int) < (kids.length : Int) := by omega
  have d0 : 0 < kids.length := by omega
  have k0 := hkd 0 (by omega)
  have CE0 := hE (kd l i 0) e S tv rv ⟨hp.nodes.Bt hi 0, EE.Ak (Nat.le_refl _) (by omega) he1, by omega, hst1, h01, hf1⟩
  have RO := BO hp.nodes hp.big f (kd l i 0) e S (hp.nodes.Bt hi 0) (EE.Ak (Nat.le_refl _) (by omega) he1) (by omega) hst1 h01 hf1
  unfold mH mE at CE0
  unfold mE zV
  simp +contextual -dsimp (maxSteps := 2000000) only [↓SD, SU, simprocAttr, Aa, c0, d0, k0]
  intro v10
  refine Ae [60, 61, 62] CE0 (by simp +contextual -dsimp only [↓SD, SU, simprocAttr]) ?_
  rintro r hp' ⟨tv1, rv1, rfl, hr⟩
  clear CE0
  generalize hR0 : An l M f (kd l i 0) e S = R0 at *
  obtain ⟨oo, S1⟩ := R0
  cases oo with
  | none =>
   obtain rfl : r = .tup [zV, .bool false] := hr
   have hRR : RR = (none, S1) := hRR
   rw [hRR]
   unfold mH mE zV
   simp +contextual -dsimp (maxSteps := 2000000) only [↓SD, SU, simprocAttr, Aa, c0, d0, k0]
   refine Af.post (mH ty l M b tv1 rv1 S1) ?_
   unfold mH mE
   simp +contextual -dsimp (maxSteps := 2000000) only [↓SD, SU, simprocAttr]
   exact ⟨tv1, rv1, by simp [mH, mE], by simp [Df, zV]⟩
  | some a =>
   obtain rfl : r = .tup [av a, .bool true] := hr
   obtain ⟨a1, a2⟩ := RO.val a rfl
   have ro1 := RO.steps
   have ro2 := RO.refs
   have ro3 := RO.trg
   have ro4 := RO.rfg
   have hst2 := RO.ok
   dsimp only at ro1 ro2 ro3 ro4 hst2 a1 a2
   have t1 := hst2.steps
   have he2 : e.ok l B S1.refs.length (700 * S1.steps) := EE.Ak ro2 (by omega) he1
   rw [AU]
   unfold mH mE
   have hRR2 : RR = ((some (.ref S1.refs.length), { S1 with refs := S1.refs ++ [a] }) : Option EV × ES) := by rw [hRR]; simp only [Cp, Cf, DO, Int.reduceEq, if_true, if_false]
   rw [hRR2]
   clear hRR hRR2
   have CR := Aat ty l M b tv1 rv1 S1 a (by have := hst2.refs; omega)
   rw [AU] at CR
   unfold mH mE at CR
   generalize ((some (.ref S1.refs.length), { S1 with refs := S1.refs ++ [a] }) : Option EV × ES) = R at *
   simp +contextual -dsimp (maxSteps := 2000000) only [↓SD, SU, simprocAttr, Aa, c0, d0, k0, kA1, eA1, kAo, eAo]
   refine Ae [60, 61, 62] CR (by simp +contextual -dsimp only [↓SD, SU, simprocAttr]) ?_
   rintro r hp' ⟨tv1, rv1, rfl, hr⟩
   obtain ⟨z1, z2, z3, z4, z5, z6, rfl, p4, p5, o4, o5⟩ := Bz hr
   unfold mH mE
   simp +contextual -dsimp (maxSteps := 2000000) only [↓SD, SU, simprocAttr, p4, p5, o4, o5]
   refine Af.post (mH ty l M b tv1 rv1 R.2) ?_
   unfold mH mE
   simp +contextual -dsimp (maxSteps := 2000000) only [↓SD, SU, simprocAttr, p4, p5]
   exact ⟨tv1, rv1, by simp [mH, mE], hr⟩
 ·have hl : kids.length = 1 := Int.ofNat_inj.1 (hka (by decide))
  have c0 : (0 : Int) < (kids.length : Int) := by omega
  have d0 : 0 < kids.length := by omega
  have k0 := hkd 0 (by omega)
  have CE0 := hE (kd l i 0) e S tv rv ⟨hp.nodes.Bt hi 0, EE.Ak (Nat.le_refl _) (by omega) he1, by omega, hst1, h01, hf1⟩
  have RO := BO hp.nodes hp.big f (kd l i 0) e S (hp.nodes.Bt hi 0) (EE.Ak (Nat.le_refl _) (by omega) he1) (by omega) hst1 h01 hf1
  unfold mH mE at CE0
  unfold mE zV
  simp +contextual -dsimp (maxSteps := 2000000) only [↓SD, SU, simprocAttr, Aa, c0, d0, k0]
  intro v10
  refine Ae [60, 61, 62] CE0 (by simp +contextual -dsimp only [↓SD, SU, simprocAttr]) ?_
  rintro r hp' ⟨tv1, rv1, rfl, hr⟩
  clear CE0
  generalize hR0 : An l M f (kd l i 0) e S = R0 at *
  obtain ⟨oo, S1⟩ := R0
  cases oo with
  | none =>
   obtain rfl : r = .tup [zV, .bool false] := hr
   have hRR : RR = (none, S1) := hRR
   rw [hRR]
   unfold mH mE zV
   simp +contextual -dsimp (maxSteps := 2000000) only [↓SD, SU, simprocAttr, Aa, c0, d0, k0]
   refine Af.post (mH ty l M b tv1 rv1 S1) ?_
   unfold mH mE
   simp +contextual -dsimp (maxSteps := 2000000) only [↓SD, SU, simprocAttr]
   exact ⟨tv1, rv1, by simp [mH, mE], by simp [Df, zV]⟩
  | some a =>
   obtain rfl : r = .tup [av a, .bool true] := hr
   obtain ⟨a1, a2⟩ := RO.val a rfl
   have ro1 := RO.steps
   have ro2 := RO.refs
   have ro3 := RO.trg
   have ro4 := RO.rfg
   have hst2 := RO.ok
   dsimp only at ro1 ro2 ro3 ro4 hst2 a1 a2
   have t1 := hst2.steps
   have he2 : e.ok l B S1.refs.length (700 * S1.steps) := EE.Ak ro2 (by omega) he1
   rw [AU]
   unfold mH mE
   have hRR2 : RR = ZJ a S1 := by rw [hRR]; simp only [Cp, Cf, DO, Int.reduceEq, if_true, if_false]; unfold ZJ; cases a <;> rfl
   rw [hRR2]
   clear hRR hRR2
   have CR := Aau ty l M b tv1 rv1 S1 a (fun j hj => by subst hj; rw [EV.ok] at a1; exact a1)
   rw [AU] at CR
   unfold mH mE at CR
   generalize ZJ a S1 = R at *
   simp +contextual -dsimp (maxSteps := 2000000) only [↓SD, SU, simprocAttr, Aa, c0, d0, k0, kA1, eA1, kAo, eAo]
   refine Ae [60, 61, 62] CR (by simp +contextual -dsimp only [↓SD, SU, simprocAttr]) ?_
   rintro r hp' ⟨tv1, rv1, rfl, hr⟩
   obtain ⟨z1, z2, z3, z4, z5, z6, rfl, p4, p5, o4, o5⟩ := Bz hr
   unfold mH mE
   simp +contextual -dsimp (maxSteps := 2000000) only [↓SD, SU, simprocAttr, p4, p5, o4, o5]
   refine Af.post (mH ty l M b tv1 rv1 R.2) ?_
   unfold mH mE
   simp +contextual -dsimp (maxSteps := 2000000) only [↓SD, SU, simprocAttr, p4, p5]
   exact ⟨tv1, rv1, by simp [mH, mE], hr⟩
 ·have hl : kids.length = 2 := Int.ofNat_inj.1 (hka (by decide))
  have c0 : (0 : Int) < (kids.length : Int) := by omega
  have d0 : 0 < kids.length := by omega
  have k0 := hkd 0 (by omega)
  have c1 : (1 : Int) < (kids.length : Int) := by omega
  have d1 : 1 < kids.length := by omega
  have k1 := hkd 1 (by omega)
  have CE0 := hE (kd l i 0) e S tv rv ⟨hp.nodes.Bt hi 0, EE.Ak (Nat.le_refl _) (by omega) he1, by omega, hst1, h01, hf1⟩
  have RO := BO hp.nodes hp.big f (kd l i 0) e S (hp.nodes.Bt hi 0) (EE.Ak (Nat.le_refl _) (by omega) he1) (by omega) hst1 h01 hf1
  unfold mH mE at CE0
  unfold mE zV
  simp +contextual -dsimp (maxSteps := 2000000) only [↓SD, SU, simprocAttr, Aa, c0, d0, k0]
  intro v10
  refine Ae [60, 61, 62] CE0 (by simp +contextual -dsimp only [↓SD, SU, simprocAttr]) ?_
  rintro r hp' ⟨tv1, rv1, rfl, hr⟩
  clear CE0
  generalize hR0 : An l M f (kd l i 0) e S = R0 at *
  obtain ⟨oo, S1⟩ := R0
  cases oo with
  | none =>
   obtain rfl : r = .tup [zV, .bool false] := hr
   have hRR : RR = (none, S1) := hRR
   rw [hRR]
   unfold mH mE zV
   simp +contextual -dsimp (maxSteps := 2000000) only [↓SD, SU, simprocAttr, Aa, c0, d0, k0]
   refine Af.post (mH ty l M b tv1 rv1 S1) ?_
   unfold mH mE
   simp +contextual -dsimp (maxSteps := 2000000) only [↓SD, SU, simprocAttr]
   exact ⟨tv1, rv1, by simp [mH, mE], by simp [Df, zV]⟩
  | some a =>
   obtain rfl : r = .tup [av a, .bool true] := hr
   obtain ⟨a1, a2⟩ := RO.val a rfl
   have ro1 := RO.steps
   have ro2 := RO.refs
   have ro3 := RO.trg
   have ro4 := RO.rfg
   have hst2 := RO.ok
   dsimp only at ro1 ro2 ro3 ro4 hst2 a1 a2
   have t1 := hst2.steps
   have he2 : e.ok l B S1.refs.length (700 * S1.steps) := EE.Ak ro2 (by omega) he1
   rw [AU]
   unfold mH mE
   have CE1 := hE (kd l i 1) e S1 tv1 rv1 ⟨hp.nodes.Bt hi 1, EE.Ak (Nat.le_refl _) (by omega) he2, by omega, hst2, a2, by omega⟩
   have RO1 := BO hp.nodes hp.big f (kd l i 1) e S1 (hp.nodes.Bt hi 1) (EE.Ak (Nat.le_refl _) (by omega) he2) (by omega) hst2 a2 (by omega)
   have hRR3 : RR = Cp (An l M f (kd l i 1) e S1) fun b9 st2 => DO l ⟨18, pos, nn, s, kids, As⟩ (fun i' e st => An l M f (kd l i' 0) e st) a b9 st2 := by rw [hRR]; simp only [Cp, Cf, Int.reduceEq, if_true, if_false]
   clear hRR
   unfold mH mE at CE1
   simp +contextual -dsimp (maxSteps := 2000000) only [↓SD, SU, simprocAttr, Aa, c0, d0, k0, c1, d1, k1, kA1, eA1, kAo, eAo, AA]
   refine Ae [60, 61, 62] CE1 (by simp +contextual -dsimp only [↓SD, SU, simprocAttr]) ?_
   rintro r hp' ⟨tv2, rv2, rfl, hr⟩
   clear CE1
   generalize hR1 : An l M f (kd l i 1) e S1 = R1 at *
   obtain ⟨oo, S2⟩ := R1
   cases oo with
   | none =>
    obtain rfl : r = .tup [zV, .bool false] := hr
    have hRR : RR = (none, S2) := hRR3
    rw [hRR]
    unfold mH mE zV
    simp +contextual -dsimp (maxSteps := 2000000) only [↓SD, SU, simprocAttr, Aa, c0, d0, k0, c1, d1, k1, kA1, eA1, kAo, eAo, AA]
    intro v12
    refine Af.post (mH ty l M b tv2 rv2 S2) ?_
    unfold mH mE
    simp +contextual -dsimp (maxSteps := 2000000) only [↓SD, SU, simprocAttr]
    exact ⟨tv2, rv2, by simp [mH, mE], by simp [Df, zV]⟩
   | some c =>
    obtain rfl : r = .tup [av c, .bool true] := hr
    obtain ⟨b1, b2⟩ := RO1.val c rfl
    have so1 := RO1.steps
    have so2 := RO1.refs
    have hst3 := RO1.ok
    dsimp only at so1 so2 hst3 b1 b2
    have t2 := hst3.steps
    have a3 : a.ok l B S2.refs.length (700 * S2.steps) := EV.Ak so2 (by omega) a1
    have hRR : RR = DO l ⟨18, pos, nn, s, kids, As⟩ (fun i' e st => An l M f (kd l i' 0) e st) a c S2 := hRR3
    clear hRR3
    rw [AU]
    unfold mH mE
    have hRR2 : RR = Zo a c S2 := by rw [hRR]; simp only [DO, Int.reduceEq, if_true, if_false]; unfold Zo; cases a <;> rfl
    rw [hRR2]
    clear hRR hRR2
    have CR := Aas ty l M b tv2 rv2 S2 a c (fun j hj => by subst hj; rw [EV.ok] at a3; exact a3)
    rw [AU, AU] at CR
    unfold mH mE at CR
    generalize Zo a c S2 = R at *
    simp +contextual -dsimp (maxSteps := 2000000) only [↓SD, SU, simprocAttr, Aa, c0, d0, k0, c1, d1, k1, kA1, eA1, kAo, eAo, AA]
    intro v12
    refine Ae [60, 61, 62] CR (by simp +contextual -dsimp only [↓SD, SU, simprocAttr]) ?_
    rintro r hp' ⟨tv1, rv1, rfl, hr⟩
    obtain ⟨z1, z2, z3, z4, z5, z6, rfl, p4, p5, o4, o5⟩ := Bz hr
    unfold mH mE
    simp +contextual -dsimp (maxSteps := 2000000) only [↓SD, SU, simprocAttr, p4, p5, o4, o5]
    refine Af.post (mH ty l M b tv1 rv1 R.2) ?_
    unfold mH mE
    simp +contextual -dsimp (maxSteps := 2000000) only [↓SD, SU, simprocAttr, p4, p5]
    exact ⟨tv1, rv1, by simp [mH, mE], hr⟩
 ·have hl : kids.length = 2 := Int.ofNat_inj.1 (hka (by decide))
  have c0 : (0 : Int) < (kids.length : Int) := by omega
  have d0 : 0 < kids.length := by omega
  have k0 := hkd 0 (by omega)
  have c1 : (1 : Int) < (kids.length : Int) := by omega
  have d1 : 1 < kids.length := by omega
  have k1 := hkd 1 (by omega)
  have CE0 := hE (kd l i 0) e S tv rv ⟨hp.nodes.Bt hi 0, EE.Ak (Nat.le_refl _) (by omega) he1, by omega, hst1, h01, hf1⟩
  have RO := BO hp.nodes hp.big f (kd l i 0) e S (hp.nodes.Bt hi 0) (EE.Ak (Nat.le_refl _) (by omega) he1) (by omega) hst1 h01 hf1
  unfold mH mE at CE0
  unfold mE zV
  simp +contextual -dsimp (maxSteps := 2000000) only [↓SD, SU, simprocAttr, Aa, c0, d0, k0]
  intro v10
  refine Ae [60, 61, 62] CE0 (by simp +contextual -dsimp only [↓SD, SU, simprocAttr]) ?_
  rintro r hp' ⟨tv1, rv1, rfl, hr⟩
  clear CE0
  generalize hR0 : An l M f (kd l i 0) e S = R0 at *
  obtain ⟨oo, S1⟩ := R0
  cases oo with
  | none =>
   obtain rfl : r = .tup [zV, .bool false] := hr
   have hRR : RR = (none, S1) := hRR
   rw [hRR]
   unfold mH mE zV
   simp +contextual -dsimp (maxSteps := 2000000) only [↓SD, SU, simprocAttr, Aa, c0, d0, k0]
   refine Af.post (mH ty l M b tv1 rv1 S1) ?_
   unfold mH mE
   simp +contextual -dsimp (maxSteps := 2000000) only [↓SD, SU, simprocAttr]
   exact ⟨tv1, rv1, by simp [mH, mE], by simp [Df, zV]⟩
  | some a =>
   obtain rfl : r = .tup [av a, .bool true] := hr
   obtain ⟨a1, a2⟩ := RO.val a rfl
   have ro1 := RO.steps
   have ro2 := RO.refs
   have ro3 := RO.trg
   have ro4 := RO.rfg
   have hst2 := RO.ok
   dsimp only at ro1 ro2 ro3 ro4 hst2 a1 a2
   have t1 := hst2.steps
   have he2 : e.ok l B S1.refs.length (700 * S1.steps) := EE.Ak ro2 (by omega) he1
   rw [AU]
   unfold mH mE
   by_cases h3 : a.k = 3
   ·have g3 := eq_true h3
    obtain rfl : a = .unit := by cases a <;> first | rfl | (simp [EV.k] at h3)
    have hRR2 : RR = An l M f (kd l i 1) e S1 := by rw [hRR]; simp only [Cp, Cf, DO, Int.reduceEq, if_true, if_false]
    rw [hRR2]
    clear hRR hRR2
    have CE1 := hE (kd l i 1) e S1 tv1 rv1 ⟨hp.nodes.Bt hi 1, EE.Ak (Nat.le_refl _) (by omega) he2, by omega, hst2, a2, by omega⟩
    generalize An l M f (kd l i 1) e S1 = R at *
    unfold mH mE at CE1
    simp +contextual -dsimp (maxSteps := 2000000) only [↓SD, SU, simprocAttr, Aa, g3, c0, d0, k0, c1, d1, k1, kA1, eA1, kAo, eAo, AA]
    refine Ae [60, 61, 62] CE1 (by simp +contextual -dsimp only [↓SD, SU, simprocAttr]) ?_
    rintro r hp' ⟨tv1, rv1, rfl, hr⟩
    obtain ⟨z1, z2, z3, z4, z5, z6, rfl, p4, p5, o4, o5⟩ := Bz hr
    unfold mH mE
    simp +contextual -dsimp (maxSteps := 2000000) only [↓SD, SU, simprocAttr, p4, p5, o4, o5]
    refine Af.post (mH ty l M b tv1 rv1 R.2) ?_
    unfold mH mE
    simp +contextual -dsimp (maxSteps := 2000000) only [↓SD, SU, simprocAttr, p4, p5]
    exact ⟨tv1, rv1, by simp [mH, mE], hr⟩
   ·have g3 := eq_false h3
    have hRR2 : RR = (none, { S1 with stop := 4, n := 0 }) := by rw [hRR]; simp only [Cp, Cf, DO, Int.reduceEq, if_true, if_false]; cases a <;> first | rfl | (exact absurd rfl h3)
    rw [hRR2]
    simp +contextual -dsimp (maxSteps := 2000000) only [↓SD, SU, simprocAttr, Aa, g3, c0, d0, k0, c1, d1, k1, kA1, eA1, kAo, eAo, AA]
    refine Ae [60, 61, 62] (Ci ty l M b tv1 rv1 S1 (4) (0)) (by simp +contextual -dsimp only [↓SD, SU, simprocAttr, mH, mE]) ?_
    rintro r hp' ⟨tv1, rv1, rfl, hr⟩
    obtain ⟨z1, z2, z3, z4, z5, z6, rfl, p4, p5, o4, o5⟩ := Bz hr
    generalize ((none, { S1 with stop := 4, n := 0 }) : Option EV × ES) = R at *
    unfold mH mE
    simp +contextual -dsimp (maxSteps := 2000000) only [↓SD, SU, simprocAttr, p4, p5, o4, o5]
    refine Af.post (mH ty l M b tv1 rv1 R.2) ?_
    unfold mH mE
    simp +contextual -dsimp (maxSteps := 2000000) only [↓SD, SU, simprocAttr, p4, p5]
    exact ⟨tv1, rv1, by simp [mH, mE], hr⟩
end Go.Proofs.YtjbcnilllfaipaaGreat
