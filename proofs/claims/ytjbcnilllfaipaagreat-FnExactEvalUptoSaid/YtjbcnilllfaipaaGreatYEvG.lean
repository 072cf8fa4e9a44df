/-
 THE REFERENCE'S RUN: operators, predefined functions, names, references. Conditions: none. Printed by evg.py.
-/
import Derived.Test.YtjbcnilllfaipaaGreatYJ19
set_option linter.unusedVariables false
set_option linter.unusedSimpArgs false
set_option maxRecDepth 100000
namespace Go.Proofs.YtjbcnilllfaipaaGreat
open Go.RowKit Go.Proofs.YtjbcnilllfaipaaGreat.Av Go.Proofs.YtjbcnilllfaipaaGreat.Ml
open Go.Proofs.YtjbcnilllfaipaaGreat.Av.AVal (av)

set_option maxHeartbeats 8000000 in
theorem AaH (ty : List BP) (l : List Node) (M : Int) (b tv rv : Nat) (st : ES) (s : ByteArray) (x y : EV) (hx : x.k = 1 → I64 x.num) (hy : y.k = 1 → I64 y.num) (hs : opsL.any (fun z => decide (s = z)) = true) (hxs : x.txt.size ≤ 1099511627776) (hys : y.txt.size ≤ 1099511627776) : Ay Tryz.prog 46 [.ptr 60 b 0 0, .str s, av x, av y] (mH ty l M b tv rv st) (PT ty l M b (Ce s x y st)) := by
 refine Bs.H rfl ?_
 rw [AU, AU]
 have hbad : ∀ {r : Option EV × ES}, r = (none, st.bad) → Ce s x y st = r → Ce s x y st = (none, { st with stop := 4, n := 0 }) := fun h1 h2 => h2.trans h1
 by_cases h94 : s = bs [94]
 ·have E := eq_true h94
  by_cases kx : x.k = 2
  ·have gx := eq_true kx
   by_cases ky : y.k = 2
   ·have gy := eq_true ky
    obtain ⟨u, rfl⟩ : ∃ u, x = .str u := by cases x <;> first | exact ⟨_, rfl⟩ | (simp [EV.k] at kx)
    obtain ⟨v, rfl⟩ : ∃ v, y = .str v := by cases y <;> first | exact ⟨_, rfl⟩ | (simp [EV.k] at ky)
    simp only [EV.txt] at hxs hys
    have q1 : -9223372036854775808 ≤ (u.size : Int) + v.size ∧ (u.size : Int) + v.size ≤ 9223372036854775807 := by omega
    by_cases hz : 1000 < u.size + v.size
    ·have hz2 : (1000 : Int) < (u.size : Int) + v.size := by omega
     have e : Ce s (.str u) (.str v) st = (none, { st with stop := 2, n := -4 }) := by unfold Ce; rw [if_pos h94]; simp only [if_pos hz]; rfl
     rw [e]
     unfold mH mE
     simp +contextual -dsimp (maxSteps := 2000000) only [↓SD, SU, simprocAttr, Bs, E, EV.k, EV.num, EV.txt, EV.kA, EV.eA, hz2, q1.1, q1.2]
     intro v8
     refine Ae [60, 61, 62] (Ci ty l M b tv rv st (2) (-4)) (by simp +contextual -dsimp only [↓SD, SU, simprocAttr, mH, mE]) ?_
     rintro r hp' ⟨tv, rv, rfl, rfl⟩
     unfold mH mE zV
     simp +contextual -dsimp (maxSteps := 2000000) only [↓SD, SU, simprocAttr]
     refine Af.post (mH ty l M b tv rv { st with stop := 2, n := -4 }) ?_
     unfold mH mE
     simp +contextual -dsimp (maxSteps := 2000000) only [↓SD, SU, simprocAttr]
     exact ⟨tv, rv, rfl, rfl⟩
    ·have hz2 : ¬ (1000 : Int) < (u.size : Int) + v.size := by omega
     have e : Ce s (.str u) (.str v) st = (some (.str (u ++ v)), st) := by unfold Ce; rw [if_pos h94]; simp only [if_neg hz]
     rw [e]
     unfold mH mE
     simp +contextual -dsimp (maxSteps := 2000000) only [↓SD, SU, simprocAttr, Bs, E, EV.k, EV.num, EV.txt, EV.kA, EV.eA, hz2, q1.1, q1.2]
     intro v8
     refine ⟨by unfold maxLen; omega, ?_⟩
     refine Af.post (mH ty l M b tv rv st) ?_
     unfold mH mE
     simp +contextual -dsimp (maxSteps := 2000000) only [↓SD, SU, simprocAttr]
     exact ⟨tv, rv, rfl, by simp [Df, EV.k, EV.num, EV.txt, EV.kA, EV.eA, AU]⟩
   ·have gy := eq_false ky
    have e : Ce s x y st = (none, { st with stop := 4, n := 0 }) := by unfold Ce; rw [if_pos h94]; cases x <;> cases y <;> first | rfl | (simp [EV.k] at ky)
    rw [e]
    unfold mH mE
    simp +contextual -dsimp (maxSteps := 2000000) only [↓SD, SU, simprocAttr, Bs, E, gx, gy, kA1, eA1]
    intro v8
    refine Ae [60, 61, 62] (Ci ty l M b tv rv st (4) (0)) (by simp +contextual -dsimp only [↓SD, SU, simprocAttr, mH, mE]) ?_
    rintro r hp' ⟨tv, rv, rfl, rfl⟩
    unfold mH mE zV
    simp +contextual -dsimp (maxSteps := 2000000) only [↓SD, SU, simprocAttr]
    refine Af.post (mH ty l M b tv rv { st with stop := 4, n := 0 }) ?_
    unfold mH mE
    simp +contextual -dsimp (maxSteps := 2000000) only [↓SD, SU, simprocAttr]
    exact ⟨tv, rv, rfl, rfl⟩
  ·have gx := eq_false kx
   have e : Ce s x y st = (none, { st with stop := 4, n := 0 }) := by unfold Ce; rw [if_pos h94]; cases x <;> first | rfl | (simp [EV.k] at kx)
   rw [e]
   unfold mH mE
   simp +contextual -dsimp (maxSteps := 2000000) only [↓SD, SU, simprocAttr, Bs, E, gx, kA1, eA1]
   intro v8
   refine Ae [60, 61, 62] (Ci ty l M b tv rv st (4) (0)) (by simp +contextual -dsimp only [↓SD, SU, simprocAttr, mH, mE]) ?_
   rintro r hp' ⟨tv, rv, rfl, rfl⟩
   unfold mH mE zV
   simp +contextual -dsimp (maxSteps := 2000000) only [↓SD, SU, simprocAttr]
   refine Af.post (mH ty l M b tv rv { st with stop := 4, n := 0 }) ?_
   unfold mH mE
   simp +contextual -dsimp (maxSteps := 2000000) only [↓SD, SU, simprocAttr]
   exact ⟨tv, rv, rfl, rfl⟩
 have E := eq_false h94
 by_cases kx : x.k = 1
 ·by_cases ky : y.k = 1
  ·obtain ⟨u, rfl⟩ : ∃ u, x = .int u := by cases x <;> first | exact ⟨_, rfl⟩ | (simp [EV.k] at kx)
   obtain ⟨v, rfl⟩ : ∃ v, y = .int v := by cases y <;> first | exact ⟨_, rfl⟩ | (simp [EV.k] at ky)
   have ha : I64 u := hx rfl
   have hb : I64 v := hy rfl
   have C1 := JJ u v ha hb
   have C2 := Te u v ha hb
   have C3 := Tg u v ha hb
   have C4 := Ti u v ha hb
   have C5 := Tf u v ha hb
   have T := fun z : Bool => Wt z
   have e : Ce s (.int u) (.int v) st = (if (ET s u v).2.2 = true then (if (ET s u v).2.1 = true then (some (.EZ (PV (ET s u v).1)), st) else (some (.int (ET s u v).1), st)) else (none, { st with stop := 2, n := -2 })) := by unfold Ce; rw [if_neg h94]; rfl
   rw [e]
   clear e
   unfold ET mH mE
   by_cases h0 : s = bs [43]
   ·have E0 := eq_true h0
    simp +contextual -dsimp (maxSteps := 2000000) only [↓SD, SU, simprocAttr, Bs, E, E0, EV.k, EV.num, EV.txt, EV.kA, EV.eA]
    intro v8
    refine Ab _ C1 ?_
    simp +contextual -dsimp (maxSteps := 2000000) only [↓SD, SU, simprocAttr, E, E0]
    refine Af.post (mH ty l M b tv rv st) ?_
    unfold mH mE
    simp +contextual -dsimp (maxSteps := 2000000) only [↓SD, SU, simprocAttr]
    exact ⟨tv, rv, rfl, by simp [Df, EV.k, EV.num, EV.txt, EV.kA, EV.eA, AU, *]⟩
   have E0 := eq_false h0
   by_cases h1 : s = bs [45]
   ·have E1 := eq_true h1
    simp +contextual -dsimp (maxSteps := 2000000) only [↓SD, SU, simprocAttr, Bs, E, E0, E1, EV.k, EV.num, EV.txt, EV.kA, EV.eA]
    intro v8
    refine Ab _ C2 ?_
    simp +contextual -dsimp (maxSteps := 2000000) only [↓SD, SU, simprocAttr, E, E0, E1]
    refine Af.post (mH ty l M b tv rv st) ?_
    unfold mH mE
    simp +contextual -dsimp (maxSteps := 2000000) only [↓SD, SU, simprocAttr]
    exact ⟨tv, rv, rfl, by simp [Df, EV.k, EV.num, EV.txt, EV.kA, EV.eA, AU, *]⟩
   have E1 := eq_false h1
   by_cases h2 : s = bs [42]
   ·have E2 := eq_true h2
    simp +contextual -dsimp (maxSteps := 2000000) only [↓SD, SU, simprocAttr, Bs, E, E0, E1, E2, EV.k, EV.num, EV.txt, EV.kA, EV.eA]
    intro v8
    refine Ab _ C3 ?_
    simp +contextual -dsimp (maxSteps := 2000000) only [↓SD, SU, simprocAttr, E, E0, E1, E2]
    refine Af.post (mH ty l M b tv rv st) ?_
    unfold mH mE
    simp +contextual -dsimp (maxSteps := 2000000) only [↓SD, SU, simprocAttr]
    exact ⟨tv, rv, rfl, by simp [Df, EV.k, EV.num, EV.txt, EV.kA, EV.eA, AU, *]⟩
   have E2 := eq_false h2
   by_cases h3 : s = bs [47]
   ·have E3 := eq_true h3
    simp +contextual -dsimp (maxSteps := 2000000) only [↓SD, SU, simprocAttr, Bs, E, E0, E1, E2, E3, EV.k, EV.num, EV.txt, EV.kA, EV.eA]
    intro v8
    refine Ab _ C4 ?_
    unfold U2
    by_cases hz : wr v = 0
    ·simp +contextual -dsimp (maxSteps := 2000000) only [↓SD, SU, simprocAttr, E, E0, E1, E2, E3, hz]
     refine Ae [60, 61, 62] (Ci ty l M b tv rv st 2 (-2)) (by simp +contextual -dsimp only [↓SD, SU, simprocAttr, mH, mE]) ?_
     rintro r hp' ⟨tv, rv, rfl, rfl⟩
     unfold mH mE zV
     simp +contextual -dsimp (maxSteps := 2000000) only [↓SD, SU, simprocAttr]
     refine Af.post (mH ty l M b tv rv { st with stop := 2, n := -2 }) ?_
     unfold mH mE
     simp +contextual -dsimp (maxSteps := 2000000) only [↓SD, SU, simprocAttr]
     exact ⟨tv, rv, by simp [hz, mH, mE], by simp [Df, hz, zV]⟩
    ·simp +contextual -dsimp (maxSteps := 2000000) only [↓SD, SU, simprocAttr, E, E0, E1, E2, E3, hz]
     refine Af.post (mH ty l M b tv rv st) ?_
     unfold mH mE
     simp +contextual -dsimp (maxSteps := 2000000) only [↓SD, SU, simprocAttr]
     exact ⟨tv, rv, by simp [hz, mH, mE], by simp [Df, hz, EV.k, EV.num, EV.txt, EV.kA, EV.eA, AU]⟩
   have E3 := eq_false h3
   by_cases h4 : s = bs [37]
   ·have E4 := eq_true h4
    simp +contextual -dsimp (maxSteps := 2000000) only [↓SD, SU, simprocAttr, Bs, E, E0, E1, E2, E3, E4, EV.k, EV.num, EV.txt, EV.kA, EV.eA]
    intro v8
    refine Ab _ C5 ?_
    unfold TH
    by_cases hz : wr v = 0
    ·simp +contextual -dsimp (maxSteps := 2000000) only [↓SD, SU, simprocAttr, E, E0, E1, E2, E3, E4, hz]
     refine Ae [60, 61, 62] (Ci ty l M b tv rv st 2 (-2)) (by simp +contextual -dsimp only [↓SD, SU, simprocAttr, mH, mE]) ?_
     rintro r hp' ⟨tv, rv, rfl, rfl⟩
     unfold mH mE zV
     simp +contextual -dsimp (maxSteps := 2000000) only [↓SD, SU, simprocAttr]
     refine Af.post (mH ty l M b tv rv { st with stop := 2, n := -2 }) ?_
     unfold mH mE
     simp +contextual -dsimp (maxSteps := 2000000) only [↓SD, SU, simprocAttr]
     exact ⟨tv, rv, by simp [hz, mH, mE], by simp [Df, hz, zV]⟩
    ·simp +contextual -dsimp (maxSteps := 2000000) only [↓SD, SU, simprocAttr, E, E0, E1, E2, E3, E4, hz]
     refine Af.post (mH ty l M b tv rv st) ?_
     unfold mH mE
     simp +contextual -dsimp (maxSteps := 2000000) only [↓SD, SU, simprocAttr]
     exact ⟨tv, rv, by simp [hz, mH, mE], by simp [Df, hz, EV.k, EV.num, EV.txt, EV.kA, EV.eA, AU]⟩
   have E4 := eq_false h4
   by_cases h5 : s = bs [61]
   ·have E5 := eq_true h5
    simp +contextual -dsimp (maxSteps := 2000000) only [↓SD, SU, simprocAttr, Bs, E, E0, E1, E2, E3, E4, E5, EV.k, EV.num, EV.txt, EV.kA, EV.eA]
    intro v8
    refine Ab _ (T _) ?_
    simp +contextual -dsimp (maxSteps := 2000000) only [↓SD, SU, simprocAttr, E, E0, E1, E2, E3, E4, E5]
    refine Af.post (mH ty l M b tv rv st) ?_
    unfold mH mE
    simp +contextual -dsimp (maxSteps := 2000000) only [↓SD, SU, simprocAttr]
    exact ⟨tv, rv, by simp [mH, mE], by simp [Df, EV.k, EV.num, EV.txt, EV.kA, EV.eA, AU] <;> (split <;> simp_all)⟩
   have E5 := eq_false h5
   by_cases h6 : s = bs [60, 62]
   ·have E6 := eq_true h6
    simp +contextual -dsimp (maxSteps := 2000000) only [↓SD, SU, simprocAttr, Bs, E, E0, E1, E2, E3, E4, E5, E6, EV.k, EV.num, EV.txt, EV.kA, EV.eA]
    intro v8
    refine Ab _ (T _) ?_
    simp +contextual -dsimp (maxSteps := 2000000) only [↓SD, SU, simprocAttr, E, E0, E1, E2, E3, E4, E5, E6]
    refine Af.post (mH ty l M b tv rv st) ?_
    unfold mH mE
    simp +contextual -dsimp (maxSteps := 2000000) only [↓SD, SU, simprocAttr]
    exact ⟨tv, rv, by simp [mH, mE], by simp [Df, EV.k, EV.num, EV.txt, EV.kA, EV.eA, AU] <;> (split <;> simp_all)⟩
   have E6 := eq_false h6
   by_cases h7 : s = bs [60]
   ·have E7 := eq_true h7
    simp +contextual -dsimp (maxSteps := 2000000) only [↓SD, SU, simprocAttr, Bs, E, E0, E1, E2, E3, E4, E5, E6, E7, EV.k, EV.num, EV.txt, EV.kA, EV.eA]
    intro v8
    refine Ab _ (T _) ?_
    simp +contextual -dsimp (maxSteps := 2000000) only [↓SD, SU, simprocAttr, E, E0, E1, E2, E3, E4, E5, E6, E7]
    refine Af.post (mH ty l M b tv rv st) ?_
    unfold mH mE
    simp +contextual -dsimp (maxSteps := 2000000) only [↓SD, SU, simprocAttr]
    exact ⟨tv, rv, by simp [mH, mE], by simp [Df, EV.k, EV.num, EV.txt, EV.kA, EV.eA, AU] <;> (split <;> simp_all)⟩
   have E7 := eq_false h7
   by_cases h8 : s = bs [60, 61]
   ·have E8 := eq_true h8
    simp +contextual -dsimp (maxSteps := 2000000) only [↓SD, SU, simprocAttr, Bs, E, E0, E1, E2, E3, E4, E5, E6, E7, E8, EV.k, EV.num, EV.txt, EV.kA, EV.eA]
    intro v8
    refine Ab _ (T _) ?_
    simp +contextual -dsimp (maxSteps := 2000000) only [↓SD, SU, simprocAttr, E, E0, E1, E2, E3, E4, E5, E6, E7, E8]
    refine Af.post (mH ty l M b tv rv st) ?_
    unfold mH mE
    simp +contextual -dsimp (maxSteps := 2000000) only [↓SD, SU, simprocAttr]
    exact ⟨tv, rv, by simp [mH, mE], by simp [Df, EV.k, EV.num, EV.txt, EV.kA, EV.eA, AU] <;> (split <;> simp_all)⟩
   have E8 := eq_false h8
   exfalso
   simp only [opsL, List.any_cons, List.any_nil, Bool.or_eq_true, decide_eq_true_eq] at hs
   try simp_all
  ·have gy := eq_false ky
   have e : Ce s x y st = (none, { st with stop := 4, n := 0 }) := by unfold Ce; rw [if_neg h94]; cases x <;> cases y <;> first | rfl | (simp [EV.k] at ky)
   have gx := eq_true kx
   rw [e]
   unfold mH mE
   simp +contextual -dsimp (maxSteps := 2000000) only [↓SD, SU, simprocAttr, Bs, E, gx, gy, kA1, eA1]
   intro v8
   refine Ae [60, 61, 62] (Ci ty l M b tv rv st (4) (0)) (by simp +contextual -dsimp only [↓SD, SU, simprocAttr, mH, mE]) ?_
   rintro r hp' ⟨tv, rv, rfl, rfl⟩
   unfold mH mE zV
   simp +contextual -dsimp (maxSteps := 2000000) only [↓SD, SU, simprocAttr]
   refine Af.post (mH ty l M b tv rv { st with stop := 4, n := 0 }) ?_
   unfold mH mE
   simp +contextual -dsimp (maxSteps := 2000000) only [↓SD, SU, simprocAttr]
   exact ⟨tv, rv, rfl, rfl⟩
 ·have gx := eq_false kx
  have e : Ce s x y st = (none, { st with stop := 4, n := 0 }) := by unfold Ce; rw [if_neg h94]; cases x <;> first | rfl | (simp [EV.k] at kx)
  rw [e]
  unfold mH mE
  simp +contextual -dsimp (maxSteps := 2000000) only [↓SD, SU, simprocAttr, Bs, E, gx, kA1, eA1]
  intro v8
  refine Ae [60, 61, 62] (Ci ty l M b tv rv st (4) (0)) (by simp +contextual -dsimp only [↓SD, SU, simprocAttr, mH, mE]) ?_
  rintro r hp' ⟨tv, rv, rfl, rfl⟩
  unfold mH mE zV
  simp +contextual -dsimp (maxSteps := 2000000) only [↓SD, SU, simprocAttr]
  refine Af.post (mH ty l M b tv rv { st with stop := 4, n := 0 }) ?_
  unfold mH mE
  simp +contextual -dsimp (maxSteps := 2000000) only [↓SD, SU, simprocAttr]
  exact ⟨tv, rv, rfl, rfl⟩
set_option maxHeartbeats 8000000 in
theorem AbB (ty : List BP) (l : List Node) (M : Int) (b tv rv : Nat) (st : ES) (s : ByteArray) (x : EV) (hx : x.k = 1 → I64 x.num) (hxs : x.txt.size ≤ 1099511627776) (htr : st.tr.length ≤ 1049600000000) (hin : ∀ z ∈ st.inp, I64 z) (hil : st.inp.length ≤ 1099511627776) : Ay Tryz.prog 76 [.ptr 60 b 0 0, .str s, av x] (mH ty l M b tv rv st) (PT ty l M b (Bm s x st)) := by
 refine B5.H rfl ?_
 rw [AU]
 have ht : List.take st.tr.length (st.tr.map (av : ByteArray → AV)) = st.tr.map av := List.take_of_length_le (by simp)
 have qpy : (bs [112, 114, 105, 110, 116] = bs [115, 97, 121]) = False := eq_false (by decide)
 have qpr : (bs [112, 114, 105, 110, 116] = bs [114, 101, 97, 100]) = False := eq_false (by decide)
 have qpz : (bs [112, 114, 105, 110, 116] = bs [115, 105, 122, 101]) = False := eq_false (by decide)
 have qyp : (bs [115, 97, 121] = bs [112, 114, 105, 110, 116]) = False := eq_false (by decide)
 have qyr : (bs [115, 97, 121] = bs [114, 101, 97, 100]) = False := eq_false (by decide)
 have qyz : (bs [115, 97, 121] = bs [115, 105, 122, 101]) = False := eq_false (by decide)
 have qrp : (bs [114, 101, 97, 100] = bs [112, 114, 105, 110, 116]) = False := eq_false (by decide)
 have qry : (bs [114, 101, 97, 100] = bs [115, 97, 121]) = False := eq_false (by decide)
 have qrz : (bs [114, 101, 97, 100] = bs [115, 105, 122, 101]) = False := eq_false (by decide)
 have qzp : (bs [115, 105, 122, 101] = bs [112, 114, 105, 110, 116]) = False := eq_false (by decide)
 have qzy : (bs [115, 105, 122, 101] = bs [115, 97, 121]) = False := eq_false (by decide)
 have qzr : (bs [115, 105, 122, 101] = bs [114, 101, 97, 100]) = False := eq_false (by decide)
 by_cases hp : s = bs [112, 114, 105, 110, 116]
 ·subst hp
  by_cases kx : x.k = 1
  ·obtain ⟨u, rfl⟩ : ∃ u, x = .int u := by cases x <;> first | exact ⟨_, rfl⟩ | (simp [EV.k] at kx)
   have e : Bm (bs [112, 114, 105, 110, 116]) (.int u) st = (some .unit, { st with tr := st.tr ++ [HR u] }) := by unfold Bm; simp
   rw [e]
   clear e
   unfold mH mE
   simp +contextual -dsimp (maxSteps := 2000000) only [↓SD, SU, simprocAttr, B5, qpy, qpr, qpz, EV.k, EV.num, EV.txt, EV.kA, EV.eA]
   intro v5 v8
   refine Ab _ (N7 u (hx rfl)) ?_
   simp +contextual -dsimp (maxSteps := 2000000) only [↓SD, SU, simprocAttr, Aa, ht, B7]
   refine ⟨⟨by omega, by unfold maxLen; omega⟩, fun w => ?_⟩
   refine Af.post (mH ty l M b w rv { st with tr := st.tr ++ [HR u] }) ?_
   unfold mH mE
   simp +contextual -dsimp (maxSteps := 2000000) only [↓SD, SU, simprocAttr, List.length_append, List.map_append, B7, ht]
   exact ⟨w, rv, by simp [mH, mE, B7], by simp [Df, EV.k, EV.num, EV.txt, EV.kA, EV.eA, AU]⟩
  ·have gx := eq_false kx
   have e : Bm (bs [112, 114, 105, 110, 116]) x st = (none, { st with stop := 4, n := 0 }) := by unfold Bm; cases x <;> first | rfl | (exact absurd rfl kx) | (simp [qpy, qpr, qpz]; rfl)
   rw [e]
   clear e
   unfold mH mE
   simp +contextual -dsimp (maxSteps := 2000000) only [↓SD, SU, simprocAttr, B5, qpy, qpr, qpz, gx, kA1, eA1]
   intro v5 v8
   refine Ae [60, 61, 62] (Ci ty l M b tv rv st (4) (0)) (by simp +contextual -dsimp only [↓SD, SU, simprocAttr, mH, mE]) ?_
   rintro r hp' ⟨tv, rv, rfl, rfl⟩
   unfold mH mE zV
   simp +contextual -dsimp (maxSteps := 2000000) only [↓SD, SU, simprocAttr]
   refine Af.post (mH ty l M b tv rv { st with stop := 4, n := 0 }) ?_
   unfold mH mE
   simp +contextual -dsimp (maxSteps := 2000000) only [↓SD, SU, simprocAttr]
   exact ⟨tv, rv, rfl, rfl⟩
 by_cases hy : s = bs [115, 97, 121]
 ·subst hy
  by_cases kx : x.k = 2
  ·obtain ⟨u, rfl⟩ : ∃ u, x = .str u := by cases x <;> first | exact ⟨_, rfl⟩ | (simp [EV.k] at kx)
   have e : Bm (bs [115, 97, 121]) (.str u) st = (some .unit, { st with tr := st.tr ++ [u] }) := by unfold Bm; simp
   rw [e]
   clear e
   unfold mH mE
   simp +contextual -dsimp (maxSteps := 2000000) only [↓SD, SU, simprocAttr, B5, qyp, qyr, qyz, EV.k, EV.num, EV.txt, EV.kA, EV.eA]
   intro v5 v8
   simp +contextual -dsimp (maxSteps := 2000000) only [↓SD, SU, simprocAttr, Aa, ht, B7]
   refine ⟨⟨by omega, by unfold maxLen; omega⟩, fun w => ?_⟩
   refine Af.post (mH ty l M b w rv { st with tr := st.tr ++ [u] }) ?_
   unfold mH mE
   simp +contextual -dsimp (maxSteps := 2000000) only [↓SD, SU, simprocAttr, List.length_append, List.map_append, B7, ht]
   exact ⟨w, rv, by simp [mH, mE, B7], by simp [Df, EV.k, EV.num, EV.txt, EV.kA, EV.eA, AU]⟩
  ·have gx := eq_false kx
   have e : Bm (bs [115, 97, 121]) x st = (none, { st with stop := 4, n := 0 }) := by unfold Bm; cases x <;> first | rfl | (exact absurd rfl kx) | (simp [qyp, qyr, qyz]; rfl)
   rw [e]
   clear e
   unfold mH mE
   simp +contextual -dsimp (maxSteps := 2000000) only [↓SD, SU, simprocAttr, B5, qyp, qyr, qyz, gx, kA1, eA1]
   intro v5 v8
   refine Ae [60, 61, 62] (Ci ty l M b tv rv st (4) (0)) (by simp +contextual -dsimp only [↓SD, SU, simprocAttr, mH, mE]) ?_
   rintro r hp' ⟨tv, rv, rfl, rfl⟩
   unfold mH mE zV
   simp +contextual -dsimp (maxSteps := 2000000) only [↓SD, SU, simprocAttr]
   refine Af.post (mH ty l M b tv rv { st with stop := 4, n := 0 }) ?_
   unfold mH mE
   simp +contextual -dsimp (maxSteps := 2000000) only [↓SD, SU, simprocAttr]
   exact ⟨tv, rv, rfl, rfl⟩
 by_cases hz : s = bs [115, 105, 122, 101]
 ·subst hz
  by_cases kx : x.k = 2
  ·obtain ⟨u, rfl⟩ : ∃ u, x = .str u := by cases x <;> first | exact ⟨_, rfl⟩ | (simp [EV.k] at kx)
   have e : Bm (bs [115, 105, 122, 101]) (.str u) st = (some (.int u.size), st) := by unfold Bm; simp [qzy]
   rw [e]
   clear e
   unfold mH mE
   simp +contextual -dsimp (maxSteps := 2000000) only [↓SD, SU, simprocAttr, B5, qzp, qzy, qzr, EV.k, EV.num, EV.txt, EV.kA, EV.eA]
   intro v5 v8
   refine Af.post (mH ty l M b tv rv st) ?_
   unfold mH mE
   simp +contextual -dsimp (maxSteps := 2000000) only [↓SD, SU, simprocAttr]
   exact ⟨tv, rv, by simp [mH, mE], by simp [Df, EV.k, EV.num, EV.txt, EV.kA, EV.eA, AU]⟩
  ·have gx := eq_false kx
   have e : Bm (bs [115, 105, 122, 101]) x st = (none, { st with stop := 4, n := 0 }) := by unfold Bm; cases x <;> first | rfl | (exact absurd rfl kx) | (simp [qzp, qzy, qzr]; rfl)
   rw [e]
   clear e
   unfold mH mE
   simp +contextual -dsimp (maxSteps := 2000000) only [↓SD, SU, simprocAttr, B5, qzp, qzy, qzr, gx, kA1, eA1]
   intro v5 v8
   refine Ae [60, 61, 62] (Ci ty l M b tv rv st (4) (0)) (by simp +contextual -dsimp only [↓SD, SU, simprocAttr, mH, mE]) ?_
   rintro r hp' ⟨tv, rv, rfl, rfl⟩
   unfold mH mE zV
   simp +contextual -dsimp (maxSteps := 2000000) only [↓SD, SU, simprocAttr]
   refine Af.post (mH ty l M b tv rv { st with stop := 4, n := 0 }) ?_
   unfold mH mE
   simp +contextual -dsimp (maxSteps := 2000000) only [↓SD, SU, simprocAttr]
   exact ⟨tv, rv, rfl, rfl⟩
 by_cases hr : s = bs [114, 101, 97, 100]
 ·subst hr
  by_cases kx : x.k = 3
  ·obtain rfl : x = .unit := by cases x <;> first | rfl | (simp [EV.k] at kx)
   cases hi : st.inp with
   | nil =>
    have e : Bm (bs [114, 101, 97, 100]) .unit st = (none, { st with stop := 2, n := -3 }) := by
     have : Bm (bs [114, 101, 97, 100]) .unit st = (none, st.raise (-3)) := by unfold Bm; simp only [if_true]; rw [hi]
     rw [this]; rfl
    rw [e]
    clear e
    have hl := eq_true (show (st.inp.length : Int) = 0 by rw [hi]; rfl)
    unfold mH mE
    simp +contextual -dsimp (maxSteps := 2000000) only [↓SD, SU, simprocAttr, B5, qrp, qry, qrz, EV.k, EV.num, EV.txt, EV.kA, EV.eA, Aa, hl]
    intro v5 v8
    refine Ae [60, 61, 62] (Ci ty l M b tv rv st (2) (-3)) (by simp +contextual -dsimp only [↓SD, SU, simprocAttr, mH, mE]) ?_
    rintro r hp' ⟨tv, rv, rfl, rfl⟩
    unfold mH mE zV
    simp +contextual -dsimp (maxSteps := 2000000) only [↓SD, SU, simprocAttr]
    refine Af.post (mH ty l M b tv rv { st with stop := 2, n := -3 }) ?_
    unfold mH mE
    simp +contextual -dsimp (maxSteps := 2000000) only [↓SD, SU, simprocAttr]
    exact ⟨tv, rv, rfl, rfl⟩
   | cons z r =>
    have hz := hin z (by rw [hi]; simp)
    have e : Bm (bs [114, 101, 97, 100]) .unit st = (some (.int (wr z)), { st with inp := r }) := by unfold Bm; simp only [if_true]; rw [hi]
    rw [e]
    clear e
    have hl := eq_false (show ¬ (st.inp.length : Int) = 0 by rw [hi]; simp; omega)
    have hl2 : 0 < st.inp.length := by rw [hi]; simp
    have hl3 : (0 : Int) < st.inp.length := by omega
    have hl4 : (1 : Int) ≤ st.inp.length := by omega
    have h0 : (st.inp.map (av : Int → AV)).getD 0 .top = .int .i64 z := by rw [hi]; rfl
    have hd : List.drop 1 (st.inp.map (av : Int → AV)) = r.map av := by rw [hi]; rfl
    unfold mH mE
    simp +contextual -dsimp (maxSteps := 2000000) only [↓SD, SU, simprocAttr, B5, qrp, qry, qrz, EV.k, EV.num, EV.txt, EV.kA, EV.eA, Aa, hl, hl2, hl3, hl4, h0, hd]
    intro v5 v8
    have ht1 : List.take (st.inp.length - 1) (r.map (av : Int → AV)) = r.map av := List.take_of_length_le (by rw [hi]; simp)
    refine Ab _ (Cd z hz) ?_
    simp +contextual -dsimp (maxSteps := 2000000) only [↓SD, SU, simprocAttr, Aa, hl, hl2, hl3, hl4, h0, hd, ht1]
    refine ⟨fun x hx => by obtain ⟨y, _, rfl⟩ := List.mem_map.1 hx; rfl, ?_⟩
    refine Af.post (mH ty l M b tv rv { st with inp := r }) ?_
    unfold mH mE
    simp +contextual -dsimp (maxSteps := 2000000) only [↓SD, SU, simprocAttr]
    exact ⟨tv, rv, by simp [mH, mE], by simp [Df, EV.k, EV.num, EV.txt, EV.kA, EV.eA, AU]⟩
  ·have gx := eq_false kx
   have e : Bm (bs [114, 101, 97, 100]) x st = (none, { st with stop := 4, n := 0 }) := by unfold Bm; cases x <;> first | rfl | (exact absurd rfl kx) | (simp [qrp, qry, qrz]; rfl)
   rw [e]
   clear e
   unfold mH mE
   simp +contextual -dsimp (maxSteps := 2000000) only [↓SD, SU, simprocAttr, B5, qrp, qry, qrz, gx, kA1, eA1]
   intro v5 v8
   refine Ae [60, 61, 62] (Ci ty l M b tv rv st (4) (0)) (by simp +contextual -dsimp only [↓SD, SU, simprocAttr, mH, mE]) ?_
   rintro r hp' ⟨tv, rv, rfl, rfl⟩
   unfold mH mE zV
   simp +contextual -dsimp (maxSteps := 2000000) only [↓SD, SU, simprocAttr]
   refine Af.post (mH ty l M b tv rv { st with stop := 4, n := 0 }) ?_
   unfold mH mE
   simp +contextual -dsimp (maxSteps := 2000000) only [↓SD, SU, simprocAttr]
   exact ⟨tv, rv, rfl, rfl⟩
 have g0 := eq_false hp
 have g1 := eq_false hy
 have g2 := eq_false hr
 have g3 := eq_false hz
 have e : Bm s x st = (none, { st with stop := 4, n := 0 }) := by unfold Bm; cases x <;> simp [hp, hy, hr, hz] <;> rfl
 rw [e]
 clear e
 unfold mH mE
 simp +contextual -dsimp (maxSteps := 2000000) only [↓SD, SU, simprocAttr, B5, g0, g1, g2, g3]
 intro v5 v8
 refine Ae [60, 61, 62] (Ci ty l M b tv rv st (4) (0)) (by simp +contextual -dsimp only [↓SD, SU, simprocAttr, mH, mE]) ?_
 rintro r hp' ⟨tv, rv, rfl, rfl⟩
 unfold mH mE zV
 simp +contextual -dsimp (maxSteps := 2000000) only [↓SD, SU, simprocAttr]
 refine Af.post (mH ty l M b tv rv { st with stop := 4, n := 0 }) ?_
 unfold mH mE
 simp +contextual -dsimp (maxSteps := 2000000) only [↓SD, SU, simprocAttr]
 exact ⟨tv, rv, rfl, rfl⟩
def Uh (s : ByteArray) (e : EE) (st : ES) : Option EV × ES := match DR s e with
 | some v => (some v, st)
 | none => (none, st.bad)
theorem Yb : ∀ (e : EE) (s : ByteArray) (j : Nat), (∀ i, (h : i < e.bs.length) → j ≤ i → e.bs[i].s ≠ s) → j ≤ e.bs.length → (j = 0 → e.look s = none) ∧ (∀ i, (h : i < e.bs.length) → j = i + 1 → e.bs[i].s = s → e.look s = some e.bs[i].v)
 | .nil, s, j, h, hj => ⟨fun _ => rfl, fun i hi => by simp [EE.bs] at hi⟩
 | .cons t v up, s, j, h, hj => by
  have hl : (EE.cons t v up).bs.length = up.bs.length + 1 := by simp [EE.bs]
  have hlast : (EE.cons t v up).bs[up.bs.length]'(by omega) = ⟨t, v⟩ := by simp [EE.bs]
  have hprev : ∀ i (hi : i < up.bs.length), (EE.cons t v up).bs[i]'(by omega) = up.bs[i] := fun i hi => by simp [EE.bs, hi]
  rw [EE.look]
  by_cases hjl : j ≤ up.bs.length
  ·have h1 := h up.bs.length (by omega) hjl
   rw [hlast] at h1
   rw [if_neg h1]
   have ih := Yb up s j (fun i hi hji => by have := h i (by omega) hji; rwa [hprev i hi] at this) hjl
   refine ⟨ih.1, fun i hi hji hs => ?_⟩
   have hi2 : i < up.bs.length := by omega
   rw [hprev i hi2] at hs ⊢
   exact ih.2 i hi2 hji hs
  ·refine ⟨fun h0 => by omega, fun i hi hji hs => ?_⟩
   obtain rfl : i = up.bs.length := by omega
   rw [hlast] at hs ⊢
   rw [if_pos hs]
set_option maxHeartbeats 8000000 in
theorem Aa8 (ty : List BP) (l : List Node) (M : Int) (b tv rv : Nat) (st : ES) (s : ByteArray) (e : EE) (hel : e.len ≤ 1000000000) : Ay Tryz.prog 41 [.ptr 60 b 0 0, .str s, .sl (e.bs.map av)] (mH ty l M b tv rv st) (PT ty l M b (Uh s e st)) := by
 refine Ji.H rfl ?_
 unfold Uh
 have hlen := SK e
 have hpur : ∀ hp, (e.bs.map (av : EB → AV)).map (AV.pur hp) = e.bs.map av := fun hp => AA _ hp
 unfold mH mE
 simp +contextual -dsimp (maxSteps := 2000000) only [↓SD, SU, simprocAttr, Ji, Aa]
 intro w6
 refine ⟨⟨by omega, by omega⟩, ?_⟩
 refine Al (X := Nat) (fun j => ⟨[(0, .ptr 60 b 0 0), (1, .str s), (2, .sl (e.bs.map av)), (6, .ptr 6 w6 0 0), (8, .int .i64 ((j : Int) - 1))], [(6, ⟨w6, false, 55, 5, [zV]⟩), (60, mE ty l M b tv rv st), (61, ⟨tv, false, 9, 1, st.tr.map av⟩), (62, ⟨rv, false, 55, 5, st.refs.map av⟩)]⟩) (fun j => j ≤ e.bs.length ∧ ∀ i, (h : i < e.bs.length) → j ≤ i → e.bs[i].s ≠ s) (fun j => j) e.bs.length ⟨Nat.le_refl _, fun i h1 h2 => absurd h1 (by omega)⟩ (by simp +contextual -dsimp only [↓SD, SU, simprocAttr]) (by simp +contextual -dsimp only [↓SD, SU, simprocAttr, zV, mE]) ?_
 rintro j ⟨hj, hno⟩
 unfold mE zV
 have hat := Yb e s j hno hj
 cases j with
 | zero =>
  have e0 : e.look s = none := hat.1 rfl
  have hc := eq_false (show ¬ (0 : Int) ≤ ((0 : Nat) : Int) - 1 by omega)
  have qpy : (bs [112, 114, 105, 110, 116] = bs [115, 97, 121]) = False := eq_false (by decide)
  have qpr : (bs [112, 114, 105, 110, 116] = bs [114, 101, 97, 100]) = False := eq_false (by decide)
  have qpz : (bs [112, 114, 105, 110, 116] = bs [115, 105, 122, 101]) = False := eq_false (by decide)
  have qyp : (bs [115, 97, 121] = bs [112, 114, 105, 110, 116]) = False := eq_false (by decide)
  have qyr : (bs [115, 97, 121] = bs [114, 101, 97, 100]) = False := eq_false (by decide)
  have qyz : (bs [115, 97, 121] = bs [115, 105, 122, 101]) = False := eq_false (by decide)
  have qrp : (bs [114, 101, 97, 100] = bs [112, 114, 105, 110, 116]) = False := eq_false (by decide)
  have qry : (bs [114, 101, 97, 100] = bs [115, 97, 121]) = False := eq_false (by decide)
  have qrz : (bs [114, 101, 97, 100] = bs [115, 105, 122, 101]) = False := eq_false (by decide)
  have qzp : (bs [115, 105, 122, 101] = bs [112, 114, 105, 110, 116]) = False := eq_false (by decide)
  have qzy : (bs [115, 105, 122, 101] = bs [115, 97, 121]) = False := eq_false (by decide)
  have qzr : (bs [115, 105, 122, 101] = bs [114, 101, 97, 100]) = False := eq_false (by decide)
  by_cases hp : s = bs [112, 114, 105, 110, 116]
  ·subst hp
   have el : DR (bs [112, 114, 105, 110, 116]) e = some (.given (bs [112, 114, 105, 110, 116])) := by unfold DR; rw [e0]; rfl
   rw [el]
   simp +contextual -dsimp (maxSteps := 2000000) only [↓SD, SU, simprocAttr, hc, qpy, qpr, qpz]
   refine Af.post (mH ty l M b tv rv st) ?_
   unfold mH mE
   simp +contextual -dsimp (maxSteps := 2000000) only [↓SD, SU, simprocAttr]
   exact ⟨tv, rv, by simp [mH, mE], by simp [Df, EV.k, EV.num, EV.txt, EV.kA, EV.eA, AU]⟩
  by_cases hy : s = bs [115, 97, 121]
  ·subst hy
   have el : DR (bs [115, 97, 121]) e = some (.given (bs [115, 97, 121])) := by unfold DR; rw [e0]; rfl
   rw [el]
   simp +contextual -dsimp (maxSteps := 2000000) only [↓SD, SU, simprocAttr, hc, qyp, qyr, qyz]
   refine Af.post (mH ty l M b tv rv st) ?_
   unfold mH mE
   simp +contextual -dsimp (maxSteps := 2000000) only [↓SD, SU, simprocAttr]
   exact ⟨tv, rv, by simp [mH, mE], by simp [Df, EV.k, EV.num, EV.txt, EV.kA, EV.eA, AU]⟩
  by_cases hr : s = bs [114, 101, 97, 100]
  ·subst hr
   have el : DR (bs [114, 101, 97, 100]) e = some (.given (bs [114, 101, 97, 100])) := by unfold DR; rw [e0]; rfl
   rw [el]
   simp +contextual -dsimp (maxSteps := 2000000) only [↓SD, SU, simprocAttr, hc, qrp, qry, qrz]
   refine Af.post (mH ty l M b tv rv st) ?_
   unfold mH mE
   simp +contextual -dsimp (maxSteps := 2000000) only [↓SD, SU, simprocAttr]
   exact ⟨tv, rv, by simp [mH, mE], by simp [Df, EV.k, EV.num, EV.txt, EV.kA, EV.eA, AU]⟩
  by_cases hz : s = bs [115, 105, 122, 101]
  ·subst hz
   have el : DR (bs [115, 105, 122, 101]) e = some (.given (bs [115, 105, 122, 101])) := by unfold DR; rw [e0]; rfl
   rw [el]
   simp +contextual -dsimp (maxSteps := 2000000) only [↓SD, SU, simprocAttr, hc, qzp, qzy, qzr]
   refine Af.post (mH ty l M b tv rv st) ?_
   unfold mH mE
   simp +contextual -dsimp (maxSteps := 2000000) only [↓SD, SU, simprocAttr]
   exact ⟨tv, rv, by simp [mH, mE], by simp [Df, EV.k, EV.num, EV.txt, EV.kA, EV.eA, AU]⟩
  have el : DR s e = none := by unfold DR; rw [e0]; simp [Ko, hp, hy, hr, hz]
  have g0 := eq_false hp
  have g1 := eq_false hy
  have g2 := eq_false hr
  have g3 := eq_false hz
  rw [el]
  simp +contextual -dsimp (maxSteps := 2000000) only [↓SD, SU, simprocAttr, hc, g0, g1, g2, g3]
  refine Ae [60, 61, 62] (Ci ty l M b tv rv st (4) (0)) (by simp +contextual -dsimp only [↓SD, SU, simprocAttr, mH, mE]) ?_
  rintro r hp' ⟨tv, rv, rfl, rfl⟩
  unfold mH mE zV
  simp +contextual -dsimp (maxSteps := 2000000) only [↓SD, SU, simprocAttr]
  refine Af.post (mH ty l M b tv rv { st with stop := 4, n := 0 }) ?_
  unfold mH mE
  simp +contextual -dsimp (maxSteps := 2000000) only [↓SD, SU, simprocAttr]
  exact ⟨tv, rv, rfl, rfl⟩
 | succ j =>
  have hlt : j < e.bs.length := by omega
  have hc := eq_true (show (0 : Int) ≤ ((j + 1 : Nat) : Int) - 1 by omega)
  have hz : ((j + 1 : Nat) : Int) - 1 = (j : Int) := by omega
  have e1 := getD_map av e.bs j .top hlt
  have hf := hat.2 j hlt rfl
  by_cases hs : e.bs[j].s = s
  ·have hf := hf hs
   have el : DR s e = some e.bs[j].v := by unfold DR; rw [hf]
   rw [el]
   clear el hf hno hat
   generalize e.bs[j] = q at *
   obtain ⟨t, u⟩ := q
   rw [AbJ] at e1
   dsimp only at hs
   have gs := eq_true hs
   simp +contextual -dsimp (maxSteps := 2000000) only [↓SD, SU, simprocAttr, hc, hz, Aa, hlt, e1, gs, kA1, eA1, kAo, eAo]
   refine Af.post (mH ty l M b tv rv st) ?_
   unfold mH mE
   simp +contextual -dsimp (maxSteps := 2000000) only [↓SD, SU, simprocAttr, kA1, eA1]
   exact ⟨tv, rv, by simp [mH, mE], by simp [Df, AU]⟩
  ·have gs := eq_false hs
   have hno2 : ∀ i, (h : i < e.bs.length) → j ≤ i → e.bs[i].s ≠ s := fun i h hi => by
    by_cases hij : i = j
    ·subst hij; exact hs
    ·exact hno i h (by omega)
   generalize e.bs[j] = q at e1 gs
   obtain ⟨t, u⟩ := q
   rw [AbJ] at e1
   dsimp only at gs
   simp +contextual -dsimp (maxSteps := 2000000) only [↓SD, SU, simprocAttr, hc, hz, Aa, hlt, e1, gs, kA1, eA1, kAo, eAo]
   exact ⟨by omega, Af.le ⟨j, ⟨⟨by omega, hno2⟩, (by first | omega | (simp only; omega))⟩, rfl⟩ (by simp +contextual -dsimp only [↓SD, SU, simprocAttr]) (by simp +contextual -dsimp only [↓SD, SU, simprocAttr])⟩
set_option maxHeartbeats 8000000 in
theorem Aat (ty : List BP) (l : List Node) (M : Int) (b tv rv : Nat) (st : ES) (x : EV) (hr : st.refs.length ≤ 1049600000000) : Ay Tryz.prog 44 [.ptr 60 b 0 0, .int .i64 16, .sl [av x]] (mH ty l M b tv rv st) (PT ty l M b (some (.ref st.refs.length), { st with refs := st.refs ++ [x] })) := by
 refine C8.H rfl ?_
 rw [AU]
 have ht : List.take st.refs.length (st.refs.map (av : EV → AV)) = st.refs.map av := List.take_of_length_le (by simp)
 have hs : ∀ z : AV, (st.refs.map (av : EV → AV) ++ [z]).length = st.refs.length + 1 := fun z => by simp
 have hset : ∀ z y : AV, (st.refs.map (av : EV → AV) ++ [z]).set st.refs.length y = st.refs.map av ++ [y] := fun z y => by rw [List.set_append_right _ _ (by simp)]; simp
 have Aw : ∀ z : AV, (st.refs.map (av : EV → AV) ++ [z]).getD st.refs.length .top = z := fun z => by simp [List.getD_eq_getElem?_getD]
 unfold mH mE
 have hm : ((st.refs.length + 1 : Nat) : Int) - 1 = (st.refs.length : Int) := by omega
 simp +contextual -dsimp (maxSteps := 2000000) only [↓SD, SU, simprocAttr, C8, Aa, ht, kA1, eA1, kAo, eAo, hs, hset, Aw, hm]
 intro v6
 refine ⟨⟨by omega, by unfold maxLen; omega⟩, fun w => ?_⟩
 repeat' (first | omega | refine And.intro ?_ ?_)
 all_goals
  refine Af.post (mH ty l M b tv w { st with refs := st.refs ++ [x] }) ?_
  unfold mH mE
  simp +contextual -dsimp (maxSteps := 2000000) only [↓SD, SU, simprocAttr, List.length_append, List.map_append, AU]
  exact ⟨tv, w, by simp [mH, mE, AU], by simp [Df, EV.k, EV.num, EV.txt, EV.kA, EV.eA, AU]⟩
def ZJ (x : EV) (st : ES) : Option EV × ES := match x with
 | .ref j => (some (st.refs.getD j default), st)
 | _ => (none, st.bad)
def Zo (x y : EV) (st : ES) : Option EV × ES := match x with
 | .ref j => (some .unit, { st with refs := st.refs.set j y })
 | _ => (none, st.bad)
theorem kN {v : EV} (h : v.k = 7) : ∃ j, v = .ref j := by cases v <;> first | exact ⟨_, rfl⟩ | (simp [EV.k] at h)
set_option maxHeartbeats 8000000 in
theorem Aau (ty : List BP) (l : List Node) (M : Int) (b tv rv : Nat) (st : ES) (x : EV) (hx : ∀ j, x = .ref j → j < st.refs.length) : Ay Tryz.prog 44 [.ptr 60 b 0 0, .int .i64 17, .sl [av x]] (mH ty l M b tv rv st) (PT ty l M b (ZJ x st)) := by
 refine C8.H rfl ?_
 rw [AU]
 by_cases h7 : x.k = 7
 ·obtain ⟨j, rfl⟩ := kN h7
  have hj := hx j rfl
  have e1 := getD_map av st.refs j .top hj
  have e2 : st.refs.getD j default = st.refs[j] := (List.getElem_eq_getD _).symm
  have er : ZJ (.ref j) st = (some st.refs[j], st) := by show (some (st.refs.getD j default), st) = _; rw [e2]
  rw [er]
  clear e2 er
  unfold mH mE
  generalize st.refs[j] = u at *
  rw [AU] at e1
  have r1 : (EV.ref j).k = 7 := rfl
  have r2 : (EV.ref j).num = (j : Int) := rfl
  have r3 : (EV.ref j).txt = bs [] := rfl
  have r4 : (EV.ref j).kA = .Ar := by rw [EV.kA]
  have r5 : (EV.ref j).eA = .Ar := by rw [EV.eA]
  simp +contextual -dsimp (maxSteps := 2000000) only [↓SD, SU, simprocAttr, C8, Aa, r1, r2, r3, r4, r5, hj, e1, kA1, eA1, kAo, eAo]
  intro v6
  refine Af.post (mH ty l M b tv rv st) ?_
  unfold mH mE
  simp +contextual -dsimp (maxSteps := 2000000) only [↓SD, SU, simprocAttr, kA1, eA1]
  exact ⟨tv, rv, by simp [mH, mE], by simp [Df, AU]⟩
 ·have g7 := eq_false h7
  have e : ZJ x st = (none, { st with stop := 4, n := 0 }) := by cases x <;> first | rfl | (exact absurd rfl h7)
  rw [e]
  clear e
  unfold mH mE
  simp +contextual -dsimp (maxSteps := 2000000) only [↓SD, SU, simprocAttr, C8, Aa, g7, kA1, eA1, kAo, eAo]
  intro v6
  refine Ae [60, 61, 62] (Ci ty l M b tv rv st (4) (0)) (by simp +contextual -dsimp only [↓SD, SU, simprocAttr, mH, mE]) ?_
  rintro r hp' ⟨tv, rv, rfl, rfl⟩
  unfold mH mE zV
  simp +contextual -dsimp (maxSteps := 2000000) only [↓SD, SU, simprocAttr]
  refine Af.post (mH ty l M b tv rv { st with stop := 4, n := 0 }) ?_
  unfold mH mE
  simp +contextual -dsimp (maxSteps := 2000000) only [↓SD, SU, simprocAttr]
  exact ⟨tv, rv, rfl, rfl⟩
set_option maxHeartbeats 8000000 in
theorem Aas (ty : List BP) (l : List Node) (M : Int) (b tv rv : Nat) (st : ES) (x y : EV) (hx : ∀ j, x = .ref j → j < st.refs.length) : Ay Tryz.prog 44 [.ptr 60 b 0 0, .int .i64 18, .sl [av x, av y]] (mH ty l M b tv rv st) (PT ty l M b (Zo x y st)) := by
 refine C8.H rfl ?_
 rw [AU, AU]
 by_cases h7 : x.k = 7
 ·obtain ⟨j, rfl⟩ := kN h7
  have hj := hx j rfl
  have e1 := getD_map av st.refs j .top hj
  have er : Zo (.ref j) y st = (some .unit, { st with refs := st.refs.set j y }) := rfl
  rw [er]
  clear er
  unfold mH mE
  generalize st.refs[j] = u at *
  rw [AU] at e1
  have hset : ∀ z : AV, (st.refs.map (av : EV → AV)).set j z = (st.refs.map av).set j z := fun z => rfl
  have r1 : (EV.ref j).k = 7 := rfl
  have r2 : (EV.ref j).num = (j : Int) := rfl
  have r3 : (EV.ref j).txt = bs [] := rfl
  have r4 : (EV.ref j).kA = .Ar := by rw [EV.kA]
  have r5 : (EV.ref j).eA = .Ar := by rw [EV.eA]
  simp +contextual -dsimp (maxSteps := 2000000) only [↓SD, SU, simprocAttr, C8, Aa, r1, r2, r3, r4, r5, hj, e1, kA1, eA1, kAo, eAo]
  intro v6
  refine Af.post (mH ty l M b tv rv { st with refs := st.refs.set j y }) ?_
  unfold mH mE
  simp +contextual -dsimp (maxSteps := 2000000) only [↓SD, SU, simprocAttr, List.length_set, List.map_set, AU]
  exact ⟨tv, rv, by simp [mH, mE, AU, List.map_set], by simp [Df, EV.k, EV.num, EV.txt, EV.kA, EV.eA, AU]⟩
 ·have g7 := eq_false h7
  have e : Zo x y st = (none, { st with stop := 4, n := 0 }) := by cases x <;> first | rfl | (exact absurd rfl h7)
  rw [e]
  clear e
  unfold mH mE
  simp +contextual -dsimp (maxSteps := 2000000) only [↓SD, SU, simprocAttr, C8, Aa, g7, kA1, eA1, kAo, eAo]
  intro v6
  refine Ae [60, 61, 62] (Ci ty l M b tv rv st (4) (0)) (by simp +contextual -dsimp only [↓SD, SU, simprocAttr, mH, mE]) ?_
  rintro r hp' ⟨tv, rv, rfl, rfl⟩
  unfold mH mE zV
  simp +contextual -dsimp (maxSteps := 2000000) only [↓SD, SU, simprocAttr]
  refine Af.post (mH ty l M b tv rv { st with stop := 4, n := 0 }) ?_
  unfold mH mE
  simp +contextual -dsimp (maxSteps := 2000000) only [↓SD, SU, simprocAttr]
  exact ⟨tv, rv, rfl, rfl⟩
end Go.Proofs.YtjbcnilllfaipaaGreat
