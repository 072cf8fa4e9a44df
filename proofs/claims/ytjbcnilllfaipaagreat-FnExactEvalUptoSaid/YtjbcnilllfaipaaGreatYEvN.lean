/-
 NAMES AND OPERATORS OF THE PROGRAM'S RUN, by abstract texts. Conditions: none. Printed by evn.py.
-/
import Derived.Test.YtjbcnilllfaipaaGreatYEvJ
set_option linter.unusedVariables false
set_option linter.unusedSimpArgs false
set_option maxRecDepth 100000
namespace Go.Proofs.YtjbcnilllfaipaaGreat
open Go.RowKit Go.Proofs.YtjbcnilllfaipaaGreat.Av Go.Proofs.YtjbcnilllfaipaaGreat.Ml
open Go.Proofs.YtjbcnilllfaipaaGreat.Av.AVal (av)

def NK (l : List Nat) : AV := .agg [.int .i64 0, .str (bs l), .int .i64 0]
def Lg : AV := .agg [.int .i64 0, .str (bs [45, 62]), .int .i64 2]
def Kn (s : ByteArray) : AV :=
 if s = bs [112, 114, 105, 110, 116] then .sl [Lg, NK [105, 110, 116], NK [117, 110, 105, 116]]
 else if s = bs [115, 97, 121] then .sl [Lg, NK [115, 116, 114, 105, 110, 103], NK [117, 110, 105, 116]]
 else if s = bs [114, 101, 97, 100] then .sl [Lg, NK [117, 110, 105, 116], NK [105, 110, 116]]
 else if s = bs [115, 105, 122, 101] then .sl [Lg, NK [115, 116, 114, 105, 110, 103], NK [105, 110, 116]]
 else .Ar
theorem UH (s : ByteArray) : Ap Tryz.prog 99 [.str s] (Kn s) := by
 have hi : ∀ l, ∀ y ∈ (NK l).cells, Ac y := fun l y hy => by
  simp only [NK, AV.cells, List.mem_cons, List.not_mem_nil, or_false] at hy
  rcases hy with rfl | rfl | rfl
  ·exact Ac.int _ _
  ·exact Ac.str _
  ·exact Ac.int _ _
 have ha : ∀ y ∈ Lg.cells, Ac y := fun y hy => by
  simp only [Lg, AV.cells, List.mem_cons, List.not_mem_nil, or_false] at hy
  rcases hy with rfl | rfl | rfl
  ·exact Ac.int _ _
  ·exact Ac.str _
  ·exact Ac.int _ _
 have hs : ∀ a b, Ac (.sl [Lg, NK a, NK b]) := fun a b => Ac.sl fun e he y hy => by
  simp only [List.mem_cons, List.not_mem_nil, or_false] at he
  rcases he with rfl | rfl | rfl
  ·exact ha y hy
  ·exact hi _ y hy
  ·exact hi _ y hy
 have hp : Ac (Kn s) := by
  unfold Kn
  repeat' split
  all_goals first | exact hs _ _ | exact Ac.Ar
 refine Eo.F rfl (by simp; exact Ac.str _) hp ?_
 unfold Kn
 by_cases h1 : s = bs [112, 114, 105, 110, 116]
 ·rw [if_pos h1]
  have e1 := eq_true h1
  clear h1
  simp +contextual -dsimp (maxSteps := 2000000) only [↓SD, SU, simprocAttr, Eo, e1]
  rfl
 by_cases h2 : s = bs [115, 97, 121]
 ·rw [if_neg h1, if_pos h2]
  have e2 := eq_true h2
  clear h2
  simp +contextual -dsimp (maxSteps := 2000000) only [↓SD, SU, simprocAttr, Eo, h1, e2]
  rfl
 by_cases h3 : s = bs [114, 101, 97, 100]
 ·rw [if_neg h1, if_neg h2, if_pos h3]
  have e3 := eq_true h3
  clear h3
  simp +contextual -dsimp (maxSteps := 2000000) only [↓SD, SU, simprocAttr, Eo, h1, h2, e3]
  rfl
 by_cases h4 : s = bs [115, 105, 122, 101]
 ·rw [if_neg h1, if_neg h2, if_neg h3, if_pos h4]
  have e4 := eq_true h4
  clear h4
  simp +contextual -dsimp (maxSteps := 2000000) only [↓SD, SU, simprocAttr, Eo, h1, h2, h3, e4]
  rfl
 rw [if_neg h1, if_neg h2, if_neg h3, if_neg h4]
 simp +contextual -dsimp (maxSteps := 2000000) only [↓SD, SU, simprocAttr, Eo, h1, h2, h3, h4]
def WE (s : ByteArray) : Bool := Ko.any (fun x => decide (s = x))
theorem Abn {s : ByteArray} (h : WE s = true) : ∃ a b c, Kn s = .sl [a, b, c] := by
 unfold WE Ko at h
 simp only [List.any_cons, List.any_nil, Bool.or_false, Bool.or_eq_true, decide_eq_true_eq] at h
 unfold Kn
 repeat' split
 all_goals first | exact ⟨_, _, _, rfl⟩ | skip
 simp_all
theorem AcE {s : ByteArray} (h : WE s = false) : Kn s = .Ar := by
 unfold WE Ko at h
 simp only [List.any_cons, List.any_nil, Bool.or_false, Bool.or_eq_false_iff, decide_eq_false_iff_not] at h
 unfold Kn
 rw [if_neg h.1, if_neg h.2.1, if_neg h.2.2.1, if_neg h.2.2.2]
def Aer (l : List Node) (vs : List Nat) (m b tv : Nat) (M : Int) (st : ES) (n : Int) (r : Option EV) (x : AV) (hp' : Hp) : Prop :=
 (∃ v, r = some v ∧ hp' = [(60, wB b tv M st n)] ∧ IR l vs m v x) ∨ (r = none ∧ x = .Cx ∧ hp' = [(60, wB b tv M st.bad n)])
def Aeq (l : List Node) (vs : List Nat) (m : Nat) (s : ByteArray) (e : EE) (p : EE × AV) : Prop := IRE l vs m p.1 p.2 ∧ p.1.look s = e.look s
set_option maxHeartbeats 8000000 in
theorem Acv (l : List Node) (vs : List Nat) (m b tv : Nat) (M : Nat) (st : ES) (n : Int) (s : ByteArray) (e : EE) (xe : AV) (he : IRE l vs m e xe) : Ay Tryz.prog 56 [.ptr 60 b 0 0, .str s, xe] [(60, wB b tv M st n)] (Aer l vs m b tv M st n (DR s e)) := by
 refine FQ.H rfl ?_
 have po := he.one
 have pp := fun hp => he.AR hp
 unfold wB
 simp +contextual -dsimp (maxSteps := 2000000) only [↓SD, SU, simprocAttr, FQ, po, pp]
 refine Al (X := EE × AV) (fun q => ⟨[(0, .ptr 60 b 0 0), (1, .str s), (7, q.2)], [(60, wB b tv M st n)]⟩) (Aeq l vs m s e) (fun q => q.1.len) (e, xe) ⟨he, rfl⟩ (by simp +contextual -dsimp only [↓SD, SU, simprocAttr, po, pp]) (by simp +contextual -dsimp only [↓SD, SU, simprocAttr, wB]) ?_
 rintro ⟨u, xu⟩ ⟨hu, hl⟩
 dsimp only at hu hl
 cases hu with
 | nil =>
  have hn : e.look s = none := by rw [← hl, EE.look]
  cases hg : WE s
  ·have C := UH s
   rw [AcE hg] at C
   unfold wB
   simp +contextual -dsimp (maxSteps := 2000000) only [↓SD, SU, simprocAttr, po, pp]
   refine Ab _ C ?_
   simp +contextual -dsimp (maxSteps := 2000000) only [↓SD, SU, simprocAttr, ]
   refine Ae [60] (DE b tv M st n) (by simp +contextual -dsimp only [↓SD, SU, simprocAttr, wB]) ?_
   rintro r hp' ⟨rfl, rfl⟩
   unfold wB
   simp +contextual -dsimp (maxSteps := 2000000) only [↓SD, SU, simprocAttr]
   refine Af.post [(60, wB b tv M st.bad n)] ?_
   unfold wB
   simp +contextual -dsimp (maxSteps := 2000000) only [↓SD, SU, simprocAttr, show st.bad.inp = st.inp from rfl, show st.bad.tr = st.tr from rfl, show st.bad.steps = st.steps from rfl, show st.bad.stop = 4 from rfl]
   refine .inr ⟨?_, rfl, rfl⟩
   unfold DR
   rw [hn]
   unfold WE at hg
   simp [hg]
  ·obtain ⟨a, b', c, hv⟩ := Abn hg
   have C := UH s
   rw [hv] at C
   unfold wB
   simp +contextual -dsimp (maxSteps := 2000000) only [↓SD, SU, simprocAttr, po, pp]
   refine Ab _ C ?_
   simp +contextual -dsimp (maxSteps := 2000000) only [↓SD, SU, simprocAttr, ]
   refine Af.post [(60, wB b tv M st n)] ?_
   unfold wB
   simp +contextual -dsimp (maxSteps := 2000000) only [↓SD, SU, simprocAttr]
   refine .inl ⟨.given s, ?_, rfl, .given m s⟩
   unfold DR
   rw [hn]
   unfold WE at hg
   simp [hg]
 | cons _ t v up x xu2 hx hu2 =>
  have xo := hx.one
  have xp := fun hp => hx.AR hp
  have xq := fun hp => hx.pur hp
  have uo := hu2.one
  have up1 := fun hp => hu2.AR hp
  by_cases ht : t = s
  ·have g := eq_true ht
   unfold wB
   simp +contextual -dsimp (maxSteps := 2000000) only [↓SD, SU, simprocAttr, g, po, pp, xo, xp, xq, uo, up1]
   refine Af.post [(60, wB b tv M st n)] ?_
   unfold wB
   simp +contextual -dsimp (maxSteps := 2000000) only [↓SD, SU, simprocAttr, xo, xp, xq]
   refine .inl ⟨v, ?_, rfl, hx⟩
   unfold DR
   rw [← hl, EE.look, if_pos ht]
  ·have g := eq_false ht
   have hl2 : up.look s = e.look s := by rw [← hl, EE.look, if_neg ht]
   unfold wB
   simp +contextual -dsimp (maxSteps := 2000000) only [↓SD, SU, simprocAttr, g, po, pp, xo, xp, uo, up1]
   exact Af.le ⟨(up, xu2), ⟨⟨hu2, hl2⟩, by simp [EE.len]⟩, rfl⟩ (by simp +contextual -dsimp only [↓SD, SU, simprocAttr]) (by simp +contextual -dsimp only [↓SD, SU, simprocAttr, wB])
def OpI (l : List Node) (vs : List Nat) (m b tv : Nat) (M : Int) (n : Int) (r : Option EV × ES) (x : AV) (hp' : Hp) : Prop := ∃ n', hp' = [(60, wB b tv M r.2 n')] ∧ (r.2.stop = 2 → n' = r.2.n) ∧ ((∃ v, r.1 = some v ∧ IR l vs m v x) ∨ (r.1 = none ∧ x = .Cx))
set_option maxHeartbeats 8000000 in
theorem Wm (l : List Node) (vs : List Nat) (m b tv : Nat) (M : Nat) (st : ES) (n : Int) (s : ByteArray) (a c : EV) (xa xc : AV) (ha : IR l vs m a xa) (hc : IR l vs m c xc) (h0 : st.stop = 0) (ia : ∀ u, a = .int u → I64 u) (ic : ∀ u, c = .int u → I64 u) (sa : ∀ u, a = .str u → u.size ≤ 1099511627776) (sc : ∀ u, c = .str u → u.size ≤ 1099511627776) : Ay Tryz.prog 105 [.ptr 60 b 0 0, .str s, xa, xc] [(60, wB b tv M st n)] (OpI l vs m b tv M n (Ce s a c st)) := by
 refine AQ.H rfl ?_
 have hst0 : ∀ {P : Prop}, st.stop = 2 → P := fun h => absurd (h0.symm.trans h) (by decide)
 by_cases hs : s = bs [94]
 ·have gs := eq_true hs
  by_cases ka : a.ik = 2 <;> by_cases kc : c.ik = 2
  ·obtain ⟨u, rfl⟩ : ∃ u, a = .str u := by cases a <;> first | exact ⟨_, rfl⟩ | (simp [EV.ik] at ka)
   obtain ⟨v, rfl⟩ : ∃ u, c = .str u := by cases c <;> first | exact ⟨_, rfl⟩ | (simp [EV.ik] at kc)
   have zu := sa u rfl
   have zv := sc v rfl
   cases ha
   cases hc
   unfold ivA
   have e : Ce s (.str u) (.str v) st = if 1000 < u.size + v.size then (none, st.raise (-4)) else (some (.str (u ++ v)), st) := by unfold Ce; rw [if_pos hs]
   rw [e]
   clear e
   have q1 : -9223372036854775808 ≤ (u.size : Int) + v.size := by omega
   have q2 : (u.size : Int) + v.size ≤ 9223372036854775807 := by omega
   by_cases hz : 1000 < u.size + v.size
   ·have gz := eq_true (show (1000 : Int) < (u.size : Int) + v.size by omega)
    rw [if_pos hz]
    unfold wB
    simp +contextual -dsimp (maxSteps := 2000000) only [↓SD, SU, simprocAttr, AQ, gs, q1, q2, gz]
    refine Ae [60] (JQ b tv M st n (-4)) (by simp +contextual -dsimp only [↓SD, SU, simprocAttr, wB]) ?_
    rintro r hp' ⟨rfl, rfl⟩
    unfold wB
    simp +contextual -dsimp (maxSteps := 2000000) only [↓SD, SU, simprocAttr]
    refine Af.post [(60, wB b tv M (st.raise (-4)) (-4))] ?_
    unfold wB
    simp +contextual -dsimp (maxSteps := 2000000) only [↓SD, SU, simprocAttr, show (st.raise (-4)).inp = st.inp from rfl, show (st.raise (-4)).tr = st.tr from rfl, show (st.raise (-4)).steps = st.steps from rfl, show (st.raise (-4)).stop = 2 from rfl]
    exact ⟨-4, rfl, fun _ => rfl, .inr ⟨rfl, rfl⟩⟩
   ·have gz := eq_false (show ¬ (1000 : Int) < (u.size : Int) + v.size by omega)
    rw [if_neg hz]
    unfold wB
    simp +contextual -dsimp (maxSteps := 2000000) only [↓SD, SU, simprocAttr, AQ, gs, q1, q2, gz]
    refine ⟨by unfold maxLen; omega, ?_⟩
    refine Af.post [(60, wB b tv M st n)] ?_
    unfold wB
    simp +contextual -dsimp (maxSteps := 2000000) only [↓SD, SU, simprocAttr]
    exact ⟨n, rfl, fun h => hst0 h, .inl ⟨_, rfl, .str m _⟩⟩
  ·have ga := eq_true ka
   have gc := eq_false kc
   have e : Ce s a c st = (none, st.bad) := by unfold Ce; rw [if_pos hs]; cases a <;> cases c <;> first | rfl | (exact absurd rfl ka) | (exact absurd rfl kc)
   rw [e]
   clear e
   obtain ⟨A1, B1, C1, rfl⟩ := Cs ha
   obtain ⟨A2, B2, C2, rfl⟩ := Cs hc
   unfold wB
   simp +contextual -dsimp (maxSteps := 2000000) only [↓SD, SU, simprocAttr, AQ, gs, ga, gc]
   refine Ae [60] (DE b tv M st n) (by simp +contextual -dsimp only [↓SD, SU, simprocAttr, wB]) ?_
   rintro r hp' ⟨rfl, rfl⟩
   unfold wB
   simp +contextual -dsimp (maxSteps := 2000000) only [↓SD, SU, simprocAttr]
   refine Af.post [(60, wB b tv M st.bad n)] ?_
   unfold wB
   simp +contextual -dsimp (maxSteps := 2000000) only [↓SD, SU, simprocAttr, show st.bad.inp = st.inp from rfl, show st.bad.tr = st.tr from rfl, show st.bad.steps = st.steps from rfl, show st.bad.stop = 4 from rfl]
   exact ⟨n, rfl, fun h => absurd (show (4 : Int) = 2 from h) (by decide), .inr ⟨rfl, rfl⟩⟩
  ·have ga := eq_false ka
   have gc := eq_true kc
   have e : Ce s a c st = (none, st.bad) := by unfold Ce; rw [if_pos hs]; cases a <;> cases c <;> first | rfl | (exact absurd rfl ka) | (exact absurd rfl kc)
   rw [e]
   clear e
   obtain ⟨A1, B1, C1, rfl⟩ := Cs ha
   obtain ⟨A2, B2, C2, rfl⟩ := Cs hc
   unfold wB
   simp +contextual -dsimp (maxSteps := 2000000) only [↓SD, SU, simprocAttr, AQ, gs, ga, gc]
   refine Ae [60] (DE b tv M st n) (by simp +contextual -dsimp only [↓SD, SU, simprocAttr, wB]) ?_
   rintro r hp' ⟨rfl, rfl⟩
   unfold wB
   simp +contextual -dsimp (maxSteps := 2000000) only [↓SD, SU, simprocAttr]
   refine Af.post [(60, wB b tv M st.bad n)] ?_
   unfold wB
   simp +contextual -dsimp (maxSteps := 2000000) only [↓SD, SU, simprocAttr, show st.bad.inp = st.inp from rfl, show st.bad.tr = st.tr from rfl, show st.bad.steps = st.steps from rfl, show st.bad.stop = 4 from rfl]
   exact ⟨n, rfl, fun h => absurd (show (4 : Int) = 2 from h) (by decide), .inr ⟨rfl, rfl⟩⟩
  ·have ga := eq_false ka
   have gc := eq_false kc
   have e : Ce s a c st = (none, st.bad) := by unfold Ce; rw [if_pos hs]; cases a <;> cases c <;> first | rfl | (exact absurd rfl ka) | (exact absurd rfl kc)
   rw [e]
   clear e
   obtain ⟨A1, B1, C1, rfl⟩ := Cs ha
   obtain ⟨A2, B2, C2, rfl⟩ := Cs hc
   unfold wB
   simp +contextual -dsimp (maxSteps := 2000000) only [↓SD, SU, simprocAttr, AQ, gs, ga, gc]
   refine Ae [60] (DE b tv M st n) (by simp +contextual -dsimp only [↓SD, SU, simprocAttr, wB]) ?_
   rintro r hp' ⟨rfl, rfl⟩
   unfold wB
   simp +contextual -dsimp (maxSteps := 2000000) only [↓SD, SU, simprocAttr]
   refine Af.post [(60, wB b tv M st.bad n)] ?_
   unfold wB
   simp +contextual -dsimp (maxSteps := 2000000) only [↓SD, SU, simprocAttr, show st.bad.inp = st.inp from rfl, show st.bad.tr = st.tr from rfl, show st.bad.steps = st.steps from rfl, show st.bad.stop = 4 from rfl]
   exact ⟨n, rfl, fun h => absurd (show (4 : Int) = 2 from h) (by decide), .inr ⟨rfl, rfl⟩⟩
 ·have gs := eq_false hs
  by_cases ka : a.ik = 1 <;> by_cases kc : c.ik = 1
  ·obtain ⟨u, rfl⟩ : ∃ u, a = .int u := by cases a <;> first | exact ⟨_, rfl⟩ | (simp [EV.ik] at ka)
   obtain ⟨v, rfl⟩ : ∃ u, c = .int u := by cases c <;> first | exact ⟨_, rfl⟩ | (simp [EV.ik] at kc)
   have CP := Acj s u v (ia u rfl) (ic v rfl)
   cases ha
   cases hc
   unfold ivA
   have e : Ce s (.int u) (.int v) st = if (ET s u v).2.2 = true then (if (ET s u v).2.1 = true then (some (.EZ (PV (ET s u v).1)), st) else (some (.int (ET s u v).1), st)) else (none, st.raise (-2)) := by unfold Ce; rw [if_neg hs]
   rw [e]
   clear e
   generalize ET s u v = pv at CP ⊢
   obtain ⟨p1, p2, p3⟩ := pv
   dsimp only at CP ⊢
   cases p3
   ·rw [if_neg (by decide)]
    unfold wB
    simp +contextual -dsimp (maxSteps := 2000000) only [↓SD, SU, simprocAttr, AQ, gs]
    refine Ab _ CP ?_
    simp +contextual -dsimp (maxSteps := 2000000) only [↓SD, SU, simprocAttr, ]
    refine Ae [60] (JQ b tv M st n (-2)) (by simp +contextual -dsimp only [↓SD, SU, simprocAttr, wB]) ?_
    rintro r hp' ⟨rfl, rfl⟩
    unfold wB
    simp +contextual -dsimp (maxSteps := 2000000) only [↓SD, SU, simprocAttr]
    refine Af.post [(60, wB b tv M (st.raise (-2)) (-2))] ?_
    unfold wB
    simp +contextual -dsimp (maxSteps := 2000000) only [↓SD, SU, simprocAttr, show (st.raise (-2)).inp = st.inp from rfl, show (st.raise (-2)).tr = st.tr from rfl, show (st.raise (-2)).steps = st.steps from rfl, show (st.raise (-2)).stop = 2 from rfl]
    exact ⟨-2, rfl, fun _ => rfl, .inr ⟨rfl, rfl⟩⟩
   ·rw [if_pos rfl]
    cases p2
    ·rw [if_neg (by decide)]
     unfold wB
     simp +contextual -dsimp (maxSteps := 2000000) only [↓SD, SU, simprocAttr, AQ, gs]
     refine Ab _ CP ?_
     simp +contextual -dsimp (maxSteps := 2000000) only [↓SD, SU, simprocAttr, ]
     refine Af.post [(60, wB b tv M st n)] ?_
     unfold wB
     simp +contextual -dsimp (maxSteps := 2000000) only [↓SD, SU, simprocAttr]
     exact ⟨n, rfl, fun h => hst0 h, .inl ⟨_, rfl, .int m _⟩⟩
    ·rw [if_pos rfl]
     unfold wB
     simp +contextual -dsimp (maxSteps := 2000000) only [↓SD, SU, simprocAttr, AQ, gs]
     refine Ab _ CP ?_
     simp +contextual -dsimp (maxSteps := 2000000) only [↓SD, SU, simprocAttr, ]
     refine Ab _ (RT p1) ?_
     simp +contextual -dsimp (maxSteps := 2000000) only [↓SD, SU, simprocAttr, ]
     refine Af.post [(60, wB b tv M st n)] ?_
     unfold wB
     simp +contextual -dsimp (maxSteps := 2000000) only [↓SD, SU, simprocAttr]
     exact ⟨n, rfl, fun h => hst0 h, .inl ⟨_, rfl, .EZ m _⟩⟩
  ·have ga := eq_true ka
   have gc := eq_false kc
   have e : Ce s a c st = (none, st.bad) := by unfold Ce; rw [if_neg hs]; cases a <;> cases c <;> first | rfl | (exact absurd rfl ka) | (exact absurd rfl kc)
   rw [e]
   clear e
   obtain ⟨A1, B1, C1, rfl⟩ := Cs ha
   obtain ⟨A2, B2, C2, rfl⟩ := Cs hc
   unfold wB
   simp +contextual -dsimp (maxSteps := 2000000) only [↓SD, SU, simprocAttr, AQ, gs, ga, gc]
   refine Ae [60] (DE b tv M st n) (by simp +contextual -dsimp only [↓SD, SU, simprocAttr, wB]) ?_
   rintro r hp' ⟨rfl, rfl⟩
   unfold wB
   simp +contextual -dsimp (maxSteps := 2000000) only [↓SD, SU, simprocAttr]
   refine Af.post [(60, wB b tv M st.bad n)] ?_
   unfold wB
   simp +contextual -dsimp (maxSteps := 2000000) only [↓SD, SU, simprocAttr, show st.bad.inp = st.inp from rfl, show st.bad.tr = st.tr from rfl, show st.bad.steps = st.steps from rfl, show st.bad.stop = 4 from rfl]
   exact ⟨n, rfl, fun h => absurd (show (4 : Int) = 2 from h) (by decide), .inr ⟨rfl, rfl⟩⟩
  ·have ga := eq_false ka
   have gc := eq_true kc
   have e : Ce s a c st = (none, st.bad) := by unfold Ce; rw [if_neg hs]; cases a <;> cases c <;> first | rfl | (exact absurd rfl ka) | (exact absurd rfl kc)
   rw [e]
   clear e
   obtain ⟨A1, B1, C1, rfl⟩ := Cs ha
   obtain ⟨A2, B2, C2, rfl⟩ := Cs hc
   unfold wB
   simp +contextual -dsimp (maxSteps := 2000000) only [↓SD, SU, simprocAttr, AQ, gs, ga, gc]
   refine Ae [60] (DE b tv M st n) (by simp +contextual -dsimp only [↓SD, SU, simprocAttr, wB]) ?_
   rintro r hp' ⟨rfl, rfl⟩
   unfold wB
   simp +contextual -dsimp (maxSteps := 2000000) only [↓SD, SU, simprocAttr]
   refine Af.post [(60, wB b tv M st.bad n)] ?_
   unfold wB
   simp +contextual -dsimp (maxSteps := 2000000) only [↓SD, SU, simprocAttr, show st.bad.inp = st.inp from rfl, show st.bad.tr = st.tr from rfl, show st.bad.steps = st.steps from rfl, show st.bad.stop = 4 from rfl]
   exact ⟨n, rfl, fun h => absurd (show (4 : Int) = 2 from h) (by decide), .inr ⟨rfl, rfl⟩⟩
  ·have ga := eq_false ka
   have gc := eq_false kc
   have e : Ce s a c st = (none, st.bad) := by unfold Ce; rw [if_neg hs]; cases a <;> cases c <;> first | rfl | (exact absurd rfl ka) | (exact absurd rfl kc)
   rw [e]
   clear e
   obtain ⟨A1, B1, C1, rfl⟩ := Cs ha
   obtain ⟨A2, B2, C2, rfl⟩ := Cs hc
   unfold wB
   simp +contextual -dsimp (maxSteps := 2000000) only [↓SD, SU, simprocAttr, AQ, gs, ga, gc]
   refine Ae [60] (DE b tv M st n) (by simp +contextual -dsimp only [↓SD, SU, simprocAttr, wB]) ?_
   rintro r hp' ⟨rfl, rfl⟩
   unfold wB
   simp +contextual -dsimp (maxSteps := 2000000) only [↓SD, SU, simprocAttr]
   refine Af.post [(60, wB b tv M st.bad n)] ?_
   unfold wB
   simp +contextual -dsimp (maxSteps := 2000000) only [↓SD, SU, simprocAttr, show st.bad.inp = st.inp from rfl, show st.bad.tr = st.tr from rfl, show st.bad.steps = st.steps from rfl, show st.bad.stop = 4 from rfl]
   exact ⟨n, rfl, fun h => absurd (show (4 : Int) = 2 from h) (by decide), .inr ⟨rfl, rfl⟩⟩
end Go.Proofs.YtjbcnilllfaipaaGreat
