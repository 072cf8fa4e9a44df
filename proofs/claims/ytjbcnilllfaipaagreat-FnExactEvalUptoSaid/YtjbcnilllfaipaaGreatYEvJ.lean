/-
 A PATTERN AGAINST A RUN-TIME VALUE, by the program's abstract text: hitVal. Conditions: none. Printed by evj.py.
-/
import Derived.Test.YtjbcnilllfaipaaGreatYEvI
import Derived.Test.YtjbcnilllfaipaaGreatYEvH
set_option linter.unusedVariables false
set_option linter.unusedSimpArgs false
set_option maxRecDepth 100000
namespace Go.Proofs.YtjbcnilllfaipaaGreat
open Go.RowKit Go.Proofs.YtjbcnilllfaipaaGreat.Av Go.Proofs.YtjbcnilllfaipaaGreat.Ml
open Go.Proofs.YtjbcnilllfaipaaGreat.Av.AVal (av)

def rtH (h : Hd) (m : Nat) : Prop := h.kind = 1 ∨ h.kind = 2 ∨ (h.kind = 3 ∧ h.s = bs [] ∧ m = 0) ∨ (h.kind = 6 ∧ h.n = 0 ∧ h.s = bs [] ∧ m = 0) ∨ (h.kind = 5 ∧ h.n = 0 ∧ h.s = bs [] ∧ m = 2) ∨ (h.kind = 4 ∧ h.n = 0)
mutual
def Px.rt : Px → Prop
 | .mk h ks => rtH h ks.length ∧ Px.rts ks
def Px.rts : List Px → Prop
 | [] => True
 | t :: ts => t.rt ∧ Px.rts ts
end
theorem R8 : ∀ {ks : List Px} {k : Px}, Px.rts ks → k ∈ ks → k.rt
 | [], k, _, hk => by cases hk
 | t :: ts, k, h, hk => by
  rw [Px.rts] at h
  rcases List.mem_cons.1 hk with rfl | hk
  ·exact h.1
  ·exact R8 h.2 hk
def EV.is_ (l : List Node) : EV → ByteArray
 | .str s => s
 | .EZ s => s
 | .Gl s _ => s
 | .fn i _ _ => (l.getD i default).s
 | .given s => s
 | _ => bs []
theorem Cs {l : List Node} {vs : List Nat} {m : Nat} {v : EV} {x : AV} (h : IR l vs m v x) : ∃ A B C, x = .obj [.int .i64 v.ik, .int .i64 v.in_, .str (v.is_ l), A, B, C] := by
 cases h <;> exact ⟨_, _, _, rfl⟩
def Aet (l : List Node) (vs : List Nat) (m : Nat) (R : EE × Bool) (r : AV) (hp' : Hp) : Prop := hp' = [] ∧ ∃ y e, r = .tup [y, .bool R.2] ∧ IRE l vs m e y ∧ (R.2 = true → e = R.1)
theorem Kl : ∀ (ks : List Px) (ws : List EV) (e : EE) (j : Nat), (Cn (ks.take j) ws e).2 = false → Cn ks ws e = Cn (ks.take j) ws e
 | [], ws, e, j, h => by simp
 | k :: ks, ws, e, 0, h => by simp [Cn] at h
 | k :: ks, ws, e, j + 1, h => by
  rw [List.take_succ_cons, Cn] at h ⊢
  rw [Cn]
  by_cases h2 : (EL k (ws.headD default) e).2 = true
  ·rw [if_pos h2] at h ⊢
   rw [if_pos h2]
   exact Kl ks _ _ j h
  ·rw [if_neg h2, if_neg h2]
def Aes (l : List Node) (vs : List Nat) (m : Nat) (ks : List Px) (ws : List EV) (e : EE) (p : Nat × AV) : Prop := p.1 ≤ ks.length ∧ IRE l vs m (Cn (ks.take p.1) ws e).1 p.2 ∧ (Cn (ks.take p.1) ws e).2 = true
theorem Q3 {l : List Node} {vs : List Nat} {m : Nat} {ks : List Px} {ws : List EV} {e : EE} {j : Nat} (hj : j < ks.length) (hw : j < ws.length) (hb : (Cn (ks.take j) ws e).2 = true) : Cn (ks.take (j + 1)) ws e = EL ks[j] ws[j] (Cn (ks.take j) ws e).1 := by
 rw [O6 ks ws e j hj, if_pos hb, List.drop_eq_getElem_cons hw]
 simp [List.getD_eq_getElem?_getD, hj, hw]
theorem Aeg {l : List Node} {vs : List Nat} {m : Nat} {a : EV} {x : AV} (h : IR l vs m a x) : ∀ j, j < 1 → ∃ (h1 : j < [a].length) (h2 : j < [x].length), IR l vs m [a][j] [x][j]
 | 0, _ => ⟨by simp, by simp, h⟩
theorem Aef {l : List Node} {vs : List Nat} {m : Nat} {a b : EV} {x y : AV} (h : IR l vs m a x) (h2 : IR l vs m b y) : ∀ j, j < 2 → ∃ (h1 : j < [a, b].length) (h2 : j < [x, y].length), IR l vs m [a, b][j] [x, y][j]
 | 0, _ => ⟨by simp, by simp, h⟩
 | 1, _ => ⟨by simp, by simp, h2⟩
set_option maxHeartbeats 8000000 in
theorem AcA (l : List Node) (vs : List Nat) (m : Nat) : ∀ q : Px, q.rt → ∀ v x e xe, IR l vs m v x → IRE l vs m e xe → Ay Tryz.prog 101 [av q, x, xe] [] (Aet l vs m (EL q v e)) := Px.ind fun h ks ih hq v x e xe hx he => by
 rw [Px.rt] at hq
 obtain ⟨hq, hqs⟩ := hq
 obtain ⟨k, nn, s⟩ := h
 refine Bu.H rfl ?_
 rw [Nx, EL]
 have po := he.one
 have pp := fun hp => he.AR hp
 have xo := hx.one
 have xp := fun hp => hx.AR hp
 have no : ∀ R : EE × Bool, R = (e, false) → Aet l vs m R (.tup [xe, .bool false]) [] := fun R h => by rw [h]; exact ⟨rfl, xe, e, rfl, he, fun h => by cases h⟩
 unfold rtH at hq
 dsimp only at hq
 rcases hq with rfl | rfl | ⟨rfl, rfl, h0⟩ | ⟨rfl, rfl, rfl, h0⟩ | ⟨rfl, rfl, rfl, h2⟩ | ⟨rfl, rfl⟩
 ·simp +contextual -dsimp (maxSteps := 2000000) only [↓SD, SU, simprocAttr, Bu, po, pp]
  refine Af.post [] ?_
  simp +contextual -dsimp (maxSteps := 2000000) only [↓SD, SU, simprocAttr, po, pp]
  exact ⟨rfl, xe, e, rfl, he, fun _ => rfl⟩
 ·simp +contextual -dsimp (maxSteps := 2000000) only [↓SD, SU, simprocAttr, Bu, po, pp, xo, xp]
  refine Af.post [] ?_
  simp +contextual -dsimp (maxSteps := 2000000) only [↓SD, SU, simprocAttr, po, pp, xo, xp]
  exact ⟨rfl, _, _, rfl, .cons m s v e x xe hx he, fun _ => rfl⟩
 ·obtain rfl := List.eq_nil_of_length_eq_zero h0
  by_cases hk : v.ik = 1
  ·obtain ⟨u, rfl⟩ : ∃ u, v = .int u := by cases v <;> first | exact ⟨_, rfl⟩ | (simp [EV.ik] at hk)
   cases hx
   by_cases hu : u = nn
   ·subst hu
    unfold ivA
    simp +contextual -dsimp (maxSteps := 2000000) only [↓SD, SU, simprocAttr, Bu, po, pp]
    refine Al (X := Unit) (fun _ => ⟨[(1, .obj [.int .i64 1, .int .i64 u, .str (bs []), .Ar, .Cx, .Cx]), (2, xe), (83, .sl []), (84, .int .i64 0), (85, .int .i64 0)], []⟩) (fun _ => True) (fun _ => 0) () trivial (by simp +contextual -dsimp only [↓SD, SU, simprocAttr]) (by simp +contextual -dsimp only [↓SD, SU, simprocAttr]) ?_
    intro _ _
    simp +contextual -dsimp (maxSteps := 2000000) only [↓SD, SU, simprocAttr, po, pp]
    refine Af.post [] ?_
    simp +contextual -dsimp (maxSteps := 2000000) only [↓SD, SU, simprocAttr, po, pp]
    exact ⟨rfl, xe, e, by simp [DD, Cn], he, fun _ => by simp [DD, Cn]⟩
   ·have g := eq_false hu
    unfold ivA
    simp +contextual -dsimp (maxSteps := 2000000) only [↓SD, SU, simprocAttr, Bu, po, pp, Aa, g]
    refine Af.post [] ?_
    simp +contextual -dsimp (maxSteps := 2000000) only [↓SD, SU, simprocAttr, po, pp]
    exact no _ (by simp [DD, hu])
  ·skip
   obtain ⟨A, B, C, rfl⟩ := Cs hx
   have g := eq_false hk
   simp +contextual -dsimp (maxSteps := 2000000) only [↓SD, SU, simprocAttr, Bu, po, pp, Aa, g]
   refine Af.post [] ?_
   simp +contextual -dsimp (maxSteps := 2000000) only [↓SD, SU, simprocAttr, po, pp]
   exact no _ (by cases v <;> first | (exact absurd rfl hk) | simp [DD])
 ·obtain rfl := List.eq_nil_of_length_eq_zero h0
  by_cases hk : v.ik = 3
  ·obtain rfl : v = .unit := by cases v <;> first | rfl | (simp [EV.ik] at hk)
   cases hx
   unfold ivA
   simp +contextual -dsimp (maxSteps := 2000000) only [↓SD, SU, simprocAttr, Bu, po, pp]
   refine Al (X := Unit) (fun _ => ⟨[(1, .obj [.int .i64 3, .int .i64 0, .str (bs []), .Ar, .Cx, .Cx]), (2, xe), (83, .sl []), (84, .int .i64 0), (85, .int .i64 0)], []⟩) (fun _ => True) (fun _ => 0) () trivial (by simp +contextual -dsimp only [↓SD, SU, simprocAttr]) (by simp +contextual -dsimp only [↓SD, SU, simprocAttr]) ?_
   intro _ _
   simp +contextual -dsimp (maxSteps := 2000000) only [↓SD, SU, simprocAttr, po, pp]
   refine Af.post [] ?_
   simp +contextual -dsimp (maxSteps := 2000000) only [↓SD, SU, simprocAttr, po, pp]
   exact ⟨rfl, xe, e, by simp [DD, Cn], he, fun _ => by simp [DD, Cn]⟩
  ·skip
   obtain ⟨A, B, C, rfl⟩ := Cs hx
   have g := eq_false hk
   simp +contextual -dsimp (maxSteps := 2000000) only [↓SD, SU, simprocAttr, Bu, po, pp, Aa, g]
   refine Af.post [] ?_
   simp +contextual -dsimp (maxSteps := 2000000) only [↓SD, SU, simprocAttr, po, pp]
   exact no _ (by cases v <;> first | (exact absurd rfl hk) | simp [DD])
 ·by_cases hk : v.ik = 5
  ·obtain ⟨a, b, rfl⟩ : ∃ a b, v = .pair a b := by cases v <;> first | exact ⟨_, _, rfl⟩ | (simp [EV.ik] at hk)
   cases hx with | pair _ _ _ x1 x2 ha hb0 =>
   obtain ⟨ws, xs, hws, hxs, hxl, hI⟩ : ∃ (ws : List EV) (xs : List AV), ws = [a, b] ∧ xs = [x1, x2] ∧ xs.length = ks.length ∧ ∀ j, j < ks.length → ∃ (h1 : j < ws.length) (h2 : j < xs.length), IR l vs m ws[j] xs[j] := ⟨_, _, rfl, rfl, by simp [h2], fun j hj => Aef ha hb0 j (by omega)⟩
   unfold ivA
   rw [← hxs]
   rw [show DD ⟨5, 0, (bs [])⟩ ks.length _ = some ws from (by rw [hws]; simp [DD])]
   dsimp only
   clear hws hxs
   have hz : ((xs.length : Int) = (ks.length : Int)) = True := by simp [hxl]
   simp +contextual -dsimp (maxSteps := 2000000) only [↓SD, SU, simprocAttr, Bu, po, pp, Aa, hz, hxl]
   refine Al (X := Nat × AV) (fun q => ⟨[(1, .obj [.int .i64 5, .int .i64 0, .str (bs []), .sl xs, .Cx, .Cx]), (2, q.2), (83, .sl (ks.map av)), (84, .int .i64 ks.length), (85, .int .i64 q.1)], []⟩) (Aes l vs m ks ws e) (fun q => ks.length - q.1) (0, xe) ⟨Nat.zero_le _, by rw [List.take_zero, Cn]; exact he, by rw [List.take_zero, Cn]⟩ (by simp +contextual -dsimp only [↓SD, SU, simprocAttr, po, pp]) (by simp +contextual -dsimp only [↓SD, SU, simprocAttr]) ?_
   rintro ⟨j, y⟩ ⟨hj, hy, hb⟩
   dsimp only at hj hy hb
   have yo := hy.one
   have yp := fun hp => hy.AR hp
   by_cases hlt : j < ks.length
   ·obtain ⟨hw, hx2, hi⟩ := hI j hlt
    have e2 := getD_map av ks j .top hlt
    have e3 : xs.getD j .top = xs[j] := by simp [List.getD_eq_getElem?_getD, hx2]
    have CU := ih ks[j] (List.getElem_mem hlt) (R8 hqs (List.getElem_mem hlt)) ws[j] xs[j] _ y hi hy
    rw [← Q3 (l := l) (vs := vs) (m := m) hlt hw hb] at CU
    have zo := hi.one
    have zp := fun hp => hi.AR hp
    have zc := hi.cells
    have qo := Sc ks[j]
    have qp := NR ks[j]
    have qc := Lz ks[j]
    generalize ks[j] = q0 at *
    generalize xs[j] = x0 at *
    simp +contextual -dsimp (maxSteps := 2000000) only [↓SD, SU, simprocAttr, Aa, hlt, hxl, e2, e3, yo, yp, zo, zp, zc, qo, qp, qc, Nx]
    refine Ae [] CU (by simp +contextual -dsimp only [↓SD, SU, simprocAttr]) ?_
    rintro r hp' ⟨rfl, y', e', rfl, hy', hres⟩
    have yo' := hy'.one
    have yp' := fun hp => hy'.AR hp
    cases hB : (Cn (ks.take (j + 1)) ws e).2
    ·simp +contextual -dsimp (maxSteps := 2000000) only [↓SD, SU, simprocAttr, hB, yo, yp, yo', yp']
     refine Af.post [] ?_
     simp +contextual -dsimp (maxSteps := 2000000) only [↓SD, SU, simprocAttr, yo, yp]
     rw [Kl ks ws e (j + 1) hB]
     exact ⟨rfl, y, _, by rw [hB], hy, fun h => by rw [hB] at h; cases h⟩
    ·simp +contextual -dsimp (maxSteps := 2000000) only [↓SD, SU, simprocAttr, hB, yo, yp, yo', yp']
     have hq2 := hres hB
     subst hq2
     exact ⟨by omega, Af.le ⟨(j + 1, y'), ⟨⟨hlt, hy', hB⟩, (by first | omega | (simp only; omega))⟩, rfl⟩ (by simp +contextual -dsimp only [↓SD, SU, simprocAttr, Int.natCast_add]) (by simp +contextual -dsimp only [↓SD, SU, simprocAttr])⟩
   ·obtain rfl : j = ks.length := by omega
    rw [List.take_length] at hy hb
    simp +contextual -dsimp (maxSteps := 2000000) only [↓SD, SU, simprocAttr, Nat.lt_irrefl, yo, yp]
    refine Af.post [] ?_
    simp +contextual -dsimp (maxSteps := 2000000) only [↓SD, SU, simprocAttr, yo, yp]
    exact ⟨rfl, y, _, by rw [hb], hy, fun _ => rfl⟩
  ·skip
   obtain ⟨A, B, C, rfl⟩ := Cs hx
   have g := eq_false hk
   simp +contextual -dsimp (maxSteps := 2000000) only [↓SD, SU, simprocAttr, Bu, po, pp, Aa, g]
   refine Af.post [] ?_
   simp +contextual -dsimp (maxSteps := 2000000) only [↓SD, SU, simprocAttr, po, pp]
   exact no _ (by cases v <;> first | (exact absurd rfl hk) | simp [DD])
 ·by_cases hk : v.ik = 4
  ·have hv : (∃ t, v = .EZ t) ∨ (∃ t a, v = .Gl t a) := by cases v <;> first | exact .inl ⟨_, rfl⟩ | exact .inr ⟨_, _, rfl⟩ | (simp [EV.ik] at hk)
   rcases hv with ⟨t, rfl⟩ | ⟨t, a, rfl⟩
   ·cases hx
    by_cases hs : t = s
    ·subst hs
     by_cases h0 : ks.length = 0
     ·obtain rfl := List.eq_nil_of_length_eq_zero h0
      unfold ivA
      simp +contextual -dsimp (maxSteps := 2000000) only [↓SD, SU, simprocAttr, Bu, po, pp]
      refine Al (X := Unit) (fun _ => ⟨[(1, .obj [.int .i64 4, .int .i64 0, .str t, .Ar, .Cx, .Cx]), (2, xe), (83, .sl []), (84, .int .i64 0), (85, .int .i64 0)], []⟩) (fun _ => True) (fun _ => 0) () trivial (by simp +contextual -dsimp only [↓SD, SU, simprocAttr]) (by simp +contextual -dsimp only [↓SD, SU, simprocAttr]) ?_
      intro _ _
      simp +contextual -dsimp (maxSteps := 2000000) only [↓SD, SU, simprocAttr, po, pp]
      refine Af.post [] ?_
      simp +contextual -dsimp (maxSteps := 2000000) only [↓SD, SU, simprocAttr, po, pp]
      exact ⟨rfl, xe, e, by simp [DD, Cn], he, fun _ => by simp [DD, Cn]⟩
     ·have g := eq_false (show ¬ (0 : Int) = (ks.length : Int) by omega)
      unfold ivA
      simp +contextual -dsimp (maxSteps := 2000000) only [↓SD, SU, simprocAttr, Bu, po, pp, Aa, g]
      refine Af.post [] ?_
      simp +contextual -dsimp (maxSteps := 2000000) only [↓SD, SU, simprocAttr, po, pp]
      exact no _ (by simp [DD, show ¬ 0 = ks.length from fun h => h0 h.symm, show ¬ ks = [] from fun h => h0 (by rw [h]; rfl)]; try (intro h; omega))
    ·have g := eq_false hs
     unfold ivA
     simp +contextual -dsimp (maxSteps := 2000000) only [↓SD, SU, simprocAttr, Bu, po, pp, Aa, g]
     refine Af.post [] ?_
     simp +contextual -dsimp (maxSteps := 2000000) only [↓SD, SU, simprocAttr, po, pp]
     exact no _ (by simp [DD, hs])
   ·cases hx with | Gl _ _ _ x1 ha =>
    by_cases hs : t = s
    ·subst hs
     by_cases h2 : ks.length = 1
     ·skip
      obtain ⟨ws, xs, hws, hxs, hxl, hI⟩ : ∃ (ws : List EV) (xs : List AV), ws = [a] ∧ xs = [x1] ∧ xs.length = ks.length ∧ ∀ j, j < ks.length → ∃ (h1 : j < ws.length) (h2 : j < xs.length), IR l vs m ws[j] xs[j] := ⟨_, _, rfl, rfl, by simp [h2], fun j hj => Aeg ha j (by omega)⟩
      unfold ivA
      rw [← hxs]
      rw [show DD ⟨4, 0, t⟩ ks.length _ = some ws from (by rw [hws]; simp [DD, h2])]
      dsimp only
      clear hws hxs
      have hz : ((xs.length : Int) = (ks.length : Int)) = True := by simp [hxl]
      simp +contextual -dsimp (maxSteps := 2000000) only [↓SD, SU, simprocAttr, Bu, po, pp, Aa, hz, hxl]
      refine Al (X := Nat × AV) (fun q => ⟨[(1, .obj [.int .i64 4, .int .i64 0, .str t, .sl xs, .Cx, .Cx]), (2, q.2), (83, .sl (ks.map av)), (84, .int .i64 ks.length), (85, .int .i64 q.1)], []⟩) (Aes l vs m ks ws e) (fun q => ks.length - q.1) (0, xe) ⟨Nat.zero_le _, by rw [List.take_zero, Cn]; exact he, by rw [List.take_zero, Cn]⟩ (by simp +contextual -dsimp only [↓SD, SU, simprocAttr, po, pp]) (by simp +contextual -dsimp only [↓SD, SU, simprocAttr]) ?_
      rintro ⟨j, y⟩ ⟨hj, hy, hb⟩
      dsimp only at hj hy hb
      have yo := hy.one
      have yp := fun hp => hy.AR hp
      by_cases hlt : j < ks.length
      ·obtain ⟨hw, hx2, hi⟩ := hI j hlt
       have e2 := getD_map av ks j .top hlt
       have e3 : xs.getD j .top = xs[j] := by simp [List.getD_eq_getElem?_getD, hx2]
       have CU := ih ks[j] (List.getElem_mem hlt) (R8 hqs (List.getElem_mem hlt)) ws[j] xs[j] _ y hi hy
       rw [← Q3 (l := l) (vs := vs) (m := m) hlt hw hb] at CU
       have zo := hi.one
       have zp := fun hp => hi.AR hp
       have zc := hi.cells
       have qo := Sc ks[j]
       have qp := NR ks[j]
       have qc := Lz ks[j]
       generalize ks[j] = q0 at *
       generalize xs[j] = x0 at *
       simp +contextual -dsimp (maxSteps := 2000000) only [↓SD, SU, simprocAttr, Aa, hlt, hxl, e2, e3, yo, yp, zo, zp, zc, qo, qp, qc, Nx]
       refine Ae [] CU (by simp +contextual -dsimp only [↓SD, SU, simprocAttr]) ?_
       rintro r hp' ⟨rfl, y', e', rfl, hy', hres⟩
       have yo' := hy'.one
       have yp' := fun hp => hy'.AR hp
       cases hB : (Cn (ks.take (j + 1)) ws e).2
       ·simp +contextual -dsimp (maxSteps := 2000000) only [↓SD, SU, simprocAttr, hB, yo, yp, yo', yp']
        refine Af.post [] ?_
        simp +contextual -dsimp (maxSteps := 2000000) only [↓SD, SU, simprocAttr, yo, yp]
        rw [Kl ks ws e (j + 1) hB]
        exact ⟨rfl, y, _, by rw [hB], hy, fun h => by rw [hB] at h; cases h⟩
       ·simp +contextual -dsimp (maxSteps := 2000000) only [↓SD, SU, simprocAttr, hB, yo, yp, yo', yp']
        have hq2 := hres hB
        subst hq2
        exact ⟨by omega, Af.le ⟨(j + 1, y'), ⟨⟨hlt, hy', hB⟩, (by first | omega | (simp only; omega))⟩, rfl⟩ (by simp +contextual -dsimp only [↓SD, SU, simprocAttr, Int.natCast_add]) (by simp +contextual -dsimp only [↓SD, SU, simprocAttr])⟩
      ·obtain rfl : j = ks.length := by omega
       rw [List.take_length] at hy hb
       simp +contextual -dsimp (maxSteps := 2000000) only [↓SD, SU, simprocAttr, Nat.lt_irrefl, yo, yp]
       refine Af.post [] ?_
       simp +contextual -dsimp (maxSteps := 2000000) only [↓SD, SU, simprocAttr, yo, yp]
       exact ⟨rfl, y, _, by rw [hb], hy, fun _ => rfl⟩
     ·have g := eq_false (show ¬ (1 : Int) = (ks.length : Int) by omega)
      unfold ivA
      simp +contextual -dsimp (maxSteps := 2000000) only [↓SD, SU, simprocAttr, Bu, po, pp, Aa, g]
      refine Af.post [] ?_
      simp +contextual -dsimp (maxSteps := 2000000) only [↓SD, SU, simprocAttr, po, pp]
      exact no _ (by simp [DD, h2, show ¬ 1 = ks.length from fun h => h2 h.symm])
    ·have g := eq_false hs
     unfold ivA
     simp +contextual -dsimp (maxSteps := 2000000) only [↓SD, SU, simprocAttr, Bu, po, pp, Aa, g]
     refine Af.post [] ?_
     simp +contextual -dsimp (maxSteps := 2000000) only [↓SD, SU, simprocAttr, po, pp]
     exact no _ (by simp [DD, hs])
  ·skip
   obtain ⟨A, B, C, rfl⟩ := Cs hx
   have g := eq_false hk
   simp +contextual -dsimp (maxSteps := 2000000) only [↓SD, SU, simprocAttr, Bu, po, pp, Aa, g]
   refine Af.post [] ?_
   simp +contextual -dsimp (maxSteps := 2000000) only [↓SD, SU, simprocAttr, po, pp]
   exact no _ (by cases v <;> first | (exact absurd rfl hk) | simp [DD])
end Go.Proofs.YtjbcnilllfaipaaGreat
