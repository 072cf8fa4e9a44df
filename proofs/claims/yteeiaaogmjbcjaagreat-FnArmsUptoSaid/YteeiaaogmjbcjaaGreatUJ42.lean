/-
 TESTS AND ROWS of the program's planter, as abstract values; what is asked of a test; paths. Conditions: none.
-/
import Derived.Test.YteeiaaogmjbcjaaGreatUJ19
import Derived.Test.YteeiaaogmjbcjaaGreatUJ09
import Derived.Test.YteeiaaogmjbcjaaGreatUJ25
import Derived.Test.YteeiaaogmjbcjaaGreatUJ41
set_option linter.unusedVariables false
set_option linter.unusedSimpArgs false
set_option maxRecDepth 100000
namespace Go.Proofs.YteeiaaogmjbcjaaGreat
open Go.RowKit Go.Proofs.YteeiaaogmjbcjaaGreat.Av Go.Proofs.YteeiaaogmjbcjaaGreat.Ml
open Go.Proofs.YteeiaaogmjbcjaaGreat.Av.AVal (av)

instance : AVal Tst := ⟨fun x => .agg [.int .i64 0, .sl (x.path.map av), .int .i64 x.kind, .int .i64 x.n, .str x.s, .bool x.has, .int .i64 0, .int .i64 0], 8, fun _ => rfl, fun _ => rfl, fun x y hy => by
 simp only [AV.cells, List.mem_cons, List.not_mem_nil, or_false] at hy
 rcases hy with rfl | rfl | rfl | rfl | rfl | rfl | rfl | rfl <;> first | exact Ap.int _ _ | exact Ap.str _ | exact Ap.bool _ | exact AD x.path, fun _ _ => rfl, fun x y hy => by
 simp only [AV.cells, List.mem_cons, List.not_mem_nil, or_false] at hy
 rcases hy with rfl | rfl | rfl | rfl | rfl | rfl | rfl | rfl <;> rfl⟩
theorem Ey (x : Tst) : av x = .agg [.int .i64 0, .sl (x.path.map av), .int .i64 x.kind, .int .i64 x.n, .str x.s, .bool x.has, .int .i64 0, .int .i64 0] := eqq rfl
instance : AVal BI := ⟨fun x => .agg [.sl (x.AA.map av), .int .i64 x.arm], 2, fun _ => rfl, fun _ => rfl, fun x y hy => by
 simp only [AV.cells, List.mem_cons, List.not_mem_nil, or_false] at hy
 rcases hy with rfl | rfl <;> first | exact Ap.int _ _ | exact AD x.AA, fun _ _ => rfl, fun x y hy => by
 simp only [AV.cells, List.mem_cons, List.not_mem_nil, or_false] at hy
 rcases hy with rfl | rfl <;> rfl⟩
theorem Ez (x : BI) : av x = .agg [.sl (x.AA.map av), .int .i64 x.arm] := eqq rfl
theorem Yc (q : Px) : AJ Tryz.prog 71 [av q] (.bool (decide (q.hd.kind = 1) || decide (q.hd.kind = 2))) := by
 refine FY.F rfl (by simp; exact AVal.clean q) (Ap.bool _) ?_
 rw [AcF]
 by_cases h1 : q.hd.kind = 1
 ·simp +contextual -dsimp only [↓SD, SU, simprocAttr, FY, h1]
 ·simp +contextual -dsimp only [↓SD, SU, simprocAttr, FY, h1]
theorem J0 {a b : List Int} {k : Nat} (ha : k < a.length) (hb : k < b.length) (h : a.take k = b.take k) (e : a[k] = b[k]) : a.take (k + 1) = b.take (k + 1) := by
 rw [List.take_succ_eq_append_getElem ha, List.take_succ_eq_append_getElem hb, h, e]
theorem Ue (a b : List Int) (ha : a.length ≤ 1099511627776) : AJ Tryz.prog 95 [.sl (a.map av), .sl (b.map av)] (.bool (decide (a = b))) := by
 refine C9.F rfl (by simp; exact ⟨AD a, AD b⟩) (Ap.bool _) ?_
 by_cases hl : a.length = b.length
 case neg =>
  have hne : ¬ a = b := fun h => hl (by rw [h])
  have hli : ¬ (a.length : Int) = b.length := by omega
  simp +contextual -dsimp only [↓SD, SU, simprocAttr, C9, Aa, hl, hli, hne]
 have hli : (a.length : Int) = b.length := by omega
 simp +contextual -dsimp only [↓SD, SU, simprocAttr, C9, Aa, hli]
 refine AG (X := Nat) (fun k => ⟨[(0, .sl (a.map av)), (1, .sl (b.map av)), (12, .int .i64 b.length), (13, .int .i64 k)], []⟩) (fun k => k ≤ b.length ∧ a.take k = b.take k) (fun k => b.length - k) 0 ⟨Nat.zero_le _, rfl⟩ (by simp +contextual -dsimp only [↓SD, SU, simprocAttr]) trivial ?_
 rintro k ⟨hk, hp⟩
 by_cases hlt : k < b.length
 ·have hlta : k < a.length := by omega
  have e1 := getD_map av a k .top hlta
  have e2 := getD_map av b k .top hlt
  rw [Ae] at e1 e2
  by_cases he : a[k] = b[k]
  ·have hst := J0 hlta hlt hp he
   rw [he] at e1
   simp +contextual -dsimp only [↓SD, SU, simprocAttr, hlt, hlta, e1, e2, Aa]
   refine ⟨by omega, Ai.le ⟨k + 1, ⟨⟨hlt, hst⟩, (by first | omega | (simp only; omega))⟩, rfl⟩ (by simp +contextual -dsimp only [↓SD, SU, simprocAttr, Int.natCast_add]) trivial⟩
  ·have hne : ¬ a = b := fun h => he (by subst h; rfl)
   simp +contextual -dsimp only [↓SD, SU, simprocAttr, hlt, hlta, e1, e2, he, hne, Aa]
 ·obtain rfl : k = b.length := by omega
  have hab : a = b := by
   rw [List.take_of_length_le (by omega), List.take_of_length_le (by omega)] at hp
   exact hp
  simp +contextual -dsimp only [↓SD, SU, simprocAttr, Nat.lt_irrefl, hab]
theorem Lo (x t : Tst) (hx : x.path.length ≤ 1099511627776) : AJ Tryz.prog 74 [av x, av t] (.bool (Cf x t)) := by
 refine GR.F rfl (by simp; exact ⟨AVal.clean x, AVal.clean t⟩) (Ap.bool _) ?_
 simp +contextual -dsimp only [↓SD, SU, simprocAttr, GR, Ey]
 refine Ag _ (Ue x.path t.path hx) ?_
 simp +contextual -dsimp only [↓SD, SU, simprocAttr]
 rfl
theorem Rw (x t : Tst) (hx : x.path.length ≤ 1099511627776) : AJ Tryz.prog 73 [av x, av t] (.bool (CV t x)) := by
 have C := Lo x t hx
 refine EO.F rfl (by simp; exact ⟨AVal.clean x, AVal.clean t⟩) (Ap.bool _) ?_
 unfold CV Eb
 rw [Ey, Ey] at C
 cases hp : Cf x t
 ·rw [hp] at C
  simp +contextual -dsimp only [↓SD, SU, simprocAttr, EO, Ey]
  refine Ag _ C ?_
  simp +contextual -dsimp only [↓SD, SU, simprocAttr]
 rw [hp] at C
 simp +contextual -dsimp only [↓SD, SU, simprocAttr, EO, Ey]
 refine Ag _ C ?_
 by_cases h1 : x.kind = t.kind
 case neg => simp +contextual -dsimp only [↓SD, SU, simprocAttr, h1]
 by_cases h2 : x.n = t.n
 case neg => simp +contextual -dsimp only [↓SD, SU, simprocAttr, h1, h2]
 by_cases h3 : x.s = t.s
 case neg => simp +contextual -dsimp only [↓SD, SU, simprocAttr, h1, h2, h3]
 simp +contextual -dsimp only [↓SD, SU, simprocAttr, h1, h2, h3]
def Acb (l : List Int) (r : AV) (hp' : Hp) : Prop := (l = [] ∧ r = .Au ∧ hp' = []) ∨ ∃ v, r = .row 5 v l.length ∧ hp' = [(5, ⟨v, false, 3, 1, l.map av⟩)]
theorem Q0 (l : List Int) (hl : l.length ≤ 1048576) : AH Tryz.prog 75 [.sl (l.map av)] [] (Acb l) := by
 refine Eh.H rfl ?_
 simp +contextual -dsimp only [↓SD, SU, simprocAttr, Eh, Aa]
 refine ⟨fun h => ?_, fun v => ⟨⟨?_, by omega, by unfold maxLen; omega⟩, fun u => ?_⟩⟩
 ·refine Ai.post [] ?_
  simp +contextual -dsimp only [↓SD, SU, simprocAttr]
  exact .inl ⟨by simpa using h, rfl, rfl⟩
 ·rintro y hy
  rw [Ab] at hy
  obtain ⟨x, _, rfl⟩ := List.mem_map.1 hy
  exact AVal.len x
 ·rw [Ab]
  refine Ai.post [(5, ⟨u, false, 3, 1, l.map av⟩)] ?_
  simp +contextual -dsimp only [↓SD, SU, simprocAttr, Ab, Aa]
  exact .inr ⟨u, rfl, rfl⟩
def AbJ (r : AV) (hp' : Hp) : Prop := ∃ v E, r = .row 22 v 0 ∧ hp' = [(22, ⟨v, false, 3, 1, E⟩)]
theorem Vp (n : Int) (h0 : 0 < n) (h1 : n ≤ 1048576) : AH Tryz.prog 94 [.Au, .int .i64 n] [] AbJ := by
 refine Es.H rfl ?_
 have hn : ¬ n < 0 := by omega
 have hz : n - 0 = n := by omega
 simp +contextual -dsimp only [↓SD, SU, simprocAttr, Es, hn, h0, hz, Int.sub_zero]
 (repeat' (first | intro _ | refine And.intro ?_ ?_))
 all_goals first | omega | skip
 rename_i v
 refine Ai.post [(22, ⟨v, false, 3, 1, List.replicate n.toNat (.int .i64 0)⟩)] ?_
 simp +contextual -dsimp only [↓SD, SU, simprocAttr]
 exact ⟨v, _, rfl, rfl⟩
def AcS (l : List Int) (r : AV) (hp' : Hp) : Prop := r = .sl (l.map av)
structure CcS where
 k : Nat
 u : Nat
 n : Nat
 E : List AV
def CcI (p : List Int) (i : Int) (x : CcS) : Prop := (x.k = 0 ∧ x.n = 0) ∨ (x.k = 1 ∧ x.n = p.length ∧ x.E = p.map av) ∨ (x.k = 2 ∧ x.n = p.length + 1 ∧ x.E = (p ++ [i]).map av)
def CcJ (p : List Int) (x : Nat × Int) : Prop := (x.1 = 0 ∧ x.2 = 0) ∨ (x.1 = 1 ∧ x.2 = p.length) ∨ (x.1 = 2 ∧ x.2 = (p.length : Int) + 1)
theorem Vs (p : List Int) (i : Int) (hl : p.length ≤ 1048000) : AH Tryz.prog 72 [.sl [.sl (p.map av), .sl [.int .i64 i]]] [] (AcS (p ++ [i])) := by
 refine D1.H rfl ?_
 have CG := Vp ((p.length : Int) + 1) (by omega) (by omega)
 simp +contextual -dsimp only [↓SD, SU, simprocAttr, D1]
 refine AG (X := Nat × Int) (fun x => ⟨[(0, .sl [.sl (p.map av), .sl [.int .i64 i]]), (3, .int .i64 x.2), (9, .sl [.sl (p.map av), .sl [.int .i64 i]]), (10, .int .i64 2), (11, .int .i64 x.1)], []⟩) (CcJ p) (fun x => 2 - x.1) (0, 0) (.inl ⟨rfl, rfl⟩) (by simp +contextual -dsimp only [↓SD, SU, simprocAttr]) trivial ?_
 rintro ⟨k, z⟩ (⟨rfl, rfl⟩ | ⟨rfl, rfl⟩ | ⟨rfl, rfl⟩)
 ·simp +contextual -dsimp only [↓SD, SU, simprocAttr, Aa]
  have hg : ¬ (p.length : Int) < 0 := by omega
  simp +contextual -dsimp only [↓SD, SU, simprocAttr, hg, Int.zero_add]
  (repeat' (first | intro _ | refine And.intro ?_ ?_))
  all_goals first | omega | skip
  exact Ai.le ⟨(1, (p.length : Int)), ⟨.inr (.inl ⟨rfl, rfl⟩), by simp only; omega⟩, rfl⟩ (by simp +contextual -dsimp only [↓SD, SU, simprocAttr, Int.zero_add]) trivial
 ·have hg : ¬ (p.length : Int) + 1 < 0 := by omega
  simp +contextual -dsimp only [↓SD, SU, simprocAttr, Aa, hg]
  (repeat' (first | intro _ | refine And.intro ?_ ?_))
  all_goals first | omega | skip
  exact Ai.le ⟨(2, (p.length : Int) + 1), ⟨.inr (.inr ⟨rfl, rfl⟩), by simp only; omega⟩, rfl⟩ (by simp +contextual -dsimp only [↓SD, SU, simprocAttr, Int.reduceAdd]) trivial
 simp +contextual -dsimp only [↓SD, SU, simprocAttr]
 refine Ac [] CG (by simp +contextual -dsimp only [↓SD, SU, simprocAttr]) ?_
 rintro r hp' ⟨v, E, rfl, rfl⟩
 simp +contextual -dsimp only [↓SD, SU, simprocAttr]
 refine AG (X := CcS) (fun x => ⟨[(6, .row 22 x.u x.n), (25, .sl [.sl (p.map av), .sl [.int .i64 i]]), (26, .int .i64 2), (27, .int .i64 x.k)], [(22, ⟨x.u, false, 3, 1, x.E⟩)]⟩) (CcI p i) (fun x => 2 - x.k) ⟨0, v, 0, E⟩ (.inl ⟨rfl, rfl⟩) (by simp +contextual -dsimp only [↓SD, SU, simprocAttr]) (by simp +contextual -dsimp only [↓SD, SU, simprocAttr]) ?_
 rintro ⟨k, u, n, E⟩ (⟨rfl, rfl⟩ | ⟨rfl, rfl, rfl⟩ | ⟨rfl, rfl, rfl⟩)
 ·simp +contextual -dsimp only [↓SD, SU, simprocAttr, Aa, Ab]
  refine ⟨⟨fun y hy => (by obtain ⟨x, _, rfl⟩ := List.mem_map.1 hy; exact AVal.len x), by omega, by unfold maxLen; omega⟩, fun w => ?_⟩
  exact Ai.le ⟨⟨1, w, p.length, p.map av⟩, ⟨.inr (.inl ⟨rfl, rfl, rfl⟩), by simp only; omega⟩, rfl⟩ (by simp +contextual -dsimp only [↓SD, SU, simprocAttr, Int.zero_add]) (by simp +contextual -dsimp only [↓SD, SU, simprocAttr])
 ·have ht : List.take p.length (p.map (av : Int → AV)) = p.map av := List.take_of_length_le (by simp)
  simp +contextual -dsimp only [↓SD, SU, simprocAttr, Aa, Ab, ht]
  refine ⟨⟨by omega, by unfold maxLen; omega⟩, fun w => ?_⟩
  exact Ai.le ⟨⟨2, w, p.length + 1, (p ++ [i]).map av⟩, ⟨.inr (.inr ⟨rfl, rfl, rfl⟩), by simp only; omega⟩, rfl⟩ (by simp +contextual -dsimp only [↓SD, SU, simprocAttr, Int.reduceAdd]) (by simp +contextual -dsimp only [↓SD, SU, simprocAttr, List.map_append, Ae])
 ·simp +contextual -dsimp only [↓SD, SU, simprocAttr]
  have hln : ((p ++ [i]).map (av : Int → AV)).length = p.length + 1 := by simp
  have ht : List.take (p.length + 1) ((p ++ [i]).map (av : Int → AV)) = (p ++ [i]).map av := List.take_of_length_le (by simp)
  refine Ai.post [] ?_
  simp +contextual -dsimp only [↓SD, SU, simprocAttr, Ab, hln, ht, Nat.le_refl]
  rfl
theorem YD (p : List Int) (i : Int) (hl : p.length ≤ 1048000) : AJ Tryz.prog 72 [.sl [.sl (p.map av), .sl [.int .i64 i]]] (.sl ((p ++ [i]).map av)) := by
 refine Ti (Vs p i hl) (by
  simp only [List.mem_singleton, forall_eq]
  refine Ap.sl fun e he x hx => ?_
  simp only [List.mem_cons, List.not_mem_nil, or_false] at he
  rcases he with rfl | rfl
  ·simp only [AV.cells, List.mem_singleton] at hx; subst hx; exact AD p
  ·simp only [AV.cells, List.mem_singleton] at hx; subst hx
   exact AD [i]) (AD _) ?_
 exact fun r hp' h => .inl h
end Go.Proofs.YteeiaaogmjbcjaaGreat
set_option linter.unusedVariables false
set_option linter.unusedSimpArgs false
set_option maxRecDepth 100000
namespace Go.Proofs.YteeiaaogmjbcjaaGreat
open Go.RowKit Go.Proofs.YteeiaaogmjbcjaaGreat.Av Go.Proofs.YteeiaaogmjbcjaaGreat.Ml
open Go.Proofs.YteeiaaogmjbcjaaGreat.Av.AVal (av)

structure TeS where
 j : Nat
 u : Nat
theorem Un : ∀ (q : Px) (p : List Int), pxN q + p.length ≤ 1048000 → AJ Tryz.prog 41 [av q, .sl (p.map av)] (.sl ((Bu q p).map av)) := by
 refine Px.ind fun n ks ih p hb => ?_
 have CW := Yc (.mk n ks)
 rw [Jy] at CW
 by_cases hw : n.kind = 1 ∨ n.kind = 2
 ·have ht : Bu (.mk n ks) p = [] := by rw [Bu, if_pos hw]
  rw [ht]
  refine U7 ?_
  have hwb : (decide ((Px.mk n ks).hd.kind = 1) || decide ((Px.mk n ks).hd.kind = 2)) = true := by rw [Bool.or_eq_true, decide_eq_true_eq, decide_eq_true_eq]; exact hw
  rw [hwb] at CW
  refine Dn.F rfl (by simp; exact ⟨AVal.clean _, AD p⟩) Ap.Au ?_
  simp +contextual -dsimp only [↓SD, SU, simprocAttr, Dn, Jy]
  refine Ag _ CW ?_
  simp +contextual -dsimp only [↓SD, SU, simprocAttr]
 have ht : Bu (.mk n ks) p = ⟨p, n.kind, n.n, n.s, decide (n.kind = 4) && decide (0 < ks.length)⟩ :: AR ks p 0 := by rw [Bu, if_neg hw]
 have hwb : (decide ((Px.mk n ks).hd.kind = 1) || decide ((Px.mk n ks).hd.kind = 2)) = false := by rw [Bool.or_eq_false_iff, decide_eq_false_iff_not, decide_eq_false_iff_not]; exact ⟨fun h => hw (.inl h), fun h => hw (.inr h)⟩
 rw [hwb] at CW
 rw [ht]
 have hkl := J6 ks
 rw [pxN] at hb
 have hlen := fun j => HX (ks := ks.take j) (fun k _ p => FG k p) p 0
 refine Dn.F rfl (by simp; exact ⟨AVal.clean _, AD p⟩) (AD _) ?_
 have hcase : (n.kind = 4 ∧ (0 < ks.length ∨ ks.length = 0)) ∨ (¬ n.kind = 4 ∧ True) := by
  by_cases h4 : n.kind = 4
  ·exact .inl ⟨h4, by omega⟩
  ·exact .inr ⟨h4, trivial⟩
 obtain ⟨hs, hhs⟩ : ∃ hs, hs = (decide (n.kind = 4) && decide (0 < ks.length)) := ⟨_, rfl⟩
 rw [← hhs]
 obtain ⟨t0, ht0⟩ : ∃ t0 : Tst, t0 = ⟨p, n.kind, n.n, n.s, hs⟩ := ⟨_, rfl⟩
 have hav : av t0 = .agg [.int .i64 0, .sl (p.map av), .int .i64 n.kind, .int .i64 n.n, .str n.s, .bool hs, .int .i64 0, .int .i64 0] := by rw [ht0, Ey]
 rw [← ht0]
 rcases hcase with ⟨h4, h0⟩ | ⟨h4, -⟩
 case' inl =>
  have hsz : hs = decide (0 < ks.length) := by rw [hhs]; simp [h4]
  have hdi : decide ((0 : Int) < (ks.length : Int)) = hs := by rw [hsz]; simp
  simp +contextual -dsimp only [↓SD, SU, simprocAttr, Dn, Jy]
  refine Ag _ CW ?_
  simp +contextual -dsimp only [↓SD, SU, simprocAttr, Aa, h4]
  have F1 := h4
  have F2 := hdi
 case' inr =>
  have hsz : hs = false := by rw [hhs]; simp [h4]
  simp +contextual -dsimp only [↓SD, SU, simprocAttr, Dn, Jy]
  refine Ag _ CW ?_
  simp +contextual -dsimp only [↓SD, SU, simprocAttr, Aa, h4]
  have F1 := hsz
  have F2 := hsz
 all_goals
  intro v
  refine AG (X := TeS) (fun q => ⟨[(1, .sl (p.map av)), (5, .row 37 q.u (1 + (AR (ks.take q.j) p 0).length)), (41, .sl (ks.map av)), (42, .int .i64 ks.length), (43, .int .i64 q.j)], [(37, ⟨q.u, false, 98, 8, av t0 :: (AR (ks.take q.j) p 0).map av⟩)]⟩) (fun q => q.j ≤ ks.length) (fun q => ks.length - q.j) ⟨0, v⟩ (Nat.zero_le _) (by simp +contextual -dsimp only [↓SD, SU, simprocAttr, List.take_zero, AR]) (by simp +contextual -dsimp only [↓SD, SU, simprocAttr, List.take_zero, AR, hav, F1, F2]) ?_
  clear F1 F2
  rintro ⟨j, u⟩ hj
  dsimp only at hj ⊢
  by_cases hlt : j < ks.length
  ·have e1 := getD_map av ks j .top hlt
   have b2 := GH ks j hlt
   have hst : AR (ks.take (j + 1)) p 0 = AR (ks.take j) p 0 ++ Bu ks[j] (p ++ [(j : Int)]) := by
    have hjl : (ks.take j).length = j := by simp; omega
    rw [List.take_succ_eq_append_getElem hlt, G8, hjl, Nat.zero_add]
   have l1 := hlen j
   have l2 := FG ks[j] (p ++ [(j : Int)])
   have CC := YD p j (by omega)
   have CT := ih ks[j] (List.getElem_mem hlt) (p ++ [(j : Int)]) (by simp only [List.length_append, List.length_cons, List.length_nil]; omega)
   generalize Bu ks[j] (p ++ [(j : Int)]) = Y at *
   generalize AR (ks.take j) p 0 = X at *
   generalize hq : ks[j] = kq at *
   have hXl : (av t0 :: X.map av).length = 1 + X.length := by simp; omega
   have hXt : List.take (1 + X.length) (av t0 :: X.map av) = av t0 :: X.map av := List.take_of_length_le (by simp; omega)
   have hXc : ∀ Z : List AV, (av t0 :: X.map (av : Tst → AV)) ++ Z = av t0 :: (X.map av ++ Z) := fun _ => rfl
   obtain ⟨W, hW⟩ : ∃ W, W = av t0 :: X.map (av : Tst → AV) := ⟨_, rfl⟩
   rw [← hW] at hXl hXt hXc ⊢
   simp +contextual -dsimp only [↓SD, SU, simprocAttr, hlt, e1, RA, Y5, VU, L7, Y6, Abz, Aa, Ab]
   refine Ag _ CC ?_
   simp +contextual -dsimp only [↓SD, SU, simprocAttr, L7, Ab]
   refine Ag _ CT ?_
   simp +contextual -dsimp only [↓SD, SU, simprocAttr, hXl, hXt, Ab, Aa]
   refine ⟨⟨fun y hy => (by obtain ⟨x, _, rfl⟩ := List.mem_map.1 hy; exact AVal.len x), by omega, by unfold maxLen; omega⟩, fun w => ⟨by omega, Ai.le ⟨⟨j + 1, w⟩, ⟨hlt, (by first | omega | (simp only; omega))⟩, rfl⟩ (by simp +contextual -dsimp only [↓SD, SU, simprocAttr, Int.natCast_add, hst, List.length_append, Nat.add_assoc]) (by simp +contextual -dsimp only [↓SD, SU, simprocAttr, hst, List.map_append, hXc])⟩⟩
  ·obtain rfl : j = ks.length := by omega
   rw [List.take_length]
   have hXl : (av t0 :: (AR ks p 0).map (av : Tst → AV)).length = 1 + (AR ks p 0).length := by simp; omega
   have hfin : (t0 :: AR ks p 0).map (av : Tst → AV) = av t0 :: (AR ks p 0).map av := rfl
   rw [← hfin] at hXl ⊢
   generalize t0 :: AR ks p 0 = Z at *
   have hZt : List.take (1 + (AR ks p 0).length) (Z.map (av : Tst → AV)) = Z.map av := List.take_of_length_le (by omega)
   simp +contextual -dsimp only [↓SD, SU, simprocAttr, Nat.lt_irrefl, Ab, hXl, hZt, Nat.le_refl]
end Go.Proofs.YteeiaaogmjbcjaaGreat
