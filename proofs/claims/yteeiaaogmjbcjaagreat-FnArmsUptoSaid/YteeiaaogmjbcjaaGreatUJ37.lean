/-
 A PROGRAM TAKEN BY THE REFERENCE, told weakly: Parse. Conditions: none. Printed by gen/reade.py.
-/
import Derived.Test.YteeiaaogmjbcjaaGreatUReadL
import Derived.Test.YteeiaaogmjbcjaaGreatUJ22
set_option linter.unusedVariables false
set_option linter.unusedSimpArgs false
set_option maxRecDepth 100000
namespace Go.Proofs.YteeiaaogmjbcjaaGreat
open Go.RowKit Go.Proofs.YteeiaaogmjbcjaaGreat.Av Go.Proofs.YteeiaaogmjbcjaaGreat.Ml
open Go.Proofs.YteeiaaogmjbcjaaGreat.Av.AVal (av)
open OVal (ov oh on)

def Ab9 (nm m : Nat) (r : AV) (hp' : Hp) : Prop := (∃ c p : Int, r = .tup [.agg [.Au, .Au], .int .i64 c, .int .i64 p] ∧ c ≠ 0 ∧ hp' = []) ∨
 ∃ (TY : List AV) (v : Nat) (F : List AV) (T : Hp), r = .tup [.agg [.sl TY, .row 2102 v F.length], .int .i64 0, .int .i64 0] ∧ hp' = (2102, ⟨v, false, 114, 6, F⟩) :: T ∧ F7 nm T ∧ F.length ≤ 600 ∧ ∀ y ∈ F, Ub m T y
def TyA (y : AV) : Prop := ∃ (x : ByteArray) (n : Int) (l : List Con), y = .agg [.str x, .int .i64 n, .sl (l.map av)] ∧ l.length ≤ 200000
structure PaS where
 s : RS
 tys : List AV
 v : Nat
set_option maxHeartbeats 8000000 in
theorem Ua (nm : Nat) (t : ByteArray) (ht : t.size ≤ 5000) : AH Tryz.prog 86 [.str t] [] (Ab9 nm (t.size + 2)) := by
 refine Jp.H rfl ?_
 simp +contextual -dsimp only [↓SD, SU, simprocAttr, Jp]
 intro v2
 refine Ac [] (Aca t (by omega)) (by simp +contextual -dsimp only [↓SD, SU, simprocAttr]) ?_
 rintro r hp' (⟨c, p, rfl, hc, hp0, rfl⟩ | ⟨l, rfl, hl, hlk, rfl⟩)
 ·have hc0 : ¬ c = 0 := by omega
  simp +contextual -dsimp only [↓SD, SU, simprocAttr, hc0]
  refine Ai.post [] ?_
  simp +contextual -dsimp only [↓SD, SU, simprocAttr]
  exact .inl ⟨c, p, rfl, hc0, rfl⟩
 simp +contextual -dsimp only [↓SD, SU, simprocAttr]
 intro v29
 obtain ⟨C, rfl, rfl, hE, hm⟩ : ∃ C : RC, C.L = l ∧ C.v = v29 ∧ C.E = t.size ∧ C.m = t.size + 2 := ⟨⟨l, t.size, t.size + 2, v29⟩, rfl, rfl, rfl, rfl⟩
 have hCok : C.ok := ⟨by omega, fun x hx => (by obtain ⟨k1, k2, k3, k4, k5⟩ := hlk x hx; exact ⟨k1, k2, by omega, k4, by omega⟩), by omega, by omega, by omega, by omega⟩
 rw [← hm]
 refine BM (Ai.slB 2100 0 5 rfl rfl (by simp [AV.one]) rfl (Ai.EB 2100 0 6 2101 9 1 (b := ⟨C.v, false, 173, 7, [.agg [.sl (C.L.map av), .int .i64 0, .int .i64 t.size, .int .i64 0, .int .i64 0, .sl [], .Au]]⟩) rfl rfl Nat.zero_lt_one rfl (by decide) fun z => Ai.here ?_))
 have hs0 : Bc C ⟨0, 0, 0, [], [], z⟩ := ⟨hCok, Nat.zero_le _, (by show (0 : Int) ≤ 0 ∧ (0 : Int) ≤ 100; decide), ⟨Int.le_refl 0, Int.natCast_nonneg _⟩, Nat.zero_le 2, Nat.le_refl 0, fun x hx => (by cases hx)⟩
 simp +contextual -dsimp only [↓SD, SU, simprocAttr]
 intro v9
 refine Cu (X := PaS) (fun q => ⟨[(2, .ptr 2 v2 0 0), (5, .sl (C.L.map av)), (8, .ptr 2100 C.v 0 0), (9, .ptr 9 v9 0 0)], (9, ⟨v9, false, 111, 2, [.agg [.row 93 q.v q.tys.length, .Au]]⟩) :: (93, ⟨q.v, false, 177, 3, q.tys⟩) :: (2, ⟨v2, false, 111, 2, [.agg [.Au, .Au]]⟩) :: rdB C q.s⟩) (fun q => Bc C q.s ∧ q.tys.length ≤ q.s.i ∧ ∀ y ∈ q.tys, TyA y) (fun q => C.L.length - q.s.i) ?_ ?_
 ·refine Ai.EB 9 0 0 93 177 3 (b := ⟨v9, false, 111, 2, [.agg [.Au, .Au]]⟩) rfl rfl Nat.zero_lt_one rfl (by decide) fun u => ?_
  exact Ai.le ⟨⟨⟨0, 0, 0, [], [], z⟩, [], u⟩, ⟨hs0, Nat.le_refl _, fun y hy => (by cases hy)⟩, rfl⟩ (by simp +contextual -dsimp only [↓SD, SU, simprocAttr]) (by simp +contextual -dsimp only [↓SD, SU, simprocAttr, rdB, hE])
 rintro ⟨s, tys, v93⟩ ⟨hs, htl, hty⟩
 dsimp only at hs htl hty ⊢
 have hsm := hs.small
 have CI := BG C s hs (bs [116, 121, 112, 101])
 by_cases hq : Bv (AX C s) = bs [116, 121, 112, 101]
 ·obtain ⟨j1, j2⟩ := Bm hs (by decide) hq
  have e : (s.i : Int) + 1 = ((s.i + 1 : Nat) : Int) := by omega
  have hs1 := Bl hs j1
  rw [decide_eq_true hq] at CI
  simp +contextual -dsimp only [↓SD, SU, simprocAttr, rdB, Ab, Aa]
  refine Ak [2100, 2101] (CI) (by first | (simp +contextual -dsimp only [↓SD, SU, simprocAttr, rdB]; done) | (simp +contextual -dsimp only [↓SD, SU, simprocAttr, rdB, Ae]; done) | (simp +contextual -dsimp only [↓SD, SU, simprocAttr, rdB, Ae]; done)) ?_
  rintro r hp' ⟨rfl, rfl⟩ H1 hH1
  obtain ⟨⟨a1, b1, o1, u1'⟩, k1⟩ := AP hH1
  have u1 : Unf H1 := u1' (by repeat (first | exact Ad | exact Ad | refine AO ?_))
  simp +contextual -dsimp only [↓SD, SU, simprocAttr, rdB, Ab, Aa, EVB, Ax, Ad, Af, a1, b1, o1, u1, e]
  refine ⟨by omega, ?_⟩
  have CT := UJ C { s with i := s.i + 1 } hs1
  refine ⟨?_, ?_⟩
  all_goals
   refine Ak [2100, 2101] (CT) (by first | (simp +contextual -dsimp only [↓SD, SU, simprocAttr, rdB]; done) | (simp +contextual -dsimp only [↓SD, SU, simprocAttr, rdB, Ae]; done) | (simp +contextual -dsimp only [↓SD, SU, simprocAttr, rdB, a1, b1, o1, e, Ae]; done)) ?_
   rintro r hp' ⟨s2, rfl, hs2, hi2, hc2, x, nv, lc, rfl, hx, hnv, hlc, hcc⟩ H2 hH2
   obtain ⟨⟨a2, b2, o2, u2'⟩, k2⟩ := AP hH2
   have u2 : Unf H2 := u2' (by repeat (first | exact u1 | exact Ad | refine AO ?_))
   dsimp only at hi2 hc2 hlc
   have hsm2 := hs2.small
   have hb2 := hs2.2.1
   simp +contextual -dsimp only [↓SD, SU, simprocAttr, rdB, Ab, Aa, EVB, Ax, Ad, Af, o1, a2, b2, o2, u2, List.take_length]
   refine ⟨⟨by omega, by unfold maxLen; omega⟩, fun u => ?_⟩
   exact Ai.le ⟨⟨s2, tys ++ [.agg [.str x, .int .i64 nv, .sl (lc.map av)]], u⟩, ⟨⟨hs2, by simp; omega, fun y hy => (by
    rcases List.mem_append.1 hy with h | h
    ·exact hty y h
    ·exact ⟨x, nv, lc, List.mem_singleton.1 h, by omega⟩)⟩, by dsimp only; omega⟩, rfl⟩ (by simp +contextual -dsimp only [↓SD, SU, simprocAttr]) (by simp +contextual -dsimp only [↓SD, SU, simprocAttr, rdB, List.take_length, List.length_append, EVB, Ax, Ad, Af, o1, a2, b2, o2])
 rw [decide_eq_false hq] at CI
 simp +contextual -dsimp only [↓SD, SU, simprocAttr, rdB, Ab, Aa]
 refine Ak [2100, 2101] (CI) (by first | (simp +contextual -dsimp only [↓SD, SU, simprocAttr, rdB]; done) | (simp +contextual -dsimp only [↓SD, SU, simprocAttr, rdB, Ae]; done) | (simp +contextual -dsimp only [↓SD, SU, simprocAttr, rdB, Ae]; done)) ?_
 rintro r hp' ⟨rfl, rfl⟩ H21 hH21
 obtain ⟨⟨a21, b21, o21, u21'⟩, k21⟩ := AP hH21
 have u21 : Unf H21 := u21' (by repeat (first | exact Ad | exact Ad | refine AO ?_))
 simp +contextual -dsimp only [↓SD, SU, simprocAttr, rdB, Ab, Aa, EVB, Ax, Ad, Af, a21, b21, o21, u21]
 refine Ak [2100, 2101] (UQ C s hs 0 (by decide) nm) (by first | (simp +contextual -dsimp only [↓SD, SU, simprocAttr, rdB]; done) | (simp +contextual -dsimp only [↓SD, SU, simprocAttr, rdB, Ae]; done) | (simp +contextual -dsimp only [↓SD, SU, simprocAttr, rdB, a21, b21, o21, Ae]; done)) ?_
 rintro X22 hp' ⟨s22, T22, w22, rfl, hs22, hi22, hc22, hX22, hD22⟩ H22 hH22
 have hv22 := hX22.ev
 have hsm22 := hs22.small
 obtain ⟨⟨a22, b22, o22, u22'⟩, t22, k22⟩ := Be hH22 hD22
 have u22 : Unf H22 := u22' (by repeat (first | exact u21 | exact Ad | refine AO ?_))
 simp +contextual -dsimp only [↓SD, SU, simprocAttr, rdB, Ab, Aa, EVB, Ax, Ad, Af, o21, a22, b22, o22, u22, hv22]
 intro v10
 have hDn : F7 nm T22 := hD22
 have hlen : C.L.length ≤ t.size := hl
 by_cases hcd : s22.code = 0
 case' neg =>
  have e0 := eq_false hcd
  simp +contextual -dsimp only [↓SD, SU, simprocAttr, rdB, Ab, Aa, EVB, Ax, Ad, Af, o21, a22, b22, o22, u22, hv22, e0]
  repeat' (refine And.intro ?_ ?_)
  all_goals
   refine Ai.post [] ?_
   simp +contextual -dsimp only [↓SD, SU, simprocAttr, rdB, Ab, Aa]
   exact .inl ⟨_, _, rfl, hcd, rfl⟩
 have e0 := eq_true hcd
 by_cases hil : s22.i < C.L.length
 ·
  have e1 := eq_true hil
  simp +contextual -dsimp only [↓SD, SU, simprocAttr, rdB, Ab, Aa, EVB, Ax, Ad, Af, o21, a22, b22, o22, u22, hv22, e0, e1, Aa]
  refine Ak [2100, 2101] (BX C s22 hs22 7 (by omega)) (by first | (simp +contextual -dsimp only [↓SD, SU, simprocAttr, rdB]; done) | (simp +contextual -dsimp only [↓SD, SU, simprocAttr, rdB, Ae]; done) | (simp +contextual -dsimp only [↓SD, SU, simprocAttr, rdB, o21, a22, b22, o22, hv22, Ae]; done)) ?_
  rintro r hp' ⟨s41, rfl, hs41, hi41, hc41, rfl, _, hf41⟩ H41 hH41
  obtain ⟨⟨a41, b41, o41, u41'⟩, k41⟩ := AP hH41
  have u41 : Unf H41 := u41' (by repeat (first | exact u22 | exact Ad | refine AO ?_))
  have t41_T22 := k41 T22 hD22.far (by repeat (first | exact t22 | refine Ah ?_ hD22.far (by decide)))
  have e41 := eq_false hf41
  simp +contextual -dsimp only [↓SD, SU, simprocAttr, rdB, Ab, Aa, EVB, Ax, Ad, Af, o21, o22, a41, b41, o41, u41, hv22, e41]
  repeat' (refine And.intro ?_ ?_)
  all_goals
   refine Ai.post [] ?_
   simp +contextual -dsimp only [↓SD, SU, simprocAttr, rdB, Ab, Aa]
   exact .inl ⟨_, _, rfl, hf41, rfl⟩
 have e1 := eq_false hil
 simp +contextual -dsimp only [↓SD, SU, simprocAttr, rdB, Ab, Aa, EVB, Ax, Ad, Af, o21, a22, b22, o22, u22, hv22, e0, e1, Aa]
 obtain ⟨g1, g2, g3⟩ := hc22 hcd
 have hb2 := hs22.2.1
 have hsm2 := hs22.small
 have CL := UO C.m T22 w22 X22 hX22 [] .Au [] (.inl ⟨rfl, rfl, rfl⟩) (by simp; omega)
 refine Ak [] CL rfl ?_
 rintro r hp' ⟨v, F, rfl, rfl, hFl, hFn⟩ HA hHA
 rw [Af] at hHA
 subst hFl
 have hTt : Bf H22 T22 := t22
 have hfarT : Ud T22 := hDn.far
 subst hHA
 simp +contextual -dsimp only [↓SD, SU, simprocAttr, rdB, Ab, Aa, List.nil_append, List.length_nil, Nat.zero_add, List.cons_append, EVB, Ax, Ad, Af, o21, a22, b22, o22, hv22]
 by_cases hF : (600 : Int) < F.length
 case' pos =>
  have eF := eq_true hF
  simp +contextual -dsimp only [↓SD, SU, simprocAttr, rdB, Ab, Aa, eF, EVB, Ax, Ad, Af, o21, a22, b22, o22, hv22]
  refine AG (X := Nat × Bool) (fun q => ⟨[(2, .ptr 2 v2 0 0), (9, .ptr 9 v9 0 0), (11, .bool q.2), (93, .row 93 v93 tys.length), (94, .int .i64 tys.length), (95, .int .i64 q.1)], (9, ⟨v9, false, 111, 2, [.agg [.row 93 v93 tys.length, .row 2102 v F.length]]⟩) :: (93, ⟨v93, false, 177, 3, tys⟩) :: (2, ⟨v2, false, 111, 2, [.agg [.Au, .Au]]⟩) :: (2102, ⟨v, false, 114, 6, F⟩) :: T22⟩) (fun q => q.1 ≤ tys.length ∧ (q.2 = false → F.length ≤ 600)) (fun q => tys.length - q.1) (0, true) ⟨Nat.zero_le _, fun h => by cases h⟩ (by simp +contextual -dsimp only [↓SD, SU, simprocAttr]) (by simp +contextual -dsimp only [↓SD, SU, simprocAttr, EVB, Ax, Ad, Af, o21, a22, b22, o22, hv22]; (repeat (first | exact hTt | refine Ah ?_ hfarT (by decide)))) ?_
 case' neg =>
  have eF := eq_false hF
  simp +contextual -dsimp only [↓SD, SU, simprocAttr, rdB, Ab, Aa, eF, EVB, Ax, Ad, Af, o21, a22, b22, o22, hv22]
  refine AG (X := Nat × Bool) (fun q => ⟨[(2, .ptr 2 v2 0 0), (9, .ptr 9 v9 0 0), (11, .bool q.2), (93, .row 93 v93 tys.length), (94, .int .i64 tys.length), (95, .int .i64 q.1)], (9, ⟨v9, false, 111, 2, [.agg [.row 93 v93 tys.length, .row 2102 v F.length]]⟩) :: (93, ⟨v93, false, 177, 3, tys⟩) :: (2, ⟨v2, false, 111, 2, [.agg [.Au, .Au]]⟩) :: (2102, ⟨v, false, 114, 6, F⟩) :: T22⟩) (fun q => q.1 ≤ tys.length ∧ (q.2 = false → F.length ≤ 600)) (fun q => tys.length - q.1) (0, decide ((8 : Int) < tys.length)) ⟨Nat.zero_le _, fun _ => by omega⟩ (by simp +contextual -dsimp only [↓SD, SU, simprocAttr]) (by simp +contextual -dsimp only [↓SD, SU, simprocAttr, EVB, Ax, Ad, Af, o21, a22, b22, o22, hv22]; (repeat (first | exact hTt | refine Ah ?_ hfarT (by decide)))) ?_
 all_goals
  rintro ⟨j, B⟩ ⟨hj, hB⟩
  dsimp only at hj hB ⊢
  by_cases hlt : j < tys.length
  ·obtain ⟨x, nv, lc, hy, hlc⟩ := hty _ (List.getElem_mem hlt)
   have e2 : tys.getD j .top = .agg [.str x, .int .i64 nv, .sl (lc.map av)] := by rw [List.getD_eq_getElem?_getD, List.getElem?_eq_getElem hlt]; exact hy
   simp +contextual -dsimp only [↓SD, SU, simprocAttr, hlt, e2, Aa, Ab, false_and]
   intro v13
   by_cases h8 : (8 : Int) < lc.length
   ·have e8 := eq_true h8
    simp +contextual -dsimp only [↓SD, SU, simprocAttr, e8, Aa, Ab]
    exact ⟨by omega, Ai.le ⟨(j + 1, true), ⟨⟨hlt, fun h => by cases h⟩, (by first | omega | (simp only; omega))⟩, rfl⟩ (by simp +contextual -dsimp only [↓SD, SU, simprocAttr, Int.natCast_add]) (by simp +contextual -dsimp only [↓SD, SU, simprocAttr]; (repeat (first | exact hDn.2.1 | refine Ah ?_ hfarT (by decide))))⟩
   ·have e8 := eq_false h8
    simp +contextual -dsimp only [↓SD, SU, simprocAttr, e8, Aa, Ab]
    exact ⟨by omega, Ai.le ⟨(j + 1, B), ⟨⟨hlt, hB⟩, (by first | omega | (simp only; omega))⟩, rfl⟩ (by simp +contextual -dsimp only [↓SD, SU, simprocAttr, Int.natCast_add]) (by simp +contextual -dsimp only [↓SD, SU, simprocAttr]; (repeat (first | exact hDn.2.1 | refine Ah ?_ hfarT (by decide))))⟩
  ·obtain rfl : j = tys.length := by omega
   cases B with
   | true =>
    simp +contextual -dsimp only [↓SD, SU, simprocAttr, Nat.lt_irrefl]
    refine BM (Ai.here ?_)
    simp +contextual -dsimp only [↓SD, SU, simprocAttr]
    refine Ai.post [] ?_
    simp +contextual -dsimp only [↓SD, SU, simprocAttr]
    exact .inl ⟨10, 0, rfl, by decide, rfl⟩
   | false =>
    simp +contextual -dsimp only [↓SD, SU, simprocAttr, Nat.lt_irrefl]
    refine Ai.frz 93 (Ai.post ((2102, ⟨v, false, 114, 6, F⟩) :: T22) ?_)
    simp +contextual -dsimp only [↓SD, SU, simprocAttr, List.length_map, Nat.le_refl]
    exact ⟨(by repeat (first | exact hDn.2.1 | refine Ah ?_ hfarT (by decide))), .inr ⟨_, v, F, T22, rfl, rfl, hDn, hB rfl, hFn⟩⟩
end Go.Proofs.YteeiaaogmjbcjaaGreat
set_option linter.unusedVariables false
set_option linter.unusedSimpArgs false
set_option maxRecDepth 100000
namespace Go.Proofs.YteeiaaogmjbcjaaGreat
open Go.RowKit Go.Proofs.YteeiaaogmjbcjaaGreat.Av Go.Proofs.YteeiaaogmjbcjaaGreat.Ml
open Go.Proofs.YteeiaaogmjbcjaaGreat.Av.AVal (av)
open OVal (ov oh on)

def AcK (c : List UInt8) (v nm : Nat) (r : AV) (hp' : Hp) : Prop := ∃ i h, Dh c i h ∧ ((r = .agg [.Au, .Au] ∧ hp' = [(2000, Bp c v i h)]) ∨
 ∃ (TY : List AV) (u : Nat) (F : List AV) (T : Hp) (m : Nat), r = .agg [.sl TY, .row 2102 u F.length] ∧ hp' = (2000, Bp c v i h) :: (2102, ⟨u, false, 114, 6, F⟩) :: T ∧ F7 nm T ∧ F.length ≤ 600 ∧ m ≤ 402 ∧ ∀ y ∈ F, Ub m T y)
structure PgS where
 s : ByteArray
 n : Int
 i : Nat
 h : Int
set_option maxHeartbeats 4000000 in
theorem N7 (c : List UInt8) (v i nm : Nat) (h : Int) (hk : Dh c i h) : AH Tryz.prog 54 [.ptr 2000 v 0 0] [(2000, Bp c v i h)] (AcK c v nm) := by
 refine FP.H rfl ?_
 simp +contextual -dsimp only [↓SD, SU, simprocAttr, CFB, FP]
 intro v2
 (refine Ac [2000] (AL c v _ _ hk (12) (by omega)) (by simp +contextual -dsimp only [↓SD, SU, simprocAttr]) ?_; clear hk; rintro r hp' ⟨p, i, h, rfl, hp, hk, rfl⟩)
 obtain ⟨p0, p1⟩ := hp.in (by omega)
 simp +contextual -dsimp only [↓SD, SU, simprocAttr, CFB]
 refine Ac [] (Oa p p0 p1) (by simp +contextual -dsimp only [↓SD, SU, simprocAttr]) ?_
 rintro r hp' ⟨s, rfl, hs, rfl⟩
 simp +contextual -dsimp only [↓SD, SU, simprocAttr, CFB]
 (refine Ac [2000] (AL c v _ _ hk (3) (by omega)) (by simp +contextual -dsimp only [↓SD, SU, simprocAttr]) ?_; clear hk; rintro r hp' ⟨q, i, h, rfl, hq, hk, rfl⟩)
 obtain ⟨q0, q1⟩ := hq.in (by omega)
 simp +contextual -dsimp only [↓SD, SU, simprocAttr, CFB]
 refine AG (X := PgS) (fun x => ⟨[(0, .ptr 2000 v 0 0), (2, .ptr 2 v2 0 0), (3, .str x.s), (4, .int .i64 x.n)], [(2, ⟨v2, false, 111, 2, [.agg [.Au, .Au]]⟩), (2000, Bp c v x.i x.h)]⟩) (fun x => 0 ≤ x.n ∧ x.n ≤ 2 ∧ x.s.size + 13 * x.n.toNat ≤ 400 ∧ Dh c x.i x.h) (fun x => x.n.toNat) ⟨s, q, i, h⟩ (by dsimp only; exact ⟨by omega, by omega, by omega, hk⟩) (by simp +contextual -dsimp only [↓SD, SU, simprocAttr]) (by simp +contextual -dsimp only [↓SD, SU, simprocAttr]) ?_
 clear hk hq q0 q1 hs
 rintro ⟨s, q, i, h⟩ ⟨q0, q1, hs, hk⟩
 dsimp only at q0 q1 hs hk ⊢
 by_cases hlt : 0 < q
 ·simp +contextual -dsimp only [↓SD, SU, simprocAttr, CFB, hlt]
  refine Ac [2000] (US c v _ _ hk s (by omega)) (by simp +contextual -dsimp only [↓SD, SU, simprocAttr]) ?_
  rintro r hp' ⟨s', i', h', rfl, hs', hk', rfl⟩
  simp +contextual -dsimp only [↓SD, SU, simprocAttr, CFB]
  refine Ak [] (Ua nm s' (by omega)) rfl ?_
  rintro r hp' (⟨cd, p, rfl, hc0, rfl⟩ | ⟨TY, u, F, T, rfl, rfl, hD, hF, hFn⟩) H hH
  ·rw [Af] at hH
   subst hH
   have e0 := eq_false hc0
   simp +contextual -dsimp only [↓SD, SU, simprocAttr, CFB, List.nil_append, e0]
   intro v6
   exact ⟨by omega, Ai.le ⟨⟨s, q - 1, i', h'⟩, ⟨⟨by dsimp only; omega, by dsimp only; omega, by dsimp only; omega, hk'⟩, (by first | omega | (simp only; omega))⟩, rfl⟩ (by simp +contextual -dsimp only [↓SD, SU, simprocAttr]) (by simp +contextual -dsimp only [↓SD, SU, simprocAttr])⟩
  ·rw [Af] at hH
   have hTl : ∀ k, k < 10000 → ∀ hp, Aw (T ++ hp) k = Aw hp k := fun k hk hp => BV fun p hp' => by have := hD.far p hp'; omega
   subst hH
   simp +contextual -dsimp only [↓SD, SU, simprocAttr, CFB, List.cons_append, hTl]
   intro v6
   exact ⟨by omega, Ai.le ⟨⟨s', q - 1, i', h'⟩, ⟨⟨by dsimp only; omega, by dsimp only; omega, by dsimp only; omega, hk'⟩, (by first | omega | (simp only; omega))⟩, rfl⟩ (by simp +contextual -dsimp only [↓SD, SU, simprocAttr]) (by simp +contextual -dsimp only [↓SD, SU, simprocAttr, hTl])⟩
 ·simp +contextual -dsimp only [↓SD, SU, simprocAttr, CFB, hlt]
  refine Ak [] (Ua nm s (by omega)) rfl ?_
  rintro r hp' (⟨cd, p, rfl, hc0, rfl⟩ | ⟨TY, u, F, T, rfl, rfl, hD, hF, hFn⟩) H hH
  ·rw [Af] at hH
   subst hH
   simp +contextual -dsimp only [↓SD, SU, simprocAttr, CFB, List.nil_append]
   intro v9
   refine Ai.post [(2000, Bp c v i h)] ?_
   simp +contextual -dsimp only [↓SD, SU, simprocAttr, CFB]
   exact ⟨i, h, hk, .inl ⟨rfl, rfl⟩⟩
  ·rw [Af] at hH
   have hTl : ∀ k, k < 10000 → ∀ hp, Aw (T ++ hp) k = Aw hp k := fun k hk hp => BV fun p hp' => by have := hD.far p hp'; omega
   have hfar := hD.far
   subst hH
   simp +contextual -dsimp only [↓SD, SU, simprocAttr, CFB, List.cons_append, hTl]
   intro v9
   refine Ai.post ((2000, Bp c v i h) :: (2102, ⟨u, false, 114, 6, F⟩) :: T) ?_
   simp +contextual -dsimp only [↓SD, SU, simprocAttr, CFB, hTl]
   refine ⟨?_, i, h, hk, .inr ⟨TY, u, F, T, s.size + 2, rfl, rfl, hD, hF, by omega, hFn⟩⟩
   repeat (first | exact Eu hD.2.1 | refine Ah ?_ hfar (by decide))
end Go.Proofs.YteeiaaogmjbcjaaGreat
