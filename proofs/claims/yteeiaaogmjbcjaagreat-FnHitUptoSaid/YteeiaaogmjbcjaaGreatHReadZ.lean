/-
 A PROGRAM TAKEN BY THE REFERENCE, told weakly: Parse. Conditions: none. Printed by gen/reade.py.
-/
import Derived.Test.YteeiaaogmjbcjaaGreatHReadL
set_option linter.unusedVariables false
set_option linter.unusedSimpArgs false
set_option maxRecDepth 100000
namespace Go.Proofs.YteeiaaogmjbcjaaGreat
open Go.RowKit Go.Proofs.YteeiaaogmjbcjaaGreat.Av Go.Proofs.YteeiaaogmjbcjaaGreat.Ml
open Go.Proofs.YteeiaaogmjbcjaaGreat.Av.AVal (av)
open OVal (ov oh on)

def ParseP (nm m : Nat) (r : AV) (hp' : Hp) : Prop := (∃ c p : Int, r = .tup [.agg [.nils, .nils], .int .i64 c, .int .i64 p] ∧ c ≠ 0 ∧ hp' = []) ∨
 ∃ (TY : List AV) (v : Nat) (F : List AV) (T : Hp), r = .tup [.agg [.sl TY, .row 2102 v F.length], .int .i64 0, .int .i64 0] ∧ hp' = (2102, ⟨v, false, 114, 6, F⟩) :: T ∧ DisT nm T ∧ F.length ≤ 600 ∧ ∀ y ∈ F, NodeA m T y
def TyA (y : AV) : Prop := ∃ (x : ByteArray) (n : Int) (l : List Con), y = .agg [.str x, .int .i64 n, .sl (l.map av)] ∧ l.length ≤ 200000
structure PaS where
 s : RS
 tys : List AV
 v : Nat
set_option maxHeartbeats 8000000 in
theorem Parse_ok (nm : Nat) (t : ByteArray) (ht : t.size ≤ 5000) : CallsH Tryz.prog 86 [.str t] [] (ParseP nm (t.size + 2)) := by
 refine ir_spec_Parse.H rfl ?_
 simp +contextual -dsimp (maxSteps := 2000000) only [↓SD, SU, SB, simprocAttr, ir_spec_Parse]
 intro v2
 refine aCallH_of [] (Lex_ok t (by omega)) (by simp +contextual -dsimp only [↓SD, SU, SB, simprocAttr]) ?_
 rintro r hp' (⟨c, p, rfl, hc, hp0, rfl⟩ | ⟨l, rfl, hl, hlk, rfl⟩)
 ·have hc0 : ¬ c = 0 := by omega
  simp +contextual -dsimp (maxSteps := 2000000) only [↓SD, SU, SB, simprocAttr, hc0]
  refine Goes.post [] ?_
  simp +contextual -dsimp (maxSteps := 2000000) only [↓SD, SU, SB, simprocAttr]
  exact .inl ⟨c, p, rfl, hc0, rfl⟩
 simp +contextual -dsimp (maxSteps := 2000000) only [↓SD, SU, SB, simprocAttr]
 intro v29
 obtain ⟨C, rfl, rfl, hE, hm⟩ : ∃ C : RC, C.L = l ∧ C.v = v29 ∧ C.E = t.size ∧ C.m = t.size + 2 := ⟨⟨l, t.size, t.size + 2, v29⟩, rfl, rfl, rfl, rfl⟩
 have hCok : C.ok := ⟨by omega, fun x hx => (by obtain ⟨k1, k2, k3, k4, k5⟩ := hlk x hx; exact ⟨k1, k2, by omega, k4, by omega⟩), by omega, by omega, by omega, by omega⟩
 rw [← hm]
 refine ghost_of (Goes.slB 2100 0 5 rfl rfl (by simp [AV.one]) rfl (Goes.adoptB 2100 0 6 2101 9 1 (b := ⟨C.v, false, 173, 7, [.agg [.sl (C.L.map av), .int .i64 0, .int .i64 t.size, .int .i64 0, .int .i64 0, .sl [], .nils]]⟩) rfl rfl Nat.zero_lt_one rfl (by decide) fun z => Goes.here ?_))
 have hs0 : RdOk C ⟨0, 0, 0, [], [], z⟩ := ⟨hCok, Nat.zero_le _, (by show (0 : Int) ≤ 0 ∧ (0 : Int) ≤ 100; decide), ⟨Int.le_refl 0, Int.natCast_nonneg _⟩, Nat.zero_le 2, Nat.le_refl 0, fun x hx => (by cases hx)⟩
 simp +contextual -dsimp (maxSteps := 2000000) only [↓SD, SU, SB, simprocAttr]
 intro v9
 refine aLoop_goes (X := PaS) (fun q => ⟨[(2, .ptr 2 v2 0 0), (5, .sl (C.L.map av)), (8, .ptr 2100 C.v 0 0), (9, .ptr 9 v9 0 0)], (9, ⟨v9, false, 111, 2, [.agg [.row 93 q.v q.tys.length, .nils]]⟩) :: (93, ⟨q.v, false, 177, 3, q.tys⟩) :: (2, ⟨v2, false, 111, 2, [.agg [.nils, .nils]]⟩) :: rdB C q.s⟩) (fun q => RdOk C q.s ∧ q.tys.length ≤ q.s.i ∧ ∀ y ∈ q.tys, TyA y) (fun q => C.L.length - q.s.i) ?_ ?_
 ·refine Goes.adoptB 9 0 0 93 177 3 (b := ⟨v9, false, 111, 2, [.agg [.nils, .nils]]⟩) rfl rfl Nat.zero_lt_one rfl (by decide) fun u => ?_
  exact Goes.le ⟨⟨⟨0, 0, 0, [], [], z⟩, [], u⟩, ⟨hs0, Nat.le_refl _, fun y hy => (by cases hy)⟩, rfl⟩ (by simp +contextual -dsimp only [↓SD, SU, SB, simprocAttr]) (by simp +contextual -dsimp only [↓SD, SU, SB, simprocAttr, rdB, hE])
 rintro ⟨s, tys, v93⟩ ⟨hs, htl, hty⟩
 dsimp only at hs htl hty ⊢
 have hsm := hs.small
 have CI := l03Is_ok C s hs (bs [116, 121, 112, 101])
 by_cases hq : signA (tokA C s) = bs [116, 121, 112, 101]
 ·obtain ⟨j1, j2⟩ := sign_at hs (by decide) hq
  have e : (s.i : Int) + 1 = ((s.i + 1 : Nat) : Int) := by omega
  have hs1 := inc_ok hs j1
  rw [decide_eq_true hq] at CI
  simp +contextual -dsimp (maxSteps := 2000000) only [↓SD, SU, SB, simprocAttr, rdB, map_nop, map_len]
  refine aCallH_gen [2100, 2101] (CI) (by first | (simp +contextual -dsimp (maxSteps := 2000000) only [↓SD, SU, SB, simprocAttr, rdB]; done) | (simp +contextual -dsimp (maxSteps := 2000000) only [↓SD, SU, SB, simprocAttr, rdB, av_int]; done) | (simp +contextual -dsimp (maxSteps := 2000000) only [↓SD, SU, SB, simprocAttr, rdB, av_int]; done)) ?_
  rintro r hp' ⟨rfl, rfl⟩ H1 hH1
  obtain ⟨⟨a1, b1, o1, u1'⟩, k1⟩ := rd_step hH1
  have u1 : Unf H1 := u1' (by repeat (first | exact unf_nil | exact unf_nil | refine unf_c ?_))
  simp +contextual -dsimp (maxSteps := 2000000) only [↓SD, SU, SB, simprocAttr, rdB, map_nop, map_len, ev_len, ev_ok, ev_pur, ev_purA, ev_take, ev_agg, ev_setc, ev_elem, unf_e, unf_nil, hrest_no, a1, b1, o1, u1, e]
  refine ⟨by omega, ?_⟩
  have CT := l03Type_ok C { s with i := s.i + 1 } hs1
  refine ⟨?_, ?_⟩
  all_goals
   refine aCallH_gen [2100, 2101] (CT) (by first | (simp +contextual -dsimp (maxSteps := 2000000) only [↓SD, SU, SB, simprocAttr, rdB]; done) | (simp +contextual -dsimp (maxSteps := 2000000) only [↓SD, SU, SB, simprocAttr, rdB, av_int]; done) | (simp +contextual -dsimp (maxSteps := 2000000) only [↓SD, SU, SB, simprocAttr, rdB, a1, b1, o1, e, av_int]; done)) ?_
   rintro r hp' ⟨s2, rfl, hs2, hi2, hc2, x, nv, lc, rfl, hx, hnv, hlc, hcc⟩ H2 hH2
   obtain ⟨⟨a2, b2, o2, u2'⟩, k2⟩ := rd_step hH2
   have u2 : Unf H2 := u2' (by repeat (first | exact u1 | exact unf_nil | refine unf_c ?_))
   dsimp only at hi2 hc2 hlc
   have hsm2 := hs2.small
   have hb2 := hs2.2.1
   simp +contextual -dsimp (maxSteps := 2000000) only [↓SD, SU, SB, simprocAttr, rdB, map_nop, map_len, ev_len, ev_ok, ev_pur, ev_purA, ev_take, ev_agg, ev_setc, ev_elem, unf_e, unf_nil, hrest_no, o1, a2, b2, o2, u2, List.take_length]
   refine ⟨⟨by omega, by unfold maxLen; omega⟩, fun u => ?_⟩
   exact Goes.le ⟨⟨s2, tys ++ [.agg [.str x, .int .i64 nv, .sl (lc.map av)]], u⟩, ⟨⟨hs2, by simp; omega, fun y hy => (by
    rcases List.mem_append.1 hy with h | h
    ·exact hty y h
    ·exact ⟨x, nv, lc, List.mem_singleton.1 h, by omega⟩)⟩, by dsimp only; omega⟩, rfl⟩ (by simp +contextual -dsimp only [↓SD, SU, SB, simprocAttr]) (by simp +contextual -dsimp only [↓SD, SU, SB, simprocAttr, rdB, List.take_length, List.length_append, ev_len, ev_ok, ev_pur, ev_purA, ev_take, ev_agg, ev_setc, ev_elem, unf_e, unf_nil, hrest_no, o1, a2, b2, o2])
 rw [decide_eq_false hq] at CI
 simp +contextual -dsimp (maxSteps := 2000000) only [↓SD, SU, SB, simprocAttr, rdB, map_nop, map_len]
 refine aCallH_gen [2100, 2101] (CI) (by first | (simp +contextual -dsimp (maxSteps := 2000000) only [↓SD, SU, SB, simprocAttr, rdB]; done) | (simp +contextual -dsimp (maxSteps := 2000000) only [↓SD, SU, SB, simprocAttr, rdB, av_int]; done) | (simp +contextual -dsimp (maxSteps := 2000000) only [↓SD, SU, SB, simprocAttr, rdB, av_int]; done)) ?_
 rintro r hp' ⟨rfl, rfl⟩ H21 hH21
 obtain ⟨⟨a21, b21, o21, u21'⟩, k21⟩ := rd_step hH21
 have u21 : Unf H21 := u21' (by repeat (first | exact unf_nil | exact unf_nil | refine unf_c ?_))
 simp +contextual -dsimp (maxSteps := 2000000) only [↓SD, SU, SB, simprocAttr, rdB, map_nop, map_len, ev_len, ev_ok, ev_pur, ev_purA, ev_take, ev_agg, ev_setc, ev_elem, unf_e, unf_nil, hrest_no, a21, b21, o21, u21]
 refine aCallH_gen [2100, 2101] (l03Expr_ok C s hs 0 (by decide) nm) (by first | (simp +contextual -dsimp (maxSteps := 2000000) only [↓SD, SU, SB, simprocAttr, rdB]; done) | (simp +contextual -dsimp (maxSteps := 2000000) only [↓SD, SU, SB, simprocAttr, rdB, av_int]; done) | (simp +contextual -dsimp (maxSteps := 2000000) only [↓SD, SU, SB, simprocAttr, rdB, a21, b21, o21, av_int]; done)) ?_
 rintro X22 hp' ⟨s22, T22, w22, rfl, hs22, hi22, hc22, hX22, hD22⟩ H22 hH22
 have hv22 := hX22.ev
 have hsm22 := hs22.small
 obtain ⟨⟨a22, b22, o22, u22'⟩, t22, k22⟩ := ex_step hH22 hD22
 have u22 : Unf H22 := u22' (by repeat (first | exact u21 | exact unf_nil | refine unf_c ?_))
 simp +contextual -dsimp (maxSteps := 2000000) only [↓SD, SU, SB, simprocAttr, rdB, map_nop, map_len, ev_len, ev_ok, ev_pur, ev_purA, ev_take, ev_agg, ev_setc, ev_elem, unf_e, unf_nil, hrest_no, o21, a22, b22, o22, u22, hv22]
 intro v10
 have hDn : DisT nm T22 := hD22
 have hlen : C.L.length ≤ t.size := hl
 by_cases hcd : s22.code = 0
 case' neg =>
  have e0 := eq_false hcd
  simp +contextual -dsimp (maxSteps := 2000000) only [↓SD, SU, SB, simprocAttr, rdB, map_nop, map_len, ev_len, ev_ok, ev_pur, ev_purA, ev_take, ev_agg, ev_setc, ev_elem, unf_e, unf_nil, hrest_no, o21, a22, b22, o22, u22, hv22, e0]
  repeat' (refine And.intro ?_ ?_)
  all_goals
   refine Goes.post [] ?_
   simp +contextual -dsimp (maxSteps := 2000000) only [↓SD, SU, SB, simprocAttr, rdB, map_nop, map_len]
   exact .inl ⟨_, _, rfl, hcd, rfl⟩
 have e0 := eq_true hcd
 by_cases hil : s22.i < C.L.length
 ·
  have e1 := eq_true hil
  simp +contextual -dsimp (maxSteps := 2000000) only [↓SD, SU, SB, simprocAttr, rdB, map_nop, map_len, ev_len, ev_ok, ev_pur, ev_purA, ev_take, ev_agg, ev_setc, ev_elem, unf_e, unf_nil, hrest_no, o21, a22, b22, o22, u22, hv22, e0, e1, map_len]
  refine aCallH_gen [2100, 2101] (l03Fault_ok C s22 hs22 7 (by omega)) (by first | (simp +contextual -dsimp (maxSteps := 2000000) only [↓SD, SU, SB, simprocAttr, rdB]; done) | (simp +contextual -dsimp (maxSteps := 2000000) only [↓SD, SU, SB, simprocAttr, rdB, av_int]; done) | (simp +contextual -dsimp (maxSteps := 2000000) only [↓SD, SU, SB, simprocAttr, rdB, o21, a22, b22, o22, hv22, av_int]; done)) ?_
  rintro r hp' ⟨s41, rfl, hs41, hi41, hc41, rfl, _, hf41⟩ H41 hH41
  obtain ⟨⟨a41, b41, o41, u41'⟩, k41⟩ := rd_step hH41
  have u41 : Unf H41 := u41' (by repeat (first | exact u22 | exact unf_nil | refine unf_c ?_))
  have t41_T22 := k41 T22 hD22.far (by repeat (first | exact t22 | refine hpLe_lowT ?_ hD22.far (by decide)))
  have e41 := eq_false hf41
  simp +contextual -dsimp (maxSteps := 2000000) only [↓SD, SU, SB, simprocAttr, rdB, map_nop, map_len, ev_len, ev_ok, ev_pur, ev_purA, ev_take, ev_agg, ev_setc, ev_elem, unf_e, unf_nil, hrest_no, o21, o22, a41, b41, o41, u41, hv22, e41]
  repeat' (refine And.intro ?_ ?_)
  all_goals
   refine Goes.post [] ?_
   simp +contextual -dsimp (maxSteps := 2000000) only [↓SD, SU, SB, simprocAttr, rdB, map_nop, map_len]
   exact .inl ⟨_, _, rfl, hf41, rfl⟩
 have e1 := eq_false hil
 simp +contextual -dsimp (maxSteps := 2000000) only [↓SD, SU, SB, simprocAttr, rdB, map_nop, map_len, ev_len, ev_ok, ev_pur, ev_purA, ev_take, ev_agg, ev_setc, ev_elem, unf_e, unf_nil, hrest_no, o21, a22, b22, o22, u22, hv22, e0, e1, map_len]
 obtain ⟨g1, g2, g3⟩ := hc22 hcd
 have hb2 := hs22.2.1
 have hsm2 := hs22.small
 have CL := l03LayA_ok C.m T22 w22 X22 hX22 [] .nils [] (.inl ⟨rfl, rfl, rfl⟩) (by simp; omega)
 refine aCallH_gen [] CL rfl ?_
 rintro r hp' ⟨v, F, rfl, rfl, hFl, hFn⟩ HA hHA
 rw [hrest_no] at hHA
 subst hFl
 have hTt : hpLe H22 T22 := t22
 have hfarT : FarT T22 := hDn.far
 subst hHA
 simp +contextual -dsimp (maxSteps := 2000000) only [↓SD, SU, SB, simprocAttr, rdB, map_nop, map_len, List.nil_append, List.length_nil, Nat.zero_add, List.cons_append, ev_len, ev_ok, ev_pur, ev_purA, ev_take, ev_agg, ev_setc, ev_elem, unf_e, unf_nil, hrest_no, o21, a22, b22, o22, hv22]
 by_cases hF : (600 : Int) < F.length
 case' pos =>
  have eF := eq_true hF
  simp +contextual -dsimp (maxSteps := 2000000) only [↓SD, SU, SB, simprocAttr, rdB, map_nop, map_len, eF, ev_len, ev_ok, ev_pur, ev_purA, ev_take, ev_agg, ev_setc, ev_elem, unf_e, unf_nil, hrest_no, o21, a22, b22, o22, hv22]
  refine aLoop_of (X := Nat × Bool) (fun q => ⟨[(2, .ptr 2 v2 0 0), (9, .ptr 9 v9 0 0), (11, .bool q.2), (93, .row 93 v93 tys.length), (94, .int .i64 tys.length), (95, .int .i64 q.1)], (9, ⟨v9, false, 111, 2, [.agg [.row 93 v93 tys.length, .row 2102 v F.length]]⟩) :: (93, ⟨v93, false, 177, 3, tys⟩) :: (2, ⟨v2, false, 111, 2, [.agg [.nils, .nils]]⟩) :: (2102, ⟨v, false, 114, 6, F⟩) :: T22⟩) (fun q => q.1 ≤ tys.length ∧ (q.2 = false → F.length ≤ 600)) (fun q => tys.length - q.1) (0, true) ⟨Nat.zero_le _, fun h => by cases h⟩ (by simp +contextual -dsimp only [↓SD, SU, SB, simprocAttr]) (by simp +contextual -dsimp only [↓SD, SU, SB, simprocAttr, ev_len, ev_ok, ev_pur, ev_purA, ev_take, ev_agg, ev_setc, ev_elem, unf_e, unf_nil, hrest_no, o21, a22, b22, o22, hv22]; (repeat (first | exact hTt | refine hpLe_lowT ?_ hfarT (by decide)))) ?_
 case' neg =>
  have eF := eq_false hF
  simp +contextual -dsimp (maxSteps := 2000000) only [↓SD, SU, SB, simprocAttr, rdB, map_nop, map_len, eF, ev_len, ev_ok, ev_pur, ev_purA, ev_take, ev_agg, ev_setc, ev_elem, unf_e, unf_nil, hrest_no, o21, a22, b22, o22, hv22]
  refine aLoop_of (X := Nat × Bool) (fun q => ⟨[(2, .ptr 2 v2 0 0), (9, .ptr 9 v9 0 0), (11, .bool q.2), (93, .row 93 v93 tys.length), (94, .int .i64 tys.length), (95, .int .i64 q.1)], (9, ⟨v9, false, 111, 2, [.agg [.row 93 v93 tys.length, .row 2102 v F.length]]⟩) :: (93, ⟨v93, false, 177, 3, tys⟩) :: (2, ⟨v2, false, 111, 2, [.agg [.nils, .nils]]⟩) :: (2102, ⟨v, false, 114, 6, F⟩) :: T22⟩) (fun q => q.1 ≤ tys.length ∧ (q.2 = false → F.length ≤ 600)) (fun q => tys.length - q.1) (0, decide ((8 : Int) < tys.length)) ⟨Nat.zero_le _, fun _ => by omega⟩ (by simp +contextual -dsimp only [↓SD, SU, SB, simprocAttr]) (by simp +contextual -dsimp only [↓SD, SU, SB, simprocAttr, ev_len, ev_ok, ev_pur, ev_purA, ev_take, ev_agg, ev_setc, ev_elem, unf_e, unf_nil, hrest_no, o21, a22, b22, o22, hv22]; (repeat (first | exact hTt | refine hpLe_lowT ?_ hfarT (by decide)))) ?_
 all_goals
  rintro ⟨j, B⟩ ⟨hj, hB⟩
  dsimp only at hj hB ⊢
  by_cases hlt : j < tys.length
  ·obtain ⟨x, nv, lc, hy, hlc⟩ := hty _ (List.getElem_mem hlt)
   have e2 : tys.getD j .top = .agg [.str x, .int .i64 nv, .sl (lc.map av)] := by rw [List.getD_eq_getElem?_getD, List.getElem?_eq_getElem hlt]; exact hy
   simp +contextual -dsimp (maxSteps := 2000000) only [↓SD, SU, SB, simprocAttr, hlt, e2, map_len, map_nop, false_and]
   intro v13
   by_cases h8 : (8 : Int) < lc.length
   ·have e8 := eq_true h8
    simp +contextual -dsimp (maxSteps := 2000000) only [↓SD, SU, SB, simprocAttr, e8, map_len, map_nop]
    exact ⟨by omega, Goes.le ⟨(j + 1, true), ⟨⟨hlt, fun h => by cases h⟩, (by first | omega | (simp only; omega))⟩, rfl⟩ (by simp +contextual -dsimp only [↓SD, SU, SB, simprocAttr, Int.natCast_add]) (by simp +contextual -dsimp only [↓SD, SU, SB, simprocAttr]; (repeat (first | exact hDn.2.1 | refine hpLe_lowT ?_ hfarT (by decide))))⟩
   ·have e8 := eq_false h8
    simp +contextual -dsimp (maxSteps := 2000000) only [↓SD, SU, SB, simprocAttr, e8, map_len, map_nop]
    exact ⟨by omega, Goes.le ⟨(j + 1, B), ⟨⟨hlt, hB⟩, (by first | omega | (simp only; omega))⟩, rfl⟩ (by simp +contextual -dsimp only [↓SD, SU, SB, simprocAttr, Int.natCast_add]) (by simp +contextual -dsimp only [↓SD, SU, SB, simprocAttr]; (repeat (first | exact hDn.2.1 | refine hpLe_lowT ?_ hfarT (by decide))))⟩
  ·obtain rfl : j = tys.length := by omega
   cases B with
   | true =>
    simp +contextual -dsimp (maxSteps := 2000000) only [↓SD, SU, SB, simprocAttr, Nat.lt_irrefl]
    refine ghost_of (Goes.here ?_)
    simp +contextual -dsimp (maxSteps := 2000000) only [↓SD, SU, SB, simprocAttr]
    refine Goes.post [] ?_
    simp +contextual -dsimp (maxSteps := 2000000) only [↓SD, SU, SB, simprocAttr]
    exact .inl ⟨10, 0, rfl, by decide, rfl⟩
   | false =>
    simp +contextual -dsimp (maxSteps := 2000000) only [↓SD, SU, SB, simprocAttr, Nat.lt_irrefl]
    refine Goes.frz 93 (Goes.post ((2102, ⟨v, false, 114, 6, F⟩) :: T22) ?_)
    simp +contextual -dsimp (maxSteps := 2000000) only [↓SD, SU, SB, simprocAttr, List.length_map, Nat.le_refl]
    exact ⟨(by repeat (first | exact hDn.2.1 | refine hpLe_lowT ?_ hfarT (by decide))), .inr ⟨_, v, F, T22, rfl, rfl, hDn, hB rfl, hFn⟩⟩
end Go.Proofs.YteeiaaogmjbcjaaGreat
