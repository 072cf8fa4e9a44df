/-
 A PROGRAM THAT PARSES, DRAWN: l03Program. Conditions: none.
-/
import Derived.Test.YteeiaaogmjbcjaaGreatHReadZ
import Derived.Test.YteeiaaogmjbcjaaGreatHJ22
set_option linter.unusedVariables false
set_option linter.unusedSimpArgs false
set_option maxRecDepth 100000
namespace Go.Proofs.YteeiaaogmjbcjaaGreat
open Go.RowKit Go.Proofs.YteeiaaogmjbcjaaGreat.Av Go.Proofs.YteeiaaogmjbcjaaGreat.Ml
open Go.Proofs.YteeiaaogmjbcjaaGreat.Av.AVal (av)
open OVal (ov oh on)

def ProgP (c : List UInt8) (v nm : Nat) (r : AV) (hp' : Hp) : Prop := ∃ i h, CurOk c i h ∧ ((r = .agg [.nils, .nils] ∧ hp' = [(2000, curB c v i h)]) ∨
 ∃ (TY : List AV) (u : Nat) (F : List AV) (T : Hp) (m : Nat), r = .agg [.sl TY, .row 2102 u F.length] ∧ hp' = (2000, curB c v i h) :: (2102, ⟨u, false, 114, 6, F⟩) :: T ∧ DisT nm T ∧ F.length ≤ 600 ∧ m ≤ 402 ∧ ∀ y ∈ F, NodeA m T y)
structure PgS where
 s : ByteArray
 n : Int
 i : Nat
 h : Int
set_option maxHeartbeats 4000000 in
theorem l03Program_ok (c : List UInt8) (v i nm : Nat) (h : Int) (hk : CurOk c i h) : CallsH Tryz.prog 54 [.ptr 2000 v 0 0] [(2000, curB c v i h)] (ProgP c v nm) := by
 refine ir_spec_l03Program.H rfl ?_
 simp +contextual -dsimp (maxSteps := 2000000) only [↓SD, SU, SB, simprocAttr, curB_frz, false_and, and_false, ir_spec_l03Program]
 intro v2
 (refine aCallH_of [2000] (l01Below_ok c v _ _ hk (12) (by omega)) (by simp +contextual -dsimp only [↓SD, SU, SB, simprocAttr]) ?_; clear hk; rintro r hp' ⟨p, i, h, rfl, hp, hk, rfl⟩)
 obtain ⟨p0, p1⟩ := hp.in (by omega)
 simp +contextual -dsimp (maxSteps := 2000000) only [↓SD, SU, SB, simprocAttr, curB_frz, false_and, and_false]
 refine aCallH_of [] (l02Classic_ok p p0 p1) (by simp +contextual -dsimp only [↓SD, SU, SB, simprocAttr]) ?_
 rintro r hp' ⟨s, rfl, hs, rfl⟩
 simp +contextual -dsimp (maxSteps := 2000000) only [↓SD, SU, SB, simprocAttr, curB_frz, false_and, and_false]
 (refine aCallH_of [2000] (l01Below_ok c v _ _ hk (3) (by omega)) (by simp +contextual -dsimp only [↓SD, SU, SB, simprocAttr]) ?_; clear hk; rintro r hp' ⟨q, i, h, rfl, hq, hk, rfl⟩)
 obtain ⟨q0, q1⟩ := hq.in (by omega)
 simp +contextual -dsimp (maxSteps := 2000000) only [↓SD, SU, SB, simprocAttr, curB_frz, false_and, and_false]
 refine aLoop_of (X := PgS) (fun x => ⟨[(0, .ptr 2000 v 0 0), (2, .ptr 2 v2 0 0), (3, .str x.s), (4, .int .i64 x.n)], [(2, ⟨v2, false, 111, 2, [.agg [.nils, .nils]]⟩), (2000, curB c v x.i x.h)]⟩) (fun x => 0 ≤ x.n ∧ x.n ≤ 2 ∧ x.s.size + 13 * x.n.toNat ≤ 400 ∧ CurOk c x.i x.h) (fun x => x.n.toNat) ⟨s, q, i, h⟩ (by dsimp only; exact ⟨by omega, by omega, by omega, hk⟩) (by simp +contextual -dsimp only [↓SD, SU, SB, simprocAttr]) (by simp +contextual -dsimp only [↓SD, SU, SB, simprocAttr]) ?_
 clear hk hq q0 q1 hs
 rintro ⟨s, q, i, h⟩ ⟨q0, q1, hs, hk⟩
 dsimp only at q0 q1 hs hk ⊢
 by_cases hlt : 0 < q
 ·simp +contextual -dsimp (maxSteps := 2000000) only [↓SD, SU, SB, simprocAttr, curB_frz, false_and, and_false, hlt]
  refine aCallH_of [2000] (l02Turn_ok c v _ _ hk s (by omega)) (by simp +contextual -dsimp only [↓SD, SU, SB, simprocAttr]) ?_
  rintro r hp' ⟨s', i', h', rfl, hs', hk', rfl⟩
  simp +contextual -dsimp (maxSteps := 2000000) only [↓SD, SU, SB, simprocAttr, curB_frz, false_and, and_false]
  refine aCallH_gen [] (Parse_ok nm s' (by omega)) rfl ?_
  rintro r hp' (⟨cd, p, rfl, hc0, rfl⟩ | ⟨TY, u, F, T, rfl, rfl, hD, hF, hFn⟩) H hH
  ·rw [hrest_no] at hH
   subst hH
   have e0 := eq_false hc0
   simp +contextual -dsimp (maxSteps := 2000000) only [↓SD, SU, SB, simprocAttr, curB_frz, false_and, and_false, List.nil_append, e0]
   intro v6
   exact ⟨by omega, Goes.le ⟨⟨s, q - 1, i', h'⟩, ⟨⟨by dsimp only; omega, by dsimp only; omega, by dsimp only; omega, hk'⟩, (by first | omega | (simp only; omega))⟩, rfl⟩ (by simp +contextual -dsimp only [↓SD, SU, SB, simprocAttr]) (by simp +contextual -dsimp only [↓SD, SU, SB, simprocAttr])⟩
  ·rw [hrest_no] at hH
   have hTl : ∀ k, k < 10000 → ∀ hp, hget (T ++ hp) k = hget hp k := fun k hk hp => hg_app_r fun p hp' => by have := hD.far p hp'; omega
   subst hH
   simp +contextual -dsimp (maxSteps := 2000000) only [↓SD, SU, SB, simprocAttr, curB_frz, false_and, and_false, List.cons_append, hTl]
   intro v6
   exact ⟨by omega, Goes.le ⟨⟨s', q - 1, i', h'⟩, ⟨⟨by dsimp only; omega, by dsimp only; omega, by dsimp only; omega, hk'⟩, (by first | omega | (simp only; omega))⟩, rfl⟩ (by simp +contextual -dsimp only [↓SD, SU, SB, simprocAttr]) (by simp +contextual -dsimp only [↓SD, SU, SB, simprocAttr, hTl])⟩
 ·simp +contextual -dsimp (maxSteps := 2000000) only [↓SD, SU, SB, simprocAttr, curB_frz, false_and, and_false, hlt]
  refine aCallH_gen [] (Parse_ok nm s (by omega)) rfl ?_
  rintro r hp' (⟨cd, p, rfl, hc0, rfl⟩ | ⟨TY, u, F, T, rfl, rfl, hD, hF, hFn⟩) H hH
  ·rw [hrest_no] at hH
   subst hH
   simp +contextual -dsimp (maxSteps := 2000000) only [↓SD, SU, SB, simprocAttr, curB_frz, false_and, and_false, List.nil_append]
   intro v9
   refine Goes.post [(2000, curB c v i h)] ?_
   simp +contextual -dsimp (maxSteps := 2000000) only [↓SD, SU, SB, simprocAttr, curB_frz, false_and, and_false]
   exact ⟨i, h, hk, .inl ⟨rfl, rfl⟩⟩
  ·rw [hrest_no] at hH
   have hTl : ∀ k, k < 10000 → ∀ hp, hget (T ++ hp) k = hget hp k := fun k hk hp => hg_app_r fun p hp' => by have := hD.far p hp'; omega
   have hfar := hD.far
   subst hH
   simp +contextual -dsimp (maxSteps := 2000000) only [↓SD, SU, SB, simprocAttr, curB_frz, false_and, and_false, List.cons_append, hTl]
   intro v9
   refine Goes.post ((2000, curB c v i h) :: (2102, ⟨u, false, 114, 6, F⟩) :: T) ?_
   simp +contextual -dsimp (maxSteps := 2000000) only [↓SD, SU, SB, simprocAttr, curB_frz, false_and, and_false, hTl]
   refine ⟨?_, i, h, hk, .inr ⟨TY, u, F, T, s.size + 2, rfl, rfl, hD, hF, by omega, hFn⟩⟩
   repeat (first | exact hpLe_l hD.2.1 | refine hpLe_lowT ?_ hfar (by decide))
end Go.Proofs.YteeiaaogmjbcjaaGreat
