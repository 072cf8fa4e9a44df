/-
 A PROGRAM THAT PARSES, DRAWN: l03Program. Conditions: none.
-/
import Derived.Test.YtoffpbehgncakaaGreatKReadZ
import Derived.Test.YtoffpbehgncakaaGreatKJ09
set_option linter.unusedVariables false
set_option linter.unusedSimpArgs false
set_option maxRecDepth 100000
namespace Go.Proofs.YtoffpbehgncakaaGreat
open Go.RowKit Go.Proofs.YtoffpbehgncakaaGreat.Av Go.Proofs.YtoffpbehgncakaaGreat.Ml
open Go.Proofs.YtoffpbehgncakaaGreat.Av.AVal (av)
open OVal (ov oh on)

def Acn (c : List UInt8) (v nm : Nat) (r : AV) (hp' : Hp) : Prop := ∃ i h, C6 c i h ∧ ((r = .agg [.Au, .Au] ∧ hp' = [(2000, BR c v i h)]) ∨
 ∃ (TY : List AV) (u3 u : Nat) (F : List AV) (T : Hp) (m : Nat), r = .agg [.row 2103 u3 TY.length, .row 2102 u F.length] ∧ hp' = (2000, BR c v i h) :: (2103, ⟨u3, false, 91, 3, TY⟩) :: (2102, ⟨u, false, 51, 6, F⟩) :: T ∧ Ee nm T ∧ F.length ≤ 600 ∧ m ≤ 402 ∧ (∀ y ∈ F, F4 m T y) ∧ (F.flatMap kq).Nodup ∧ Lj m T TY ∧ TY.length ≤ m ∧ Yz TY)
structure PgS where
 s : ByteArray
 n : Int
 i : Nat
 h : Int
set_option maxHeartbeats 4000000 in
theorem Jp (c : List UInt8) (v i nm : Nat) (h : Int) (hk : C6 c i h) : AW Tryz.prog 88 [.ptr 2000 v 0 0] [(2000, BR c v i h)] (Acn c v nm) := by
 refine FR.H rfl ?_
 simp +contextual -dsimp only [↓SD, SU, simprocAttr, CFB, FR]
 intro v2
 (refine Ad [2000] (AJ c v _ _ hk (12) (by omega)) (by simp +contextual -dsimp only [↓SD, SU, simprocAttr]) ?_; clear hk; rintro r hp' ⟨p, i, h, rfl, hp, hk, rfl⟩)
 obtain ⟨p0, p1⟩ := hp.in (by omega)
 simp +contextual -dsimp only [↓SD, SU, simprocAttr, CFB]
 refine Ad [] (Om p p0 p1) (by simp +contextual -dsimp only [↓SD, SU, simprocAttr]) ?_
 rintro r hp' ⟨s, rfl, hs, rfl⟩
 simp +contextual -dsimp only [↓SD, SU, simprocAttr, CFB]
 (refine Ad [2000] (AJ c v _ _ hk (3) (by omega)) (by simp +contextual -dsimp only [↓SD, SU, simprocAttr]) ?_; clear hk; rintro r hp' ⟨q, i, h, rfl, hq, hk, rfl⟩)
 obtain ⟨q0, q1⟩ := hq.in (by omega)
 simp +contextual -dsimp only [↓SD, SU, simprocAttr, CFB]
 refine AB (X := PgS) (fun x => ⟨[(0, .ptr 2000 v 0 0), (2, .ptr 2 v2 0 0), (3, .str x.s), (4, .int .i64 x.n)], [(2, ⟨v2, false, 26, 2, [.agg [.Au, .Au]]⟩), (2000, BR c v x.i x.h)]⟩) (fun x => 0 ≤ x.n ∧ x.n ≤ 2 ∧ x.s.size + 13 * x.n.toNat ≤ 400 ∧ C6 c x.i x.h) (fun x => x.n.toNat) ⟨s, q, i, h⟩ (by dsimp only; exact ⟨by omega, by omega, by omega, hk⟩) (by simp +contextual -dsimp only [↓SD, SU, simprocAttr]) (by simp +contextual -dsimp only [↓SD, SU, simprocAttr]) ?_
 clear hk hq q0 q1 hs
 rintro ⟨s, q, i, h⟩ ⟨q0, q1, hs, hk⟩
 dsimp only at q0 q1 hs hk ⊢
 by_cases hlt : 0 < q
 ·simp +contextual -dsimp only [↓SD, SU, simprocAttr, CFB, hlt]
  refine Ad [2000] (U5 c v _ _ hk s (by omega)) (by simp +contextual -dsimp only [↓SD, SU, simprocAttr]) ?_
  rintro r hp' ⟨s', i', h', rfl, hs', hk', rfl⟩
  simp +contextual -dsimp only [↓SD, SU, simprocAttr, CFB]
  refine Ao [] (Oc nm s' (by omega)) rfl ?_
  rintro r hp' (⟨cd, p, rfl, hc0, rfl⟩ | ⟨TY, u3, u, F, T, rfl, rfl, hD, hF, hFn⟩) H hH
  ·rw [Ah] at hH
   subst hH
   have e0 := eq_false hc0
   simp +contextual -dsimp only [↓SD, SU, simprocAttr, CFB, List.nil_append, e0]
   intro v6
   exact ⟨by omega, Ai.le ⟨⟨s, q - 1, i', h'⟩, ⟨⟨by dsimp only; omega, by dsimp only; omega, by dsimp only; omega, hk'⟩, (by first | omega | (simp only; omega))⟩, rfl⟩ (by simp +contextual -dsimp only [↓SD, SU, simprocAttr]) (by simp +contextual -dsimp only [↓SD, SU, simprocAttr])⟩
  ·rw [Ah] at hH
   have hTl : ∀ k, k < 10000 → ∀ hp, Ay (T ++ hp) k = Ay hp k := fun k hk hp => Db fun p hp' => by have := hD.far p hp'; omega
   subst hH
   simp +contextual -dsimp only [↓SD, SU, simprocAttr, CFB, List.cons_append, hTl]
   intro v6
   exact ⟨by omega, Ai.le ⟨⟨s', q - 1, i', h'⟩, ⟨⟨by dsimp only; omega, by dsimp only; omega, by dsimp only; omega, hk'⟩, (by first | omega | (simp only; omega))⟩, rfl⟩ (by simp +contextual -dsimp only [↓SD, SU, simprocAttr]) (by simp +contextual -dsimp only [↓SD, SU, simprocAttr, hTl])⟩
 ·simp +contextual -dsimp only [↓SD, SU, simprocAttr, CFB, hlt]
  refine Ao [] (Oc nm s (by omega)) rfl ?_
  rintro r hp' (⟨cd, p, rfl, hc0, rfl⟩ | ⟨TY, u3, u, F, T, rfl, rfl, hD, hF, hFn⟩) H hH
  ·rw [Ah] at hH
   subst hH
   simp +contextual -dsimp only [↓SD, SU, simprocAttr, CFB, List.nil_append]
   intro v9
   refine Ai.post [(2000, BR c v i h)] ?_
   simp +contextual -dsimp only [↓SD, SU, simprocAttr, CFB]
   exact ⟨i, h, hk, .inl ⟨rfl, rfl⟩⟩
  ·rw [Ah] at hH
   have hTl : ∀ k, k < 10000 → ∀ hp, Ay (T ++ hp) k = Ay hp k := fun k hk hp => Db fun p hp' => by have := hD.far p hp'; omega
   have hfar := hD.far
   subst hH
   simp +contextual -dsimp only [↓SD, SU, simprocAttr, CFB, List.cons_append, hTl]
   intro v9
   refine Ai.post ((2000, BR c v i h) :: (2103, ⟨u3, false, 91, 3, TY⟩) :: (2102, ⟨u, false, 51, 6, F⟩) :: T) ?_
   simp +contextual -dsimp only [↓SD, SU, simprocAttr, CFB, hTl]
   refine ⟨?_, i, h, hk, .inr ⟨TY, u3, u, F, T, s.size + 2, rfl, rfl, hD, hF, by omega, hFn⟩⟩
   repeat (first | exact EB hD.2.1 | refine Ag ?_ hfar (by decide))
end Go.Proofs.YtoffpbehgncakaaGreat
