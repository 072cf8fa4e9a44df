/-
 TEXTS THAT THE REFERENCE DRAWS: some text within bounds, by abstract texts. Conditions: none.
-/
import Derived.Test.YtoffpbehgncakaaGreatKTxtL
import Derived.Test.YtoffpbehgncakaaGreatKJ06
import Derived.Test.YtoffpbehgncakaaGreatProg
import Derived.Test.YtoffpbehgncakaaGreatKAvDraw
set_option linter.unusedVariables false
set_option linter.unusedSimpArgs false
set_option maxRecDepth 100000
namespace Go.Proofs.YtoffpbehgncakaaGreat
open Go.RowKit Go.Proofs.YtoffpbehgncakaaGreat.Av Go.Proofs.YtoffpbehgncakaaGreat.Ml
open Go.Proofs.YtoffpbehgncakaaGreat.Av.AVal (av)

def KS (c : List UInt8) (v n : Nat) (r : AV) (hp' : Hp) : Prop := ∃ s i h, r = .str s ∧ s.size ≤ n ∧ C6 c i h ∧ hp' = [(2000, BR c v i h)]
def Aa3 (n : Nat) (r : AV) (hp' : Hp) : Prop := ∃ s : ByteArray, r = .str s ∧ s.size ≤ n ∧ hp' = []
theorem Lh (s : ByteArray) (a b : Nat) (h : b ≤ s.size) : (s.extract a b).size = b - a := by rw [ByteArray.size_extract]; omega
theorem Om (k : Int) (h0 : 0 ≤ k) (h1 : k < 12) : AW Tryz.prog 150 [.int .i64 k] [] (Aa3 346) := by
 refine FX.H rfl ?_
 have hm : k.tmod 12 = k := Int.tmod_eq_of_lt h0 h1
 obtain ⟨y, hy, hs⟩ := Tk (i := k.toNat) (by omega)
 have h2 : (k.toNat : Int) = k := by omega
 simp +contextual -dsimp only [↓SD, SU, simprocAttr, FX, QW, KJ, hm, h0, h1, hy]
 refine ⟨by omega, Ai.post [] ?_⟩
 simp +contextual -dsimp only [↓SD, SU, simprocAttr]
 exact ⟨y, rfl, hs, rfl⟩
theorem U5 (c : List UInt8) (v i : Nat) (h : Int) (hk : C6 c i h) (s : ByteArray) (hs : s.size ≤ 100000) : AW Tryz.prog 151 [.ptr 2000 v 0 0, .str s] [(2000, BR c v i h)] (KS c v (s.size + 13)) := by
 refine Fi.H rfl ?_
 by_cases h0 : s.size = 0
 ·simp +contextual -dsimp only [↓SD, SU, simprocAttr, CFB, Fi, h0]
  refine Ai.post [(2000, BR c v i h)] ?_
  simp +contextual -dsimp only [↓SD, SU, simprocAttr]
  exact ⟨bs [120], i, h, rfl, by rw [Cg]; simp, hk, rfl⟩
 have h0' : 0 < s.size := by omega
 have h0i : ¬ (s.size : Int) = 0 := by omega
 simp +contextual -dsimp only [↓SD, SU, simprocAttr, CFB, Fi, h0, h0i]
 (refine Ad [2000] (AJ c v _ _ hk (s.size) (by omega)) (by simp +contextual -dsimp only [↓SD, SU, simprocAttr]) ?_; clear hk; rintro r hp' ⟨p, i, h, rfl, hp, hk, rfl⟩)
 obtain ⟨p0, p1⟩ := hp.in (by omega)
 simp +contextual -dsimp only [↓SD, SU, simprocAttr, CFB]
 (refine Ad [2000] (AJ c v _ _ hk (4) (by omega)) (by simp +contextual -dsimp only [↓SD, SU, simprocAttr]) ?_; clear hk; rintro r hp' ⟨q, i, h, rfl, hq, hk, rfl⟩)
 obtain ⟨q0, q1⟩ := hq.in (by omega)
 generalize q = k at *
 have e1 := Lh s 0 p.toNat (by omega)
 have e2 := Lh s p.toNat s.size (by omega)
 have e3 := Lh s (p + 1).toNat s.size (by omega)
 by_cases a0 : k = 0
 ·simp +contextual -dsimp only [↓SD, SU, simprocAttr, CFB, a0]
  (repeat' (first | intro _ | refine And.intro ?_ ?_))
  all_goals first | omega | ((try simp only [ByteArray.size_append]); unfold maxLen; omega) | skip
  refine Ai.post [(2000, BR c v i h)] ?_
  simp +contextual -dsimp only [↓SD, SU, simprocAttr]
  exact ⟨_, i, h, rfl, by simp only [ByteArray.size_append]; omega, hk, rfl⟩
 by_cases a1 : k = 1
 ·simp +contextual -dsimp only [↓SD, SU, simprocAttr, CFB, a0, a1]
  refine ⟨by omega, ?_⟩
  refine Ai.post [(2000, BR c v i h)] ?_
  simp +contextual -dsimp only [↓SD, SU, simprocAttr]
  exact ⟨_, i, h, rfl, by omega, hk, rfl⟩
 simp +contextual -dsimp only [↓SD, SU, simprocAttr, CFB, a0, a1, Ze, MN, Sd]
 (repeat' (first | intro _ | refine And.intro ?_ ?_))
 all_goals first | omega | skip
 all_goals
  refine Ad [2000] (AJ c v _ _ hk 40 (by omega)) (by simp +contextual -dsimp only [↓SD, SU, simprocAttr]) ?_
  rintro r hp' ⟨x, i', h', rfl, hx, hk', rfl⟩
  obtain ⟨x0, x1⟩ := hx.in (by omega)
  obtain ⟨y, hy, hz⟩ := AaM (i := x.toNat) (by omega)
  simp +contextual -dsimp only [↓SD, SU, simprocAttr, CFB, MN, Sd, hy, x0, x1]
  (repeat' (first | intro _ | refine And.intro ?_ ?_))
  all_goals first | omega | ((try simp only [ByteArray.size_append]); unfold maxLen; omega) | skip
  refine Ai.post [(2000, BR c v i' h')] ?_
  simp +contextual -dsimp only [↓SD, SU, simprocAttr]
  exact ⟨_, i', h', rfl, by simp only [ByteArray.size_append]; omega, hk', rfl⟩
structure TxS where
 s : ByteArray
 n : Int
 i : Nat
 h : Int
structure BtS where
 k : Nat
 L : List UInt8
 i : Nat
 h : Int
end Go.Proofs.YtoffpbehgncakaaGreat
set_option linter.unusedVariables false
set_option maxRecDepth 100000
namespace Go.Proofs.YtoffpbehgncakaaGreat
open Go.Proofs.YtoffpbehgncakaaGreat.Av

theorem JF : Tryz.prog.follows .mixedOrders = true := by kernel_rfl

def FR : Ir Tryz.prog 88 [(13, 7777), (14, 7777), (16, 7777), (23, 7777), (26, 7777), (35, 7777)] [9999] 1 := ⟨_, _, Tryz.func88, JF, by kernel_rfl, AA [] Tryz.progTables (by conv => lhs; cbv) (by kernel_rfl)⟩
def HN : Ir Tryz.prog 152 [(5, 7777)] [9999] 1 := ⟨_, _, Tryz.func152, JF, by kernel_rfl, AA [] Tryz.progTables (by conv => lhs; cbv) (by kernel_rfl)⟩
end Go.Proofs.YtoffpbehgncakaaGreat
