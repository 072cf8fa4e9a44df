/-
  THE DRAWS OF HEAPS: some heap and some roots, within bounds. Conditions: none.
-/
import Derived.Test.YtpignflebknagaaCur
import Derived.Test.YtpignflebknagaaHeapA
import Derived.Test.YtpignflebknagaaShowP
import Derived.Test.YtpignflebknagaaIrDraw11
set_option linter.unusedVariables false
set_option linter.unusedSimpArgs false
set_option maxRecDepth 100000
namespace Go.Proofs.Ytpignflebknagaa
open Go.RowKit Go.Proofs.Ytpignflebknagaa.Av Go.Proofs.Ytpignflebknagaa.Ml
open Go.Proofs.Ytpignflebknagaa.Av.AVal (av)

def ValD (x : Val) : Prop := (-9223372036854775808 ≤ x.n ∧ x.n ≤ 9223372036854775807) ∧ x.s.size ≤ 8
def CellD (x : Cell) : Prop := (-9223372036854775808 ≤ x.n ∧ x.n ≤ 9223372036854775807) ∧ x.s.size ≤ 8 ∧ ValD x.a ∧ ValD x.b
def ValPost (c : List UInt8) (v : Nat) (r : AV) (hp' : Hp) : Prop := ∃ x : Val, ∃ i h, r = av x ∧ ValD x ∧ CurOk c i h ∧ hp' = [(2000, curB c v i h)]
theorem l11DrawVal_ok (c : List UInt8) (v i : Nat) (h : Int) (hk : CurOk c i h) (n : Int) (h0 : 0 ≤ n) (hn : n ≤ 1000000) : CallsH Try.prog 40 [.ptr 2000 v 0 0, .int .i64 n] [(2000, curB c v i h)] (ValPost c v) := by
  refine funH_spec_l11DrawVal rfl ?_
  simp +contextual -dsimp (maxSteps := 2000000) only [↓SD, SU, SB, Nat.reduceAdd, Nat.reduceBEq, Nat.reduceEqDiff, Nat.reduceLeDiff, Nat.reduceLT, Nat.reduceSub, ↓reduceIte, zA, zI, zN, reduceCtorEq, Int.reduceToNat, zE, Int.reduceEq, Int.reduceLT, Int.reduceLE, Int.reduceNeg, Int.reduceAdd, Int.reduceSub, curB_frz, false_and, and_false, ir_spec_l11DrawVal, rs_spec_l11DrawVal]
  intro u
  (refine aCallH_of [2000] (l01Below_ok c v _ _ hk (9) (by omega)) (by simp +contextual -dsimp only [↓SD, SU, SB, Nat.reduceAdd, Nat.reduceBEq, Nat.reduceEqDiff, Nat.reduceLeDiff, Nat.reduceLT, Nat.reduceSub, ↓reduceIte, zA, zI, zN, reduceCtorEq, Int.reduceToNat, zE]) ?_; clear hk; rintro r hp' ⟨q, i, h, rfl, hq, hk, rfl⟩)
  obtain ⟨k0, k1⟩ := hq.in (by omega)
  generalize q = k at *
  by_cases a : k < 4 ∧ 0 < n
  · simp +contextual -dsimp (maxSteps := 2000000) only [↓SD, SU, SB, Nat.reduceAdd, Nat.reduceBEq, Nat.reduceEqDiff, Nat.reduceLeDiff, Nat.reduceLT, Nat.reduceSub, ↓reduceIte, zA, zI, zN, reduceCtorEq, Int.reduceToNat, zE, Int.reduceEq, Int.reduceLT, Int.reduceLE, Int.reduceNeg, Int.reduceAdd, Int.reduceSub, curB_frz, false_and, and_false, a.1, a.2]
    (refine aCallH_of [2000] (l01Below_ok c v _ _ hk (n) (by omega)) (by simp +contextual -dsimp only [↓SD, SU, SB, Nat.reduceAdd, Nat.reduceBEq, Nat.reduceEqDiff, Nat.reduceLeDiff, Nat.reduceLT, Nat.reduceSub, ↓reduceIte, zA, zI, zN, reduceCtorEq, Int.reduceToNat, zE]) ?_; clear hk; rintro r hp' ⟨x, i, h, rfl, hx, hk, rfl⟩)
    obtain ⟨x0, x1⟩ := hx.in a.2
    simp +contextual -dsimp (maxSteps := 2000000) only [↓SD, SU, SB, Nat.reduceAdd, Nat.reduceBEq, Nat.reduceEqDiff, Nat.reduceLeDiff, Nat.reduceLT, Nat.reduceSub, ↓reduceIte, zA, zI, zN, reduceCtorEq, Int.reduceToNat, zE, Int.reduceEq, Int.reduceLT, Int.reduceLE, Int.reduceNeg, Int.reduceAdd, Int.reduceSub, curB_frz, false_and, and_false]
    refine Goes.post [(2000, curB c v i h)] ?_
    simp +contextual -dsimp (maxSteps := 2000000) only [↓SD, SU, SB, Nat.reduceAdd, Nat.reduceBEq, Nat.reduceEqDiff, Nat.reduceLeDiff, Nat.reduceLT, Nat.reduceSub, ↓reduceIte, zA, zI, zN, reduceCtorEq, Int.reduceToNat, zE]
    exact ⟨⟨6, x, bs []⟩, i, h, rfl, ⟨⟨by simp only; omega, by simp only; omega⟩, by simp only; decide⟩, hk, rfl⟩
  · have a' : ¬ k < 4 ∨ (k < 4 ∧ ¬ 0 < n) := by omega
    rcases a' with b | ⟨b, d⟩
    · simp +contextual -dsimp (maxSteps := 2000000) only [↓SD, SU, SB, Nat.reduceAdd, Nat.reduceBEq, Nat.reduceEqDiff, Nat.reduceLeDiff, Nat.reduceLT, Nat.reduceSub, ↓reduceIte, zA, zI, zN, reduceCtorEq, Int.reduceToNat, zE, Int.reduceEq, Int.reduceLT, Int.reduceLE, Int.reduceNeg, Int.reduceAdd, Int.reduceSub, curB_frz, false_and, and_false, b]
      (refine aCallH_of [2000] (l01Below_ok c v _ _ hk (9) (by omega)) (by simp +contextual -dsimp only [↓SD, SU, SB, Nat.reduceAdd, Nat.reduceBEq, Nat.reduceEqDiff, Nat.reduceLeDiff, Nat.reduceLT, Nat.reduceSub, ↓reduceIte, zA, zI, zN, reduceCtorEq, Int.reduceToNat, zE]) ?_; clear hk; rintro r hp' ⟨y, i, h, rfl, hy, hk, rfl⟩)
      obtain ⟨y0, y1⟩ := hy.in (by omega)
      simp +contextual -dsimp (maxSteps := 2000000) only [↓SD, SU, SB, Nat.reduceAdd, Nat.reduceBEq, Nat.reduceEqDiff, Nat.reduceLeDiff, Nat.reduceLT, Nat.reduceSub, ↓reduceIte, zA, zI, zN, reduceCtorEq, Int.reduceToNat, zE, Int.reduceEq, Int.reduceLT, Int.reduceLE, Int.reduceNeg, Int.reduceAdd, Int.reduceSub, curB_frz, false_and, and_false]
      (refine aCallH_of [2000] (l01Below_ok c v _ _ hk (6) (by omega)) (by simp +contextual -dsimp only [↓SD, SU, SB, Nat.reduceAdd, Nat.reduceBEq, Nat.reduceEqDiff, Nat.reduceLeDiff, Nat.reduceLT, Nat.reduceSub, ↓reduceIte, zA, zI, zN, reduceCtorEq, Int.reduceToNat, zE]) ?_; clear hk; rintro r hp' ⟨x, i, h, rfl, hx, hk, rfl⟩)
      obtain ⟨x0, x1⟩ := hx.in (by omega)
      have hx6 : x = 0 ∨ x = 1 ∨ x = 2 ∨ x = 3 ∨ x = 4 ∨ x = 5 := by omega
      rcases hx6 with rfl | rfl | rfl | rfl | rfl | rfl <;>
      · simp +contextual -dsimp (maxSteps := 2000000) only [↓SD, SU, SB, Nat.reduceAdd, Nat.reduceBEq, Nat.reduceEqDiff, Nat.reduceLeDiff, Nat.reduceLT, Nat.reduceSub, ↓reduceIte, zA, zI, zN, reduceCtorEq, Int.reduceToNat, zE, Int.reduceEq, Int.reduceLT, Int.reduceLE, Int.reduceNeg, Int.reduceAdd, Int.reduceSub, curB_frz, false_and, and_false]
        refine Goes.post [(2000, curB c v i h)] ?_
        simp +contextual -dsimp (maxSteps := 2000000) only [↓SD, SU, SB, Nat.reduceAdd, Nat.reduceBEq, Nat.reduceEqDiff, Nat.reduceLeDiff, Nat.reduceLT, Nat.reduceSub, ↓reduceIte, zA, zI, zN, reduceCtorEq, Int.reduceToNat, zE]
        refine ⟨⟨_, _, _⟩, i, h, rfl, ⟨⟨?_, ?_⟩, ?_⟩, hk, rfl⟩ <;> simp only <;> first | omega | decide
    · simp +contextual -dsimp (maxSteps := 2000000) only [↓SD, SU, SB, Nat.reduceAdd, Nat.reduceBEq, Nat.reduceEqDiff, Nat.reduceLeDiff, Nat.reduceLT, Nat.reduceSub, ↓reduceIte, zA, zI, zN, reduceCtorEq, Int.reduceToNat, zE, Int.reduceEq, Int.reduceLT, Int.reduceLE, Int.reduceNeg, Int.reduceAdd, Int.reduceSub, curB_frz, false_and, and_false, b, d]
      (refine aCallH_of [2000] (l01Below_ok c v _ _ hk (9) (by omega)) (by simp +contextual -dsimp only [↓SD, SU, SB, Nat.reduceAdd, Nat.reduceBEq, Nat.reduceEqDiff, Nat.reduceLeDiff, Nat.reduceLT, Nat.reduceSub, ↓reduceIte, zA, zI, zN, reduceCtorEq, Int.reduceToNat, zE]) ?_; clear hk; rintro r hp' ⟨y, i, h, rfl, hy, hk, rfl⟩)
      obtain ⟨y0, y1⟩ := hy.in (by omega)
      simp +contextual -dsimp (maxSteps := 2000000) only [↓SD, SU, SB, Nat.reduceAdd, Nat.reduceBEq, Nat.reduceEqDiff, Nat.reduceLeDiff, Nat.reduceLT, Nat.reduceSub, ↓reduceIte, zA, zI, zN, reduceCtorEq, Int.reduceToNat, zE, Int.reduceEq, Int.reduceLT, Int.reduceLE, Int.reduceNeg, Int.reduceAdd, Int.reduceSub, curB_frz, false_and, and_false]
      (refine aCallH_of [2000] (l01Below_ok c v _ _ hk (6) (by omega)) (by simp +contextual -dsimp only [↓SD, SU, SB, Nat.reduceAdd, Nat.reduceBEq, Nat.reduceEqDiff, Nat.reduceLeDiff, Nat.reduceLT, Nat.reduceSub, ↓reduceIte, zA, zI, zN, reduceCtorEq, Int.reduceToNat, zE]) ?_; clear hk; rintro r hp' ⟨x, i, h, rfl, hx, hk, rfl⟩)
      obtain ⟨x0, x1⟩ := hx.in (by omega)
      have hx6 : x = 0 ∨ x = 1 ∨ x = 2 ∨ x = 3 ∨ x = 4 ∨ x = 5 := by omega
      rcases hx6 with rfl | rfl | rfl | rfl | rfl | rfl <;>
      · simp +contextual -dsimp (maxSteps := 2000000) only [↓SD, SU, SB, Nat.reduceAdd, Nat.reduceBEq, Nat.reduceEqDiff, Nat.reduceLeDiff, Nat.reduceLT, Nat.reduceSub, ↓reduceIte, zA, zI, zN, reduceCtorEq, Int.reduceToNat, zE, Int.reduceEq, Int.reduceLT, Int.reduceLE, Int.reduceNeg, Int.reduceAdd, Int.reduceSub, curB_frz, false_and, and_false]
        refine Goes.post [(2000, curB c v i h)] ?_
        simp +contextual -dsimp (maxSteps := 2000000) only [↓SD, SU, SB, Nat.reduceAdd, Nat.reduceBEq, Nat.reduceEqDiff, Nat.reduceLeDiff, Nat.reduceLT, Nat.reduceSub, ↓reduceIte, zA, zI, zN, reduceCtorEq, Int.reduceToNat, zE]
        refine ⟨⟨_, _, _⟩, i, h, rfl, ⟨⟨?_, ?_⟩, ?_⟩, hk, rfl⟩ <;> simp only <;> first | omega | decide
/-- the draw of a value -/
def HeapPost (c : List UInt8) (v m : Nat) (r : AV) (hp' : Hp) : Prop := ∃ (l : List Cell) (rs : List Val) (u1 u2 : Nat), ∃ i h, r = .tup [.row 10 u1 l.length, .row 61 u2 rs.length] ∧ (l.length ≤ 12 ∧ ∀ x ∈ l, CellD x) ∧ (rs.length ≤ m ∧ ∀ x ∈ rs, ValD x) ∧ CurOk c i h ∧
  hp' = [(10, ⟨u1, false, 43, 9, l.map av⟩), (61, ⟨u2, false, 35, 3, rs.map av⟩), (2000, curB c v i h)]
structure DrS where
  k : Nat
  u : Nat
  l : List Cell
  i : Nat
  h : Int
structure DrR where
  k : Nat
  u : Nat
  r : List Val
  i : Nat
  h : Int
theorem cells_snoc {k : Nat} {l : List Cell} {x : Cell} (hl : l.length = k) (hD : ∀ y ∈ l, CellD y) (hx : CellD x) : (l ++ [x]).length = k + 1 ∧ ∀ y ∈ l ++ [x], CellD y := by
  refine ⟨by simp [hl], fun y hy => ?_⟩
  rcases List.mem_append.1 hy with h | h
  · exact hD y h
  · simp at h; subst h; exact hx
theorem cells_pre {c : List UInt8} {k m i : Nat} {h : Int} {l : List Cell} {x : Cell} (hlt : (k : Int) < m) (hl : l.length = k) (hD : ∀ y ∈ l, CellD y) (hx : CellD x) (hk : CurOk c i h) : k + 1 ≤ m ∧ (l ++ [x]).length = k + 1 ∧ (∀ y ∈ l ++ [x], CellD y) ∧ CurOk c i h :=
  ⟨by omega, (cells_snoc hl hD hx).1, (cells_snoc hl hD hx).2, hk⟩
theorem vals_snoc {l : List Val} {x : Val} (hD : ∀ y ∈ l, ValD y) (hx : ValD x) : ∀ y ∈ l ++ [x], ValD y := by
  intro y hy
  rcases List.mem_append.1 hy with h | h
  · exact hD y h
  · simp at h; subst h; exact hx
theorem none_D : ValD ⟨0, 0, bs []⟩ := ⟨⟨by decide, by decide⟩, by decide⟩
theorem l11Draw_ok (c : List UInt8) (v i : Nat) (h : Int) (hk : CurOk c i h) : CallsH Try.prog 28 [.ptr 2000 v 0 0] [(2000, curB c v i h)] (HeapPost c v 4) := by
  refine funH_spec_l11Draw rfl ?_
  simp +contextual -dsimp (maxSteps := 2000000) only [↓SD, SU, SB, Nat.reduceAdd, Nat.reduceBEq, Nat.reduceEqDiff, Nat.reduceLeDiff, Nat.reduceLT, Nat.reduceSub, ↓reduceIte, zA, zI, zN, reduceCtorEq, Int.reduceToNat, zE, Int.reduceEq, Int.reduceLT, Int.reduceLE, Int.reduceNeg, Int.reduceAdd, Int.reduceSub, curB_frz, false_and, and_false, ir_spec_l11Draw, rs_spec_l11Draw]
  intro u
  (refine aCallH_of [2000] (l01Below_ok c v _ _ hk (12) (by omega)) (by simp +contextual -dsimp only [↓SD, SU, SB, Nat.reduceAdd, Nat.reduceBEq, Nat.reduceEqDiff, Nat.reduceLeDiff, Nat.reduceLT, Nat.reduceSub, ↓reduceIte, zA, zI, zN, reduceCtorEq, Int.reduceToNat, zE]) ?_; clear hk; rintro r hp' ⟨n, i, h, rfl, hn, hk, rfl⟩)
  obtain ⟨n0, n1⟩ := hn.in (by omega)
  simp +contextual -dsimp (maxSteps := 2000000) only [↓SD, SU, SB, Nat.reduceAdd, Nat.reduceBEq, Nat.reduceEqDiff, Nat.reduceLeDiff, Nat.reduceLT, Nat.reduceSub, ↓reduceIte, zA, zI, zN, reduceCtorEq, Int.reduceToNat, zE, Int.reduceEq, Int.reduceLT, Int.reduceLE, Int.reduceNeg, Int.reduceAdd, Int.reduceSub, curB_frz, false_and, and_false]
  obtain ⟨m, rfl⟩ : ∃ m : Nat, n = m := ⟨n.toNat, by omega⟩
  refine aLoop_of (X := DrS) (fun x => ⟨[(0, .ptr 2000 v 0 0), (4, .row 10 x.u x.l.length), (5, .int .i64 m), (6, .int .i64 x.k)], [(10, ⟨x.u, false, 43, 9, x.l.map av⟩), (2000, curB c v x.i x.h)]⟩) (fun x => x.k ≤ m ∧ x.l.length = x.k ∧ (∀ y ∈ x.l, CellD y) ∧ CurOk c x.i x.h) (fun x => m - x.k) ⟨0, u, [], i, h⟩ ⟨Nat.zero_le _, rfl, by simp, hk⟩ (by simp +contextual -dsimp only [↓SD, SU, SB, Nat.reduceAdd, Nat.reduceBEq, Nat.reduceEqDiff, Nat.reduceLeDiff, Nat.reduceLT, Nat.reduceSub, ↓reduceIte, zA, zI, zN, reduceCtorEq, Int.reduceToNat, zE]) (by simp +contextual -dsimp only [↓SD, SU, SB, Nat.reduceAdd, Nat.reduceBEq, Nat.reduceEqDiff, Nat.reduceLeDiff, Nat.reduceLT, Nat.reduceSub, ↓reduceIte, zA, zI, zN, reduceCtorEq, Int.reduceToNat, zE]) ?_
  clear hk hn i h
  rintro ⟨k, u, l, i, h⟩ ⟨hkm, hl, hD, hk⟩
  dsimp only at hkm hl hD hk ⊢
  have ht : List.take l.length (l.map (av : Cell → AV)) = l.map av := List.take_of_length_le (by simp)
  by_cases hlt : (k : Int) < m
  · simp +contextual -dsimp (maxSteps := 2000000) only [↓SD, SU, SB, Nat.reduceAdd, Nat.reduceBEq, Nat.reduceEqDiff, Nat.reduceLeDiff, Nat.reduceLT, Nat.reduceSub, ↓reduceIte, zA, zI, zN, reduceCtorEq, Int.reduceToNat, zE, Int.reduceEq, Int.reduceLT, Int.reduceLE, Int.reduceNeg, Int.reduceAdd, Int.reduceSub, curB_frz, false_and, and_false, hlt]
    (refine aCallH_of [2000] (l01Below_ok c v _ _ hk (6) (by omega)) (by simp +contextual -dsimp only [↓SD, SU, SB, Nat.reduceAdd, Nat.reduceBEq, Nat.reduceEqDiff, Nat.reduceLeDiff, Nat.reduceLT, Nat.reduceSub, ↓reduceIte, zA, zI, zN, reduceCtorEq, Int.reduceToNat, zE]) ?_; clear hk; rintro r hp' ⟨q, i, h, rfl, hq, hk, rfl⟩)
    obtain ⟨q0, q1⟩ := hq.in (by omega)
    simp +contextual -dsimp (maxSteps := 2000000) only [↓SD, SU, SB, Nat.reduceAdd, Nat.reduceBEq, Nat.reduceEqDiff, Nat.reduceLeDiff, Nat.reduceLT, Nat.reduceSub, ↓reduceIte, zA, zI, zN, reduceCtorEq, Int.reduceToNat, zE, Int.reduceEq, Int.reduceLT, Int.reduceLE, Int.reduceNeg, Int.reduceAdd, Int.reduceSub, curB_frz, false_and, and_false]
    refine ⟨by omega, ?_⟩
    refine aCallH_of [2000] (l11DrawVal_ok c v i h hk m (by omega) (by omega)) (by simp +contextual -dsimp only [↓SD, SU, SB, Nat.reduceAdd, Nat.reduceBEq, Nat.reduceEqDiff, Nat.reduceLeDiff, Nat.reduceLT, Nat.reduceSub, ↓reduceIte, zA, zI, zN, reduceCtorEq, Int.reduceToNat, zE]) ?_
    clear hk
    rintro r hp' ⟨⟨ak, an, sa⟩, i, h, rfl, hA, hk, rfl⟩
    have hq6 : q = 0 ∨ q = 1 ∨ q = 2 ∨ q = 3 ∨ q = 4 ∨ q = 5 := by omega
    rcases hq6 with rfl | rfl | rfl | rfl | rfl | rfl
    · simp +contextual -dsimp (maxSteps := 2000000) only [↓SD, SU, SB, Nat.reduceAdd, Nat.reduceBEq, Nat.reduceEqDiff, Nat.reduceLeDiff, Nat.reduceLT, Nat.reduceSub, ↓reduceIte, zA, zI, zN, reduceCtorEq, Int.reduceToNat, zE, Int.reduceEq, Int.reduceLT, Int.reduceLE, Int.reduceNeg, Int.reduceAdd, Int.reduceSub, curB_frz, false_and, and_false, av_Val]
      intro b
      (refine aCallH_of [2000] (l01Below_ok c v _ _ hk (2) (by omega)) (by simp +contextual -dsimp only [↓SD, SU, SB, Nat.reduceAdd, Nat.reduceBEq, Nat.reduceEqDiff, Nat.reduceLeDiff, Nat.reduceLT, Nat.reduceSub, ↓reduceIte, zA, zI, zN, reduceCtorEq, Int.reduceToNat, zE]) ?_; clear hk; rintro r hp' ⟨y, i, h, rfl, hy, hk, rfl⟩)
      obtain ⟨y0, y1⟩ := hy.in (by omega)
      have hy2 : y = 0 ∨ y = 1 := by omega
      rcases hy2 with rfl | rfl
      · simp +contextual -dsimp (maxSteps := 2000000) only [↓SD, SU, SB, Nat.reduceAdd, Nat.reduceBEq, Nat.reduceEqDiff, Nat.reduceLeDiff, Nat.reduceLT, Nat.reduceSub, ↓reduceIte, zA, zI, zN, reduceCtorEq, Int.reduceToNat, zE, Int.reduceEq, Int.reduceLT, Int.reduceLE, Int.reduceNeg, Int.reduceAdd, Int.reduceSub, curB_frz, false_and, and_false, map_len, ht, Nat.le_refl]
        exact ⟨⟨by omega, by unfold maxLen; omega⟩, fun v' => ⟨by omega, Goes.le ⟨⟨k + 1, v', l ++ [⟨1, 0, bs [78, 111, 100, 101], ⟨ak, an, sa⟩, ⟨0, 0, bs []⟩⟩], i, h⟩, ⟨cells_pre hlt hl hD ⟨⟨by simp only; omega, by simp only; omega⟩, by simp only; decide, hA, none_D⟩ hk, (by first | omega | (simp only; omega))⟩, rfl⟩ (by simp +contextual -dsimp only [↓SD, SU, SB, Nat.reduceAdd, Nat.reduceBEq, Nat.reduceEqDiff, Nat.reduceLeDiff, Nat.reduceLT, Nat.reduceSub, ↓reduceIte, zA, zI, zN, reduceCtorEq, Int.reduceToNat, zE, Int.natCast_add, List.length_append]) (by simp +contextual -dsimp only [↓SD, SU, SB, Nat.reduceAdd, Nat.reduceBEq, Nat.reduceEqDiff, Nat.reduceLeDiff, Nat.reduceLT, Nat.reduceSub, ↓reduceIte, zA, zI, zN, reduceCtorEq, Int.reduceToNat, zE, List.map_append, av_Cell])⟩⟩
      · simp +contextual -dsimp (maxSteps := 2000000) only [↓SD, SU, SB, Nat.reduceAdd, Nat.reduceBEq, Nat.reduceEqDiff, Nat.reduceLeDiff, Nat.reduceLT, Nat.reduceSub, ↓reduceIte, zA, zI, zN, reduceCtorEq, Int.reduceToNat, zE, Int.reduceEq, Int.reduceLT, Int.reduceLE, Int.reduceNeg, Int.reduceAdd, Int.reduceSub, curB_frz, false_and, and_false, map_len, ht, Nat.le_refl]
        exact ⟨⟨by omega, by unfold maxLen; omega⟩, fun v' => ⟨by omega, Goes.le ⟨⟨k + 1, v', l ++ [⟨1, 0, bs [58, 58], ⟨ak, an, sa⟩, ⟨0, 0, bs []⟩⟩], i, h⟩, ⟨cells_pre hlt hl hD ⟨⟨by simp only; omega, by simp only; omega⟩, by simp only; decide, hA, none_D⟩ hk, (by first | omega | (simp only; omega))⟩, rfl⟩ (by simp +contextual -dsimp only [↓SD, SU, SB, Nat.reduceAdd, Nat.reduceBEq, Nat.reduceEqDiff, Nat.reduceLeDiff, Nat.reduceLT, Nat.reduceSub, ↓reduceIte, zA, zI, zN, reduceCtorEq, Int.reduceToNat, zE, Int.natCast_add, List.length_append]) (by simp +contextual -dsimp only [↓SD, SU, SB, Nat.reduceAdd, Nat.reduceBEq, Nat.reduceEqDiff, Nat.reduceLeDiff, Nat.reduceLT, Nat.reduceSub, ↓reduceIte, zA, zI, zN, reduceCtorEq, Int.reduceToNat, zE, List.map_append, av_Cell])⟩⟩
    · simp +contextual -dsimp (maxSteps := 2000000) only [↓SD, SU, SB, Nat.reduceAdd, Nat.reduceBEq, Nat.reduceEqDiff, Nat.reduceLeDiff, Nat.reduceLT, Nat.reduceSub, ↓reduceIte, zA, zI, zN, reduceCtorEq, Int.reduceToNat, zE, Int.reduceEq, Int.reduceLT, Int.reduceLE, Int.reduceNeg, Int.reduceAdd, Int.reduceSub, curB_frz, false_and, and_false, av_Val]
      intro b
      refine aCallH_of [2000] (l11DrawVal_ok c v i h hk m (by omega) (by omega)) (by simp +contextual -dsimp only [↓SD, SU, SB, Nat.reduceAdd, Nat.reduceBEq, Nat.reduceEqDiff, Nat.reduceLeDiff, Nat.reduceLT, Nat.reduceSub, ↓reduceIte, zA, zI, zN, reduceCtorEq, Int.reduceToNat, zE]) ?_
      clear hk
      rintro r hp' ⟨⟨bk, bn, sb⟩, i, h, rfl, hB, hk, rfl⟩
      simp +contextual -dsimp (maxSteps := 2000000) only [↓SD, SU, SB, Nat.reduceAdd, Nat.reduceBEq, Nat.reduceEqDiff, Nat.reduceLeDiff, Nat.reduceLT, Nat.reduceSub, ↓reduceIte, zA, zI, zN, reduceCtorEq, Int.reduceToNat, zE, Int.reduceEq, Int.reduceLT, Int.reduceLE, Int.reduceNeg, Int.reduceAdd, Int.reduceSub, curB_frz, false_and, and_false, av_Val, map_len, ht, Nat.le_refl]
      exact ⟨⟨by omega, by unfold maxLen; omega⟩, fun v' => ⟨by omega, Goes.le ⟨⟨k + 1, v', l ++ [⟨2, 0, bs [], ⟨ak, an, sa⟩, ⟨bk, bn, sb⟩⟩], i, h⟩, ⟨cells_pre hlt hl hD ⟨⟨by simp only; omega, by simp only; omega⟩, by simp only; decide, hA, hB⟩ hk, (by first | omega | (simp only; omega))⟩, rfl⟩ (by simp +contextual -dsimp only [↓SD, SU, SB, Nat.reduceAdd, Nat.reduceBEq, Nat.reduceEqDiff, Nat.reduceLeDiff, Nat.reduceLT, Nat.reduceSub, ↓reduceIte, zA, zI, zN, reduceCtorEq, Int.reduceToNat, zE, Int.natCast_add, List.length_append]) (by simp +contextual -dsimp only [↓SD, SU, SB, Nat.reduceAdd, Nat.reduceBEq, Nat.reduceEqDiff, Nat.reduceLeDiff, Nat.reduceLT, Nat.reduceSub, ↓reduceIte, zA, zI, zN, reduceCtorEq, Int.reduceToNat, zE, List.map_append, av_Cell])⟩⟩
    · simp +contextual -dsimp (maxSteps := 2000000) only [↓SD, SU, SB, Nat.reduceAdd, Nat.reduceBEq, Nat.reduceEqDiff, Nat.reduceLeDiff, Nat.reduceLT, Nat.reduceSub, ↓reduceIte, zA, zI, zN, reduceCtorEq, Int.reduceToNat, zE, Int.reduceEq, Int.reduceLT, Int.reduceLE, Int.reduceNeg, Int.reduceAdd, Int.reduceSub, curB_frz, false_and, and_false, av_Val]
      intro b
      (refine aCallH_of [2000] (l01Below_ok c v _ _ hk (50) (by omega)) (by simp +contextual -dsimp only [↓SD, SU, SB, Nat.reduceAdd, Nat.reduceBEq, Nat.reduceEqDiff, Nat.reduceLeDiff, Nat.reduceLT, Nat.reduceSub, ↓reduceIte, zA, zI, zN, reduceCtorEq, Int.reduceToNat, zE]) ?_; clear hk; rintro r hp' ⟨y, i, h, rfl, hy, hk, rfl⟩)
      obtain ⟨y0, y1⟩ := hy.in (by omega)
      simp +contextual -dsimp (maxSteps := 2000000) only [↓SD, SU, SB, Nat.reduceAdd, Nat.reduceBEq, Nat.reduceEqDiff, Nat.reduceLeDiff, Nat.reduceLT, Nat.reduceSub, ↓reduceIte, zA, zI, zN, reduceCtorEq, Int.reduceToNat, zE, Int.reduceEq, Int.reduceLT, Int.reduceLE, Int.reduceNeg, Int.reduceAdd, Int.reduceSub, curB_frz, false_and, and_false, map_len, ht, Nat.le_refl]
      exact ⟨⟨by omega, by unfold maxLen; omega⟩, fun v' => ⟨by omega, Goes.le ⟨⟨k + 1, v', l ++ [⟨3, y, bs [], ⟨ak, an, sa⟩, ⟨0, 0, bs []⟩⟩], i, h⟩, ⟨cells_pre hlt hl hD ⟨⟨by simp only; omega, by simp only; omega⟩, by simp only; decide, hA, none_D⟩ hk, (by first | omega | (simp only; omega))⟩, rfl⟩ (by simp +contextual -dsimp only [↓SD, SU, SB, Nat.reduceAdd, Nat.reduceBEq, Nat.reduceEqDiff, Nat.reduceLeDiff, Nat.reduceLT, Nat.reduceSub, ↓reduceIte, zA, zI, zN, reduceCtorEq, Int.reduceToNat, zE, Int.natCast_add, List.length_append]) (by simp +contextual -dsimp only [↓SD, SU, SB, Nat.reduceAdd, Nat.reduceBEq, Nat.reduceEqDiff, Nat.reduceLeDiff, Nat.reduceLT, Nat.reduceSub, ↓reduceIte, zA, zI, zN, reduceCtorEq, Int.reduceToNat, zE, List.map_append, av_Cell])⟩⟩
    · simp +contextual -dsimp (maxSteps := 2000000) only [↓SD, SU, SB, Nat.reduceAdd, Nat.reduceBEq, Nat.reduceEqDiff, Nat.reduceLeDiff, Nat.reduceLT, Nat.reduceSub, ↓reduceIte, zA, zI, zN, reduceCtorEq, Int.reduceToNat, zE, Int.reduceEq, Int.reduceLT, Int.reduceLE, Int.reduceNeg, Int.reduceAdd, Int.reduceSub, curB_frz, false_and, and_false, av_Val]
      intro b
      (refine aCallH_of [2000] (l01Below_ok c v _ _ hk (50) (by omega)) (by simp +contextual -dsimp only [↓SD, SU, SB, Nat.reduceAdd, Nat.reduceBEq, Nat.reduceEqDiff, Nat.reduceLeDiff, Nat.reduceLT, Nat.reduceSub, ↓reduceIte, zA, zI, zN, reduceCtorEq, Int.reduceToNat, zE]) ?_; clear hk; rintro r hp' ⟨y, i, h, rfl, hy, hk, rfl⟩)
      obtain ⟨y0, y1⟩ := hy.in (by omega)
      simp +contextual -dsimp (maxSteps := 2000000) only [↓SD, SU, SB, Nat.reduceAdd, Nat.reduceBEq, Nat.reduceEqDiff, Nat.reduceLeDiff, Nat.reduceLT, Nat.reduceSub, ↓reduceIte, zA, zI, zN, reduceCtorEq, Int.reduceToNat, zE, Int.reduceEq, Int.reduceLT, Int.reduceLE, Int.reduceNeg, Int.reduceAdd, Int.reduceSub, curB_frz, false_and, and_false, map_len, ht, Nat.le_refl]
      exact ⟨⟨by omega, by unfold maxLen; omega⟩, fun v' => ⟨by omega, Goes.le ⟨⟨k + 1, v', l ++ [⟨4, y, bs [], ⟨ak, an, sa⟩, ⟨0, 0, bs []⟩⟩], i, h⟩, ⟨cells_pre hlt hl hD ⟨⟨by simp only; omega, by simp only; omega⟩, by simp only; decide, hA, none_D⟩ hk, (by first | omega | (simp only; omega))⟩, rfl⟩ (by simp +contextual -dsimp only [↓SD, SU, SB, Nat.reduceAdd, Nat.reduceBEq, Nat.reduceEqDiff, Nat.reduceLeDiff, Nat.reduceLT, Nat.reduceSub, ↓reduceIte, zA, zI, zN, reduceCtorEq, Int.reduceToNat, zE, Int.natCast_add, List.length_append]) (by simp +contextual -dsimp only [↓SD, SU, SB, Nat.reduceAdd, Nat.reduceBEq, Nat.reduceEqDiff, Nat.reduceLeDiff, Nat.reduceLT, Nat.reduceSub, ↓reduceIte, zA, zI, zN, reduceCtorEq, Int.reduceToNat, zE, List.map_append, av_Cell])⟩⟩
    · simp +contextual -dsimp (maxSteps := 2000000) only [↓SD, SU, SB, Nat.reduceAdd, Nat.reduceBEq, Nat.reduceEqDiff, Nat.reduceLeDiff, Nat.reduceLT, Nat.reduceSub, ↓reduceIte, zA, zI, zN, reduceCtorEq, Int.reduceToNat, zE, Int.reduceEq, Int.reduceLT, Int.reduceLE, Int.reduceNeg, Int.reduceAdd, Int.reduceSub, curB_frz, false_and, and_false, av_Val, map_len, ht, Nat.le_refl]
      intro b
      exact ⟨⟨by omega, by unfold maxLen; omega⟩, fun v' => ⟨by omega, Goes.le ⟨⟨k + 1, v', l ++ [⟨5, 0, bs [], ⟨ak, an, sa⟩, ⟨0, 0, bs []⟩⟩], i, h⟩, ⟨cells_pre hlt hl hD ⟨⟨by simp only; omega, by simp only; omega⟩, by simp only; decide, hA, none_D⟩ hk, (by first | omega | (simp only; omega))⟩, rfl⟩ (by simp +contextual -dsimp only [↓SD, SU, SB, Nat.reduceAdd, Nat.reduceBEq, Nat.reduceEqDiff, Nat.reduceLeDiff, Nat.reduceLT, Nat.reduceSub, ↓reduceIte, zA, zI, zN, reduceCtorEq, Int.reduceToNat, zE, Int.natCast_add, List.length_append]) (by simp +contextual -dsimp only [↓SD, SU, SB, Nat.reduceAdd, Nat.reduceBEq, Nat.reduceEqDiff, Nat.reduceLeDiff, Nat.reduceLT, Nat.reduceSub, ↓reduceIte, zA, zI, zN, reduceCtorEq, Int.reduceToNat, zE, List.map_append, av_Cell])⟩⟩
    · simp +contextual -dsimp (maxSteps := 2000000) only [↓SD, SU, SB, Nat.reduceAdd, Nat.reduceBEq, Nat.reduceEqDiff, Nat.reduceLeDiff, Nat.reduceLT, Nat.reduceSub, ↓reduceIte, zA, zI, zN, reduceCtorEq, Int.reduceToNat, zE, Int.reduceEq, Int.reduceLT, Int.reduceLE, Int.reduceNeg, Int.reduceAdd, Int.reduceSub, curB_frz, false_and, and_false, av_Val]
      intro b
      refine aCallH_of [2000] (l11DrawVal_ok c v i h hk m (by omega) (by omega)) (by simp +contextual -dsimp only [↓SD, SU, SB, Nat.reduceAdd, Nat.reduceBEq, Nat.reduceEqDiff, Nat.reduceLeDiff, Nat.reduceLT, Nat.reduceSub, ↓reduceIte, zA, zI, zN, reduceCtorEq, Int.reduceToNat, zE]) ?_
      clear hk
      rintro r hp' ⟨⟨bk, bn, sb⟩, i, h, rfl, hB, hk, rfl⟩
      simp +contextual -dsimp (maxSteps := 2000000) only [↓SD, SU, SB, Nat.reduceAdd, Nat.reduceBEq, Nat.reduceEqDiff, Nat.reduceLeDiff, Nat.reduceLT, Nat.reduceSub, ↓reduceIte, zA, zI, zN, reduceCtorEq, Int.reduceToNat, zE, Int.reduceEq, Int.reduceLT, Int.reduceLE, Int.reduceNeg, Int.reduceAdd, Int.reduceSub, curB_frz, false_and, and_false, av_Val, map_len, ht, Nat.le_refl]
      exact ⟨⟨by omega, by unfold maxLen; omega⟩, fun v' => ⟨by omega, Goes.le ⟨⟨k + 1, v', l ++ [⟨6, 0, bs [], ⟨ak, an, sa⟩, ⟨bk, bn, sb⟩⟩], i, h⟩, ⟨cells_pre hlt hl hD ⟨⟨by simp only; omega, by simp only; omega⟩, by simp only; decide, hA, hB⟩ hk, (by first | omega | (simp only; omega))⟩, rfl⟩ (by simp +contextual -dsimp only [↓SD, SU, SB, Nat.reduceAdd, Nat.reduceBEq, Nat.reduceEqDiff, Nat.reduceLeDiff, Nat.reduceLT, Nat.reduceSub, ↓reduceIte, zA, zI, zN, reduceCtorEq, Int.reduceToNat, zE, Int.natCast_add, List.length_append]) (by simp +contextual -dsimp only [↓SD, SU, SB, Nat.reduceAdd, Nat.reduceBEq, Nat.reduceEqDiff, Nat.reduceLeDiff, Nat.reduceLT, Nat.reduceSub, ↓reduceIte, zA, zI, zN, reduceCtorEq, Int.reduceToNat, zE, List.map_append, av_Cell])⟩⟩
  · obtain rfl : k = m := by omega
    simp +contextual -dsimp (maxSteps := 2000000) only [↓SD, SU, SB, Nat.reduceAdd, Nat.reduceBEq, Nat.reduceEqDiff, Nat.reduceLeDiff, Nat.reduceLT, Nat.reduceSub, ↓reduceIte, zA, zI, zN, reduceCtorEq, Int.reduceToNat, zE, Int.reduceEq, Int.reduceLT, Int.reduceLE, Int.reduceNeg, Int.reduceAdd, Int.reduceSub, curB_frz, false_and, and_false, hlt]
    intro u2
    (refine aCallH_of [2000] (l01Below_ok c v _ _ hk (4) (by omega)) (by simp +contextual -dsimp only [↓SD, SU, SB, Nat.reduceAdd, Nat.reduceBEq, Nat.reduceEqDiff, Nat.reduceLeDiff, Nat.reduceLT, Nat.reduceSub, ↓reduceIte, zA, zI, zN, reduceCtorEq, Int.reduceToNat, zE]) ?_; clear hk; rintro r hp' ⟨n, i, h, rfl, hn, hk, rfl⟩)
    obtain ⟨n0', n1'⟩ := hn.in (by omega)
    simp +contextual -dsimp (maxSteps := 2000000) only [↓SD, SU, SB, Nat.reduceAdd, Nat.reduceBEq, Nat.reduceEqDiff, Nat.reduceLeDiff, Nat.reduceLT, Nat.reduceSub, ↓reduceIte, zA, zI, zN, reduceCtorEq, Int.reduceToNat, zE, Int.reduceEq, Int.reduceLT, Int.reduceLE, Int.reduceNeg, Int.reduceAdd, Int.reduceSub, curB_frz, false_and, and_false]
    obtain ⟨z, rfl⟩ : ∃ z : Nat, n = z := ⟨n.toNat, by omega⟩
    refine aLoop_of (X := DrR) (fun x => ⟨[(0, .ptr 2000 v 0 0), (4, .row 10 u l.length), (5, .int .i64 k), (8, .row 61 x.u x.r.length), (9, .int .i64 x.k)], [(10, ⟨u, false, 43, 9, l.map av⟩), (61, ⟨x.u, false, 35, 3, x.r.map av⟩), (2000, curB c v x.i x.h)]⟩) (fun x => x.k + x.r.length ≤ 4 ∧ (∀ y ∈ x.r, ValD y) ∧ CurOk c x.i x.h) (fun x => x.k) ⟨z, u2, [], i, h⟩ ⟨by simp only [List.length_nil]; omega, by simp, hk⟩ (by simp +contextual -dsimp only [↓SD, SU, SB, Nat.reduceAdd, Nat.reduceBEq, Nat.reduceEqDiff, Nat.reduceLeDiff, Nat.reduceLT, Nat.reduceSub, ↓reduceIte, zA, zI, zN, reduceCtorEq, Int.reduceToNat, zE]) (by simp +contextual -dsimp only [↓SD, SU, SB, Nat.reduceAdd, Nat.reduceBEq, Nat.reduceEqDiff, Nat.reduceLeDiff, Nat.reduceLT, Nat.reduceSub, ↓reduceIte, zA, zI, zN, reduceCtorEq, Int.reduceToNat, zE]) ?_
    clear hk hn i h
    rintro ⟨j, u2, r, i, h⟩ ⟨hjm, hR, hk⟩
    dsimp only at hjm hR hk ⊢
    have hr : List.take r.length (r.map (av : Val → AV)) = r.map av := List.take_of_length_le (by simp)
    by_cases hj : (0 : Int) < j
    · simp +contextual -dsimp (maxSteps := 2000000) only [↓SD, SU, SB, Nat.reduceAdd, Nat.reduceBEq, Nat.reduceEqDiff, Nat.reduceLeDiff, Nat.reduceLT, Nat.reduceSub, ↓reduceIte, zA, zI, zN, reduceCtorEq, Int.reduceToNat, zE, Int.reduceEq, Int.reduceLT, Int.reduceLE, Int.reduceNeg, Int.reduceAdd, Int.reduceSub, curB_frz, false_and, and_false, hj]
      refine aCallH_of [2000] (l11DrawVal_ok c v i h hk k (by omega) (by omega)) (by simp +contextual -dsimp only [↓SD, SU, SB, Nat.reduceAdd, Nat.reduceBEq, Nat.reduceEqDiff, Nat.reduceLeDiff, Nat.reduceLT, Nat.reduceSub, ↓reduceIte, zA, zI, zN, reduceCtorEq, Int.reduceToNat, zE]) ?_
      clear hk
      rintro r' hp' ⟨⟨bk, bn, sb⟩, i, h, rfl, hB, hk, rfl⟩
      simp +contextual -dsimp (maxSteps := 2000000) only [↓SD, SU, SB, Nat.reduceAdd, Nat.reduceBEq, Nat.reduceEqDiff, Nat.reduceLeDiff, Nat.reduceLT, Nat.reduceSub, ↓reduceIte, zA, zI, zN, reduceCtorEq, Int.reduceToNat, zE, Int.reduceEq, Int.reduceLT, Int.reduceLE, Int.reduceNeg, Int.reduceAdd, Int.reduceSub, curB_frz, false_and, and_false, av_Val, map_len, hr, Nat.le_refl]
      exact ⟨⟨by omega, by unfold maxLen; omega⟩, fun v' => ⟨by omega, Goes.le ⟨⟨j - 1, v', r ++ [⟨bk, bn, sb⟩], i, h⟩, ⟨⟨by simp only [List.length_append, List.length_cons, List.length_nil]; omega, vals_snoc hR hB, hk⟩, by simp only; omega⟩, rfl⟩ (by simp +contextual -dsimp only [↓SD, SU, SB, Nat.reduceAdd, Nat.reduceBEq, Nat.reduceEqDiff, Nat.reduceLeDiff, Nat.reduceLT, Nat.reduceSub, ↓reduceIte, zA, zI, zN, reduceCtorEq, Int.reduceToNat, zE, List.length_append, Int.ofNat_sub (show 1 ≤ j by omega)]) (by simp +contextual -dsimp only [↓SD, SU, SB, Nat.reduceAdd, Nat.reduceBEq, Nat.reduceEqDiff, Nat.reduceLeDiff, Nat.reduceLT, Nat.reduceSub, ↓reduceIte, zA, zI, zN, reduceCtorEq, Int.reduceToNat, zE, List.map_append, av_Val])⟩⟩
    · simp +contextual -dsimp (maxSteps := 2000000) only [↓SD, SU, SB, Nat.reduceAdd, Nat.reduceBEq, Nat.reduceEqDiff, Nat.reduceLeDiff, Nat.reduceLT, Nat.reduceSub, ↓reduceIte, zA, zI, zN, reduceCtorEq, Int.reduceToNat, zE, Int.reduceEq, Int.reduceLT, Int.reduceLE, Int.reduceNeg, Int.reduceAdd, Int.reduceSub, curB_frz, false_and, and_false, hj]
      refine Goes.post [(10, ⟨u, false, 43, 9, l.map av⟩), (61, ⟨u2, false, 35, 3, r.map av⟩), (2000, curB c v i h)] ?_
      simp +contextual -dsimp (maxSteps := 2000000) only [↓SD, SU, SB, Nat.reduceAdd, Nat.reduceBEq, Nat.reduceEqDiff, Nat.reduceLeDiff, Nat.reduceLT, Nat.reduceSub, ↓reduceIte, zA, zI, zN, reduceCtorEq, Int.reduceToNat, zE]
      exact ⟨l, r, u, u2, i, h, rfl, ⟨by omega, hD⟩, ⟨by omega, hR⟩, hk, rfl⟩
theorem cells_set {l : List Cell} (hD : ∀ y ∈ l, CellD y) {j : Nat} {x : Cell} (hx : CellD x) : ∀ y ∈ l.set j x, CellD y := by
  intro y hy
  rcases List.mem_or_eq_of_mem_set hy with h | h
  · exact hD y h
  · subst h; exact hx
theorem three_D : ValD ⟨3, 0, bs []⟩ := ⟨⟨by decide, by decide⟩, by decide⟩
theorem vals_app {l : List Val} {x : Val} (hD : ∀ y ∈ l, ValD y) (hx : ValD x) : ∀ y ∈ l ++ [x], ValD y := fun y hy => by
  rcases List.mem_append.1 hy with h | h
  · exact hD y h
  · simp at h; subst h; exact hx
theorem l11Any_ok (c : List UInt8) (v i : Nat) (h : Int) (hk : CurOk c i h) : CallsH Try.prog 16 [.ptr 2000 v 0 0] [(2000, curB c v i h)] (HeapPost c v 5) := by
  refine funH_spec_l11Any rfl ?_
  simp +contextual -dsimp (maxSteps := 2000000) only [↓SD, SU, SB, Nat.reduceAdd, Nat.reduceBEq, Nat.reduceEqDiff, Nat.reduceLeDiff, Nat.reduceLT, Nat.reduceSub, ↓reduceIte, zA, zI, zN, reduceCtorEq, Int.reduceToNat, zE, Int.reduceEq, Int.reduceLT, Int.reduceLE, Int.reduceNeg, Int.reduceAdd, Int.reduceSub, curB_frz, false_and, and_false, ir_spec_l11Any, rs_spec_l11Any]
  refine aCallH_of [2000] (l11Draw_ok c v i h hk) (by simp +contextual -dsimp only [↓SD, SU, SB, Nat.reduceAdd, Nat.reduceBEq, Nat.reduceEqDiff, Nat.reduceLeDiff, Nat.reduceLT, Nat.reduceSub, ↓reduceIte, zA, zI, zN, reduceCtorEq, Int.reduceToNat, zE]) ?_
  clear hk
  rintro r hp' ⟨l, r, u1, u2, i, h, rfl, ⟨hl, hD⟩, ⟨hr, hR⟩, hk, rfl⟩
  have hr' : List.take r.length (r.map (av : Val → AV)) = r.map av := List.take_of_length_le (by simp)
  simp +contextual -dsimp (maxSteps := 2000000) only [↓SD, SU, SB, Nat.reduceAdd, Nat.reduceBEq, Nat.reduceEqDiff, Nat.reduceLeDiff, Nat.reduceLT, Nat.reduceSub, ↓reduceIte, zA, zI, zN, reduceCtorEq, Int.reduceToNat, zE, Int.reduceEq, Int.reduceLT, Int.reduceLE, Int.reduceNeg, Int.reduceAdd, Int.reduceSub, curB_frz, false_and, and_false]
  (refine aCallH_of [2000] (l01Below_ok c v _ _ hk (14) (by omega)) (by simp +contextual -dsimp only [↓SD, SU, SB, Nat.reduceAdd, Nat.reduceBEq, Nat.reduceEqDiff, Nat.reduceLeDiff, Nat.reduceLT, Nat.reduceSub, ↓reduceIte, zA, zI, zN, reduceCtorEq, Int.reduceToNat, zE]) ?_; clear hk; rintro r hp' ⟨q, i, h, rfl, hq, hk, rfl⟩)
  obtain ⟨q0, q1⟩ := hq.in (by omega)
  by_cases a0 : q = 0
  · subst a0
    cases l with
    | nil =>
      simp +contextual -dsimp (maxSteps := 2000000) only [↓SD, SU, SB, Nat.reduceAdd, Nat.reduceBEq, Nat.reduceEqDiff, Nat.reduceLeDiff, Nat.reduceLT, Nat.reduceSub, ↓reduceIte, zA, zI, zN, reduceCtorEq, Int.reduceToNat, zE, Int.reduceEq, Int.reduceLT, Int.reduceLE, Int.reduceNeg, Int.reduceAdd, Int.reduceSub, curB_frz, false_and, and_false]
      refine Goes.post [(10, ⟨u1, false, 43, 9, []⟩), (61, ⟨u2, false, 35, 3, r.map av⟩), (2000, curB c v i h)] ?_
      simp +contextual -dsimp (maxSteps := 2000000) only [↓SD, SU, SB, Nat.reduceAdd, Nat.reduceBEq, Nat.reduceEqDiff, Nat.reduceLeDiff, Nat.reduceLT, Nat.reduceSub, ↓reduceIte, zA, zI, zN, reduceCtorEq, Int.reduceToNat, zE]
      exact ⟨[], r, u1, u2, i, h, rfl, ⟨by simp, by simp⟩, ⟨by omega, hR⟩, hk, rfl⟩
    | cons x l =>
      have hp : (0 : Int) < (l.length : Int) + 1 := by omega
      simp +contextual -dsimp (maxSteps := 2000000) only [↓SD, SU, SB, Nat.reduceAdd, Nat.reduceBEq, Nat.reduceEqDiff, Nat.reduceLeDiff, Nat.reduceLT, Nat.reduceSub, ↓reduceIte, zA, zI, zN, reduceCtorEq, Int.reduceToNat, zE, Int.reduceEq, Int.reduceLT, Int.reduceLE, Int.reduceNeg, Int.reduceAdd, Int.reduceSub, curB_frz, false_and, and_false, Int.natCast_add, hp]
      (refine aCallH_of [2000] (l01Below_ok c v _ _ hk (9) (by omega)) (by simp +contextual -dsimp only [↓SD, SU, SB, Nat.reduceAdd, Nat.reduceBEq, Nat.reduceEqDiff, Nat.reduceLeDiff, Nat.reduceLT, Nat.reduceSub, ↓reduceIte, zA, zI, zN, reduceCtorEq, Int.reduceToNat, zE]) ?_; clear hk; rintro r hp' ⟨y, i, h, rfl, hy, hk, rfl⟩)
      obtain ⟨y0, y1⟩ := hy.in (by omega)
      simp +contextual -dsimp (maxSteps := 2000000) only [↓SD, SU, SB, Nat.reduceAdd, Nat.reduceBEq, Nat.reduceEqDiff, Nat.reduceLeDiff, Nat.reduceLT, Nat.reduceSub, ↓reduceIte, zA, zI, zN, reduceCtorEq, Int.reduceToNat, zE, Int.reduceEq, Int.reduceLT, Int.reduceLE, Int.reduceNeg, Int.reduceAdd, Int.reduceSub, curB_frz, false_and, and_false]
      refine aCallH_of [2000] (l01Raw_ok c v i h hk) (by simp +contextual -dsimp only [↓SD, SU, SB, Nat.reduceAdd, Nat.reduceBEq, Nat.reduceEqDiff, Nat.reduceLeDiff, Nat.reduceLT, Nat.reduceSub, ↓reduceIte, zA, zI, zN, reduceCtorEq, Int.reduceToNat, zE]) ?_
      clear hk
      rintro r' hp' ⟨z, i, h, rfl, hz, hk, rfl⟩
      simp +contextual -dsimp (maxSteps := 2000000) only [↓SD, SU, SB, Nat.reduceAdd, Nat.reduceBEq, Nat.reduceEqDiff, Nat.reduceLeDiff, Nat.reduceLT, Nat.reduceSub, ↓reduceIte, zA, zI, zN, reduceCtorEq, Int.reduceToNat, zE, Int.reduceEq, Int.reduceLT, Int.reduceLE, Int.reduceNeg, Int.reduceAdd, Int.reduceSub, curB_frz, false_and, and_false, Int.natCast_add, hp, av_Cell]
      refine ⟨by omega, ?_⟩
      have hx := hD x (by simp)
      refine Goes.post [(10, ⟨u1, false, 43, 9, ((⟨x.kind, x.n, x.s, ⟨y, z, bs []⟩, x.b⟩ : Cell) :: l).map av⟩), (61, ⟨u2, false, 35, 3, r.map av⟩), (2000, curB c v i h)] ?_
      simp +contextual -dsimp (maxSteps := 2000000) only [↓SD, SU, SB, Nat.reduceAdd, Nat.reduceBEq, Nat.reduceEqDiff, Nat.reduceLeDiff, Nat.reduceLT, Nat.reduceSub, ↓reduceIte, zA, zI, zN, reduceCtorEq, Int.reduceToNat, zE, Int.natCast_add, av_Cell]
      refine ⟨⟨x.kind, x.n, x.s, ⟨y, z, bs []⟩, x.b⟩ :: l, r, u1, u2, i, h, rfl, ⟨hl, fun w hw => ?_⟩, ⟨by omega, hR⟩, hk, rfl⟩
      rcases List.mem_cons.1 hw with rfl | hw
      · exact ⟨hx.1, hx.2.1, ⟨hz, by simp only; decide⟩, hx.2.2.2⟩
      · exact hD w (by simp [hw])
  by_cases a1 : q = 1
  · subst a1
    cases l with
    | nil =>
      simp +contextual -dsimp (maxSteps := 2000000) only [↓SD, SU, SB, Nat.reduceAdd, Nat.reduceBEq, Nat.reduceEqDiff, Nat.reduceLeDiff, Nat.reduceLT, Nat.reduceSub, ↓reduceIte, zA, zI, zN, reduceCtorEq, Int.reduceToNat, zE, Int.reduceEq, Int.reduceLT, Int.reduceLE, Int.reduceNeg, Int.reduceAdd, Int.reduceSub, curB_frz, false_and, and_false]
      refine Goes.post [(10, ⟨u1, false, 43, 9, []⟩), (61, ⟨u2, false, 35, 3, r.map av⟩), (2000, curB c v i h)] ?_
      simp +contextual -dsimp (maxSteps := 2000000) only [↓SD, SU, SB, Nat.reduceAdd, Nat.reduceBEq, Nat.reduceEqDiff, Nat.reduceLeDiff, Nat.reduceLT, Nat.reduceSub, ↓reduceIte, zA, zI, zN, reduceCtorEq, Int.reduceToNat, zE]
      exact ⟨[], r, u1, u2, i, h, rfl, ⟨by simp, by simp⟩, ⟨by omega, hR⟩, hk, rfl⟩
    | cons x l =>
      have hp : (0 : Int) < (l.length : Int) + 1 := by omega
      simp +contextual -dsimp (maxSteps := 2000000) only [↓SD, SU, SB, Nat.reduceAdd, Nat.reduceBEq, Nat.reduceEqDiff, Nat.reduceLeDiff, Nat.reduceLT, Nat.reduceSub, ↓reduceIte, zA, zI, zN, reduceCtorEq, Int.reduceToNat, zE, Int.reduceEq, Int.reduceLT, Int.reduceLE, Int.reduceNeg, Int.reduceAdd, Int.reduceSub, curB_frz, false_and, and_false, Int.natCast_add, hp]
      (refine aCallH_of [2000] (l01Below_ok c v _ _ hk (9) (by omega)) (by simp +contextual -dsimp only [↓SD, SU, SB, Nat.reduceAdd, Nat.reduceBEq, Nat.reduceEqDiff, Nat.reduceLeDiff, Nat.reduceLT, Nat.reduceSub, ↓reduceIte, zA, zI, zN, reduceCtorEq, Int.reduceToNat, zE]) ?_; clear hk; rintro r hp' ⟨y, i, h, rfl, hy, hk, rfl⟩)
      obtain ⟨y0, y1⟩ := hy.in (by omega)
      simp +contextual -dsimp (maxSteps := 2000000) only [↓SD, SU, SB, Nat.reduceAdd, Nat.reduceBEq, Nat.reduceEqDiff, Nat.reduceLeDiff, Nat.reduceLT, Nat.reduceSub, ↓reduceIte, zA, zI, zN, reduceCtorEq, Int.reduceToNat, zE, Int.reduceEq, Int.reduceLT, Int.reduceLE, Int.reduceNeg, Int.reduceAdd, Int.reduceSub, curB_frz, false_and, and_false, Int.natCast_add, hp, av_Cell]
      refine ⟨by omega, by omega, ?_⟩
      have hx := hD x (by simp)
      refine Goes.post [(10, ⟨u1, false, 43, 9, ((⟨y - 1, x.n, x.s, x.a, x.b⟩ : Cell) :: l).map av⟩), (61, ⟨u2, false, 35, 3, r.map av⟩), (2000, curB c v i h)] ?_
      simp +contextual -dsimp (maxSteps := 2000000) only [↓SD, SU, SB, Nat.reduceAdd, Nat.reduceBEq, Nat.reduceEqDiff, Nat.reduceLeDiff, Nat.reduceLT, Nat.reduceSub, ↓reduceIte, zA, zI, zN, reduceCtorEq, Int.reduceToNat, zE, Int.natCast_add, av_Cell]
      refine ⟨⟨y - 1, x.n, x.s, x.a, x.b⟩ :: l, r, u1, u2, i, h, rfl, ⟨hl, fun w hw => ?_⟩, ⟨by omega, hR⟩, hk, rfl⟩
      rcases List.mem_cons.1 hw with rfl | hw
      · exact hx
      · exact hD w (by simp [hw])
  by_cases a2 : q = 2
  · subst a2
    simp +contextual -dsimp (maxSteps := 2000000) only [↓SD, SU, SB, Nat.reduceAdd, Nat.reduceBEq, Nat.reduceEqDiff, Nat.reduceLeDiff, Nat.reduceLT, Nat.reduceSub, ↓reduceIte, zA, zI, zN, reduceCtorEq, Int.reduceToNat, zE, Int.reduceEq, Int.reduceLT, Int.reduceLE, Int.reduceNeg, Int.reduceAdd, Int.reduceSub, curB_frz, false_and, and_false, map_len, hr', Nat.le_refl]
    refine ⟨⟨by omega, by unfold maxLen; omega⟩, fun v' => ?_⟩
    refine Goes.post [(10, ⟨u1, false, 43, 9, l.map av⟩), (61, ⟨v', false, 35, 3, (r ++ [(⟨6, l.length, bs []⟩ : Val)]).map av⟩), (2000, curB c v i h)] ?_
    simp +contextual -dsimp (maxSteps := 2000000) only [↓SD, SU, SB, Nat.reduceAdd, Nat.reduceBEq, Nat.reduceEqDiff, Nat.reduceLeDiff, Nat.reduceLT, Nat.reduceSub, ↓reduceIte, zA, zI, zN, reduceCtorEq, Int.reduceToNat, zE, List.map_append, av_Val]
    exact ⟨l, r ++ [⟨6, l.length, bs []⟩], u1, v', i, h, (by simp), ⟨hl, hD⟩, ⟨by simp only [List.length_append, List.length_cons, List.length_nil]; omega, vals_app hR ⟨⟨by simp only; omega, by simp only; omega⟩, by simp only; decide⟩⟩, hk, (by simp [av_Val])⟩
  by_cases a3 : q = 3
  · subst a3
    by_cases hp : 0 < l.length
    · have e := getD_map (av : Cell → AV) l (l.length - 1) .top (by omega)
      have hp' : (0 : Int) < l.length := by omega
      have ei : ((l.length : Int) - 1).toNat = l.length - 1 := by omega
      have hx := hD (l[l.length - 1]'(by omega)) (List.getElem_mem _)
      generalize (l[l.length - 1]'(by omega)) = x at e hx
      simp +contextual -dsimp (maxSteps := 2000000) only [↓SD, SU, SB, Nat.reduceAdd, Nat.reduceBEq, Nat.reduceEqDiff, Nat.reduceLeDiff, Nat.reduceLT, Nat.reduceSub, ↓reduceIte, zA, zI, zN, reduceCtorEq, Int.reduceToNat, zE, Int.reduceEq, Int.reduceLT, Int.reduceLE, Int.reduceNeg, Int.reduceAdd, Int.reduceSub, curB_frz, false_and, and_false, map_len, hp', ei, e, av_Cell]
      (repeat' (first | intro _ | refine And.intro ?_ ?_))
      all_goals first | omega | skip
      refine Goes.post [(10, ⟨u1, false, 43, 9, (l.set (l.length - 1) (⟨x.kind, x.n, x.s, x.a, ⟨3, 0, bs []⟩⟩ : Cell)).map av⟩), (61, ⟨u2, false, 35, 3, r.map av⟩), (2000, curB c v i h)] ?_
      simp +contextual -dsimp (maxSteps := 2000000) only [↓SD, SU, SB, Nat.reduceAdd, Nat.reduceBEq, Nat.reduceEqDiff, Nat.reduceLeDiff, Nat.reduceLT, Nat.reduceSub, ↓reduceIte, zA, zI, zN, reduceCtorEq, Int.reduceToNat, zE, List.map_set, av_Cell]
      exact ⟨l.set (l.length - 1) ⟨x.kind, x.n, x.s, x.a, ⟨3, 0, bs []⟩⟩, r, u1, u2, i, h, (by simp), ⟨by simpa using hl, cells_set hD ⟨hx.1, hx.2.1, hx.2.2.1, three_D⟩⟩, ⟨by omega, hR⟩, hk, (by simp [av_Cell, List.map_set])⟩
    · have hp' : ¬ (0 : Int) < l.length := by omega
      simp +contextual -dsimp (maxSteps := 2000000) only [↓SD, SU, SB, Nat.reduceAdd, Nat.reduceBEq, Nat.reduceEqDiff, Nat.reduceLeDiff, Nat.reduceLT, Nat.reduceSub, ↓reduceIte, zA, zI, zN, reduceCtorEq, Int.reduceToNat, zE, Int.reduceEq, Int.reduceLT, Int.reduceLE, Int.reduceNeg, Int.reduceAdd, Int.reduceSub, curB_frz, false_and, and_false, map_len, hp']
      refine Goes.post [(10, ⟨u1, false, 43, 9, l.map av⟩), (61, ⟨u2, false, 35, 3, r.map av⟩), (2000, curB c v i h)] ?_
      simp +contextual -dsimp (maxSteps := 2000000) only [↓SD, SU, SB, Nat.reduceAdd, Nat.reduceBEq, Nat.reduceEqDiff, Nat.reduceLeDiff, Nat.reduceLT, Nat.reduceSub, ↓reduceIte, zA, zI, zN, reduceCtorEq, Int.reduceToNat, zE]
      exact ⟨l, r, u1, u2, i, h, rfl, ⟨hl, hD⟩, ⟨by omega, hR⟩, hk, rfl⟩
  simp +contextual -dsimp (maxSteps := 2000000) only [↓SD, SU, SB, Nat.reduceAdd, Nat.reduceBEq, Nat.reduceEqDiff, Nat.reduceLeDiff, Nat.reduceLT, Nat.reduceSub, ↓reduceIte, zA, zI, zN, reduceCtorEq, Int.reduceToNat, zE, Int.reduceEq, Int.reduceLT, Int.reduceLE, Int.reduceNeg, Int.reduceAdd, Int.reduceSub, curB_frz, false_and, and_false, a0, a1, a2, a3]
  refine Goes.post [(10, ⟨u1, false, 43, 9, l.map av⟩), (61, ⟨u2, false, 35, 3, r.map av⟩), (2000, curB c v i h)] ?_
  simp +contextual -dsimp (maxSteps := 2000000) only [↓SD, SU, SB, Nat.reduceAdd, Nat.reduceBEq, Nat.reduceEqDiff, Nat.reduceLeDiff, Nat.reduceLT, Nat.reduceSub, ↓reduceIte, zA, zI, zN, reduceCtorEq, Int.reduceToNat, zE]
  exact ⟨l, r, u1, u2, i, h, rfl, ⟨hl, hD⟩, ⟨by omega, hR⟩, hk, rfl⟩
/-- the heap that a law draws -/
def DrawnPost (r : AV) (hp' : Hp) : Prop := ∃ (l : List Cell) (rs : List Val) (u1 u2 : Nat), r = .tup [.row 10 u1 l.length, .row 61 u2 rs.length] ∧ (l.length ≤ 12 ∧ ∀ x ∈ l, CellD x) ∧ (rs.length ≤ 5 ∧ ∀ x ∈ rs, ValD x) ∧
  hp' = [(10, ⟨u1, false, 43, 9, l.map av⟩), (61, ⟨u2, false, 35, 3, rs.map av⟩)]
theorem DrawSweep_ok (c : List UInt8) (hc : c.length ≤ 1048576) : CallsH Try.prog 5 [.sl (c.map av)] [] DrawnPost := by
  refine funH_spec_DrawSweep rfl ?_
  simp +contextual -dsimp (maxSteps := 2000000) only [↓SD, SU, SB, Nat.reduceAdd, Nat.reduceBEq, Nat.reduceEqDiff, Nat.reduceLeDiff, Nat.reduceLT, Nat.reduceSub, ↓reduceIte, zA, zI, zN, reduceCtorEq, Int.reduceToNat, zE, Int.reduceEq, Int.reduceLT, Int.reduceLE, Int.reduceNeg, Int.reduceAdd, Int.reduceSub, curB_frz, false_and, and_false, ir_spec_DrawSweep, rs_spec_DrawSweep]
  refine aCallH_of [] (l01New_ok c hc) (by simp +contextual -dsimp only [↓SD, SU, SB, Nat.reduceAdd, Nat.reduceBEq, Nat.reduceEqDiff, Nat.reduceLeDiff, Nat.reduceLT, Nat.reduceSub, ↓reduceIte, zA, zI, zN, reduceCtorEq, Int.reduceToNat, zE]) ?_
  rintro r hp' ⟨v, i, h, rfl, hk, rfl⟩
  simp +contextual -dsimp (maxSteps := 2000000) only [↓SD, SU, SB, Nat.reduceAdd, Nat.reduceBEq, Nat.reduceEqDiff, Nat.reduceLeDiff, Nat.reduceLT, Nat.reduceSub, ↓reduceIte, zA, zI, zN, reduceCtorEq, Int.reduceToNat, zE, Int.reduceEq, Int.reduceLT, Int.reduceLE, Int.reduceNeg, Int.reduceAdd, Int.reduceSub, curB_frz, false_and, and_false]
  refine aCallH_of [2000] (l11Any_ok c v i h hk) (by simp +contextual -dsimp only [↓SD, SU, SB, Nat.reduceAdd, Nat.reduceBEq, Nat.reduceEqDiff, Nat.reduceLeDiff, Nat.reduceLT, Nat.reduceSub, ↓reduceIte, zA, zI, zN, reduceCtorEq, Int.reduceToNat, zE]) ?_
  rintro r hp' ⟨l, r, u1, u2, i, h, rfl, ⟨hl, hD⟩, ⟨hr, hR⟩, hk, rfl⟩
  simp +contextual -dsimp (maxSteps := 2000000) only [↓SD, SU, SB, Nat.reduceAdd, Nat.reduceBEq, Nat.reduceEqDiff, Nat.reduceLeDiff, Nat.reduceLT, Nat.reduceSub, ↓reduceIte, zA, zI, zN, reduceCtorEq, Int.reduceToNat, zE, Int.reduceEq, Int.reduceLT, Int.reduceLE, Int.reduceNeg, Int.reduceAdd, Int.reduceSub, curB_frz, false_and, and_false]
  refine Goes.post [(10, ⟨u1, false, 43, 9, l.map av⟩), (61, ⟨u2, false, 35, 3, r.map av⟩)] ?_
  simp +contextual -dsimp (maxSteps := 2000000) only [↓SD, SU, SB, Nat.reduceAdd, Nat.reduceBEq, Nat.reduceEqDiff, Nat.reduceLeDiff, Nat.reduceLT, Nat.reduceSub, ↓reduceIte, zA, zI, zN, reduceCtorEq, Int.reduceToNat, zE]
  exact ⟨l, r, u1, u2, rfl, ⟨hl, hD⟩, ⟨hr, hR⟩, rfl⟩
theorem DrawCopy_ok (c : List UInt8) (hc : c.length ≤ 1048576) : CallsH Try.prog 12 [.sl (c.map av)] [] DrawnPost := by
  refine funH_spec_DrawCopy rfl ?_
  simp +contextual -dsimp (maxSteps := 2000000) only [↓SD, SU, SB, Nat.reduceAdd, Nat.reduceBEq, Nat.reduceEqDiff, Nat.reduceLeDiff, Nat.reduceLT, Nat.reduceSub, ↓reduceIte, zA, zI, zN, reduceCtorEq, Int.reduceToNat, zE, Int.reduceEq, Int.reduceLT, Int.reduceLE, Int.reduceNeg, Int.reduceAdd, Int.reduceSub, curB_frz, false_and, and_false, ir_spec_DrawCopy, rs_spec_DrawCopy]
  refine aCallH_of [] (l01New_ok c hc) (by simp +contextual -dsimp only [↓SD, SU, SB, Nat.reduceAdd, Nat.reduceBEq, Nat.reduceEqDiff, Nat.reduceLeDiff, Nat.reduceLT, Nat.reduceSub, ↓reduceIte, zA, zI, zN, reduceCtorEq, Int.reduceToNat, zE]) ?_
  rintro r hp' ⟨v, i, h, rfl, hk, rfl⟩
  simp +contextual -dsimp (maxSteps := 2000000) only [↓SD, SU, SB, Nat.reduceAdd, Nat.reduceBEq, Nat.reduceEqDiff, Nat.reduceLeDiff, Nat.reduceLT, Nat.reduceSub, ↓reduceIte, zA, zI, zN, reduceCtorEq, Int.reduceToNat, zE, Int.reduceEq, Int.reduceLT, Int.reduceLE, Int.reduceNeg, Int.reduceAdd, Int.reduceSub, curB_frz, false_and, and_false]
  refine aCallH_of [2000] (l11Any_ok c v i h hk) (by simp +contextual -dsimp only [↓SD, SU, SB, Nat.reduceAdd, Nat.reduceBEq, Nat.reduceEqDiff, Nat.reduceLeDiff, Nat.reduceLT, Nat.reduceSub, ↓reduceIte, zA, zI, zN, reduceCtorEq, Int.reduceToNat, zE]) ?_
  rintro r hp' ⟨l, r, u1, u2, i, h, rfl, ⟨hl, hD⟩, ⟨hr, hR⟩, hk, rfl⟩
  simp +contextual -dsimp (maxSteps := 2000000) only [↓SD, SU, SB, Nat.reduceAdd, Nat.reduceBEq, Nat.reduceEqDiff, Nat.reduceLeDiff, Nat.reduceLT, Nat.reduceSub, ↓reduceIte, zA, zI, zN, reduceCtorEq, Int.reduceToNat, zE, Int.reduceEq, Int.reduceLT, Int.reduceLE, Int.reduceNeg, Int.reduceAdd, Int.reduceSub, curB_frz, false_and, and_false]
  refine Goes.post [(10, ⟨u1, false, 43, 9, l.map av⟩), (61, ⟨u2, false, 35, 3, r.map av⟩)] ?_
  simp +contextual -dsimp (maxSteps := 2000000) only [↓SD, SU, SB, Nat.reduceAdd, Nat.reduceBEq, Nat.reduceEqDiff, Nat.reduceLeDiff, Nat.reduceLT, Nat.reduceSub, ↓reduceIte, zA, zI, zN, reduceCtorEq, Int.reduceToNat, zE]
  exact ⟨l, r, u1, u2, rfl, ⟨hl, hD⟩, ⟨hr, hR⟩, rfl⟩
end Go.Proofs.Ytpignflebknagaa
