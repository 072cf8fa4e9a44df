/-
 THE READER OF THE REFERENCE, told weakly: it stays within its tokens; what it only looks at is told exactly. Conditions: none.
-/
import Derived.Test.YtoffpbehgncakaaGreatKLexW
import Derived.Test.YtoffpbehgncakaaGreatKJ19
import Derived.Test.YtoffpbehgncakaaGreatKJ20
set_option linter.unusedVariables false
set_option linter.unusedSimpArgs false
set_option maxRecDepth 100000
namespace Go.Proofs.YtoffpbehgncakaaGreat
open Go.RowKit Go.Proofs.YtoffpbehgncakaaGreat.Av Go.Proofs.YtoffpbehgncakaaGreat.Ml
open Go.Proofs.YtoffpbehgncakaaGreat.Av.AVal (av)

structure RC where
 L : List EI
 E : Int
 m : Nat
 v : Nat
structure RS where
 i : Nat
 code : Int
 pos : Int
 vars : List Int
 seen : List ByteArray
 sv : Nat
def rdB (C : RC) (s : RS) : Hp := [(2100, ⟨C.v, false, 120, 7, [.agg [.sl (C.L.map av), .int .i64 s.i, .int .i64 C.E, .int .i64 s.code, .int .i64 s.pos, .sl (s.vars.map av), .row 2101 s.sv s.seen.length]]⟩), (2101, ⟨s.sv, false, 9, 1, s.seen.map av⟩)]
def RC.ok (C : RC) : Prop := C.L.length ≤ C.m ∧ (∀ t ∈ C.L, Aac C.m t) ∧ 0 ≤ C.E ∧ C.E ≤ C.m ∧ 2 ≤ C.m ∧ C.m ≤ 100000
def Bm (C : RC) (s : RS) : Prop := C.ok ∧ s.i ≤ C.L.length ∧ (0 ≤ s.code ∧ s.code ≤ 100) ∧ (0 ≤ s.pos ∧ s.pos ≤ C.m) ∧ s.vars.length ≤ 2 ∧ s.seen.length ≤ s.i ∧ ∀ x ∈ s.seen, x.size ≤ C.m
def RP (C : RC) (s : RS) (P : RS → AV → Prop) (r : AV) (hp' : Hp) : Prop := ∃ s', hp' = rdB C s' ∧ Bm C s' ∧ s.i ≤ s'.i ∧ (s'.code = 0 → s.code = 0) ∧ P s' r
def RK (C : RC) (s : RS) (x : AV) (r : AV) (hp' : Hp) : Prop := r = x ∧ hp' = rdB C s
def A6 (C : RC) (s : RS) : EI := if s.code = 0 then C.L.getD s.i ⟨0, 0, bs [], C.E⟩ else ⟨0, 0, bs [], C.E⟩
def Acm (m : Nat) (t : EI) : Prop := (0 ≤ t.kind ∧ t.kind ≤ 6) ∧ (-9000000000000000000 ≤ t.n ∧ t.n ≤ 9000000000000000000) ∧ t.s.size ≤ m ∧ 0 ≤ t.pos ∧ t.pos ≤ m
theorem Cw {C : RC} {s : RS} (h : Bm C s) : Acm C.m (A6 C s) ∧ ((A6 C s).kind ≠ 0 → s.i < C.L.length ∧ s.code = 0) := by
 obtain ⟨⟨c1, c2, c3, c4, c5⟩, h1, h2, h3, h4, h5, h6⟩ := h
 have e0 : (bs []).size = 0 := rfl
 have hz : Acm C.m ⟨0, 0, bs [], C.E⟩ := by
  refine ⟨⟨?_, ?_⟩, ⟨?_, ?_⟩, ?_, ?_, ?_⟩ <;> dsimp only <;> omega
 unfold A6
 split
 ·rename_i hc
  by_cases hi : s.i < C.L.length
  ·rw [List.getD_eq_getElem?_getD, List.getElem?_eq_getElem hi, Option.getD_some]
   have := c2 _ (List.getElem_mem hi)
   exact ⟨⟨⟨by have := this.1; omega, this.1.2⟩, this.2.1, this.2.2.1, this.2.2.2⟩, fun _ => ⟨hi, hc⟩⟩
  ·rw [List.getD_eq_getElem?_getD, List.getElem?_eq_none (by omega), Option.getD_none]
   exact ⟨hz, fun h => absurd rfl h⟩
 ·exact ⟨hz, fun h => absurd rfl h⟩
theorem Bz {C : RC} {s : RS} (h : Bm C s) {x : ByteArray} (hx : x ≠ bs []) (e : BF (A6 C s) = x) : s.i < C.L.length ∧ s.code = 0 := by
 refine (Cw h).2 fun h0 => hx ?_
 rw [← e, BF, h0, if_neg (by decide)]
theorem B4 (C : RC) (s : RS) (hs : Bm C s) (k : Int) (hk : 0 < k ∧ k ≤ 100) : AW Tryz.prog 82 [.ptr 2100 C.v 0 0, .int .i64 k] (rdB C s) (RP C s fun s' r => r = .tup [] ∧ s'.i = s.i ∧ s'.code ≠ 0) := by
 obtain ⟨⟨c1, c2, c3, c4, c5⟩, h1, h2, h3, h4, h5, h6⟩ := hs
 have hs : Bm C s := ⟨⟨c1, c2, c3, c4, c5⟩, h1, h2, h3, h4, h5, h6⟩
 refine DL.H rfl ?_
 unfold rdB
 by_cases hc : s.code = 0
 ·by_cases hi : s.i < C.L.length
  ·have e1 := getD_map av C.L s.i .top hi
   have ht := c2 _ (List.getElem_mem hi)
   generalize C.L[s.i] = t at *
   simp +contextual -dsimp only [↓SD, SU, simprocAttr, DL, Aa, Ab, hc, hi, e1, AY]
   refine Ai.post (rdB C { s with code := k, pos := t.pos }) ?_
   unfold rdB
   simp +contextual -dsimp only [↓SD, SU, simprocAttr, Ab]
   exact ⟨{ s with code := k, pos := t.pos }, rfl, ⟨⟨c1, c2, c3, c4, c5⟩, h1, by dsimp only; omega, ht.2.2.2, h4, h5, h6⟩, Nat.le_refl _, fun h => absurd h (by dsimp only; omega), rfl, rfl, by dsimp only; omega⟩
  ·simp +contextual -dsimp only [↓SD, SU, simprocAttr, DL, Aa, Ab, hc, hi]
   refine Ai.post (rdB C { s with code := k, pos := C.E }) ?_
   unfold rdB
   simp +contextual -dsimp only [↓SD, SU, simprocAttr, Ab]
   exact ⟨{ s with code := k, pos := C.E }, rfl, ⟨⟨c1, c2, c3, c4, c5⟩, h1, by dsimp only; omega, ⟨c3, c4⟩, h4, h5, h6⟩, Nat.le_refl _, fun h => absurd h (by dsimp only; omega), rfl, rfl, by dsimp only; omega⟩
 ·simp +contextual -dsimp only [↓SD, SU, simprocAttr, DL, Aa, Ab, hc]
  refine Ai.post (rdB C s) ?_
  unfold rdB
  simp +contextual -dsimp only [↓SD, SU, simprocAttr, Ab]
  exact ⟨s, rfl, hs, Nat.le_refl _, fun h => h, rfl, rfl, hc⟩
theorem Bm.small {C : RC} {s : RS} (h : Bm C s) : s.i ≤ 100000 ∧ C.L.length ≤ 100000 ∧ C.m ≤ 100000 := by
 obtain ⟨⟨c1, c2, c3, c4, c5⟩, h1, _⟩ := h
 omega
theorem Be (C : RC) (s : RS) (hs : Bm C s) : AW Tryz.prog 137 [.ptr 2100 C.v 0 0] (rdB C s) (RK C s (av (A6 C s))) := by
 refine Ew.H rfl ?_
 unfold A6 rdB
 by_cases hc : s.code = 0
 ·by_cases hi : s.i < C.L.length
  ·have hi2 : ¬ C.L.length ≤ s.i := by omega
   have e1 := getD_map av C.L s.i .top hi
   have e2 : C.L.getD s.i ⟨0, 0, bs [], C.E⟩ = C.L[s.i] := by rw [List.getD_eq_getElem?_getD, List.getElem?_eq_getElem hi, Option.getD_some]
   rw [e2]
   generalize C.L[s.i] = t at *
   simp +contextual -dsimp only [↓SD, SU, simprocAttr, Ew, Aa, Ab, hc, hi, hi2, e1, AY]
   intro v2
   refine Ai.post (rdB C s) ?_
   unfold rdB
   simp +contextual -dsimp only [↓SD, SU, simprocAttr, Ab, hc, RK, AY, rdB]
  ·have hi2 : C.L.length ≤ s.i := by omega
   have e2 : C.L.getD s.i ⟨0, 0, bs [], C.E⟩ = ⟨0, 0, bs [], C.E⟩ := by rw [List.getD_eq_getElem?_getD, List.getElem?_eq_none (by omega), Option.getD_none]
   rw [e2]
   simp +contextual -dsimp only [↓SD, SU, simprocAttr, Ew, Aa, Ab, hc, hi, hi2]
   intro v2
   refine Ai.post (rdB C s) ?_
   unfold rdB
   simp +contextual -dsimp only [↓SD, SU, simprocAttr, Ab, hc, RK, AY, rdB]
 ·simp +contextual -dsimp only [↓SD, SU, simprocAttr, Ew, Aa, Ab, hc]
  intro v2
  refine Ai.post (rdB C s) ?_
  unfold rdB
  simp +contextual -dsimp only [↓SD, SU, simprocAttr, Ab, hc, RK, AY, rdB]
theorem BP (C : RC) (s : RS) (hs : Bm C s) (x : ByteArray) : AW Tryz.prog 79 [.ptr 2100 C.v 0 0, .str x] (rdB C s) (RK C s (.bool (decide (BF (A6 C s) = x)))) := by
 refine Js.H rfl ?_
 simp +contextual -dsimp only [↓SD, SU, simprocAttr, rdB, Ab, Aa, Js]
 (refine Ad [2100, 2101] (Be C s hs) (by first | (simp +contextual -dsimp only [↓SD, SU, simprocAttr, rdB]; done) | (simp +contextual -dsimp only [↓SD, SU, simprocAttr, rdB, Af]; done) | (simp +contextual -dsimp only [↓SD, SU, simprocAttr, rdB, c0]; done)) ?_; rintro r hp' ⟨rfl, rfl⟩)
 simp +contextual -dsimp only [↓SD, SU, simprocAttr, rdB, Ab, Aa, AY]
 refine Ac _ (CM (A6 C s)) ?_
 simp +contextual -dsimp only [↓SD, SU, simprocAttr, rdB, Ab, Aa]
 refine Ai.post (rdB C s) ?_
 simp +contextual -dsimp only [↓SD, SU, simprocAttr, rdB, Ab, Aa, RK]
theorem A8 (C : RC) (s : RS) (hs : Bm C s) (x : ByteArray) (hx : x ≠ bs []) : AW Tryz.prog 139 [.ptr 2100 C.v 0 0, .str x] (rdB C s) (RP C s fun s' r => r = .tup [] ∧ (s'.code ≠ 0 ∨ s'.i = s.i + 1)) := by
 have CI := BP C s hs x
 have hat := Bz hs hx
 refine Ff.H rfl ?_
 by_cases h : BF (A6 C s) = x
 ·rw [decide_eq_true h] at CI
  obtain ⟨h1, h2⟩ := hat h
  have hsm := hs.small
  obtain ⟨g0, g1, g2, g3, g4, g5, g6⟩ := hs
  have e : (s.i : Int) + 1 = ((s.i + 1 : Nat) : Int) := by omega
  simp +contextual -dsimp only [↓SD, SU, simprocAttr, rdB, Ab, Aa, Ff]
  (refine Ad [2100, 2101] (CI) (by first | (simp +contextual -dsimp only [↓SD, SU, simprocAttr, rdB]; done) | (simp +contextual -dsimp only [↓SD, SU, simprocAttr, rdB, Af]; done) | (simp +contextual -dsimp only [↓SD, SU, simprocAttr, rdB, c0]; done)) ?_; rintro r hp' ⟨rfl, rfl⟩)
  simp +contextual -dsimp only [↓SD, SU, simprocAttr, rdB, Ab, Aa, e]
  refine ⟨by omega, ?_⟩
  refine Ai.post (rdB C { s with i := s.i + 1 }) ?_
  simp +contextual -dsimp only [↓SD, SU, simprocAttr, rdB, Ab, Aa]
  exact ⟨{ s with i := s.i + 1 }, rfl, ⟨g0, h1, g2, g3, g4, by dsimp only; omega, g6⟩, Nat.le_succ _, fun h => h, rfl, .inr rfl⟩
 ·rw [decide_eq_false h] at CI
  simp +contextual -dsimp only [↓SD, SU, simprocAttr, rdB, Ab, Aa, Ff]
  (refine Ad [2100, 2101] (CI) (by first | (simp +contextual -dsimp only [↓SD, SU, simprocAttr, rdB]; done) | (simp +contextual -dsimp only [↓SD, SU, simprocAttr, rdB, Af]; done) | (simp +contextual -dsimp only [↓SD, SU, simprocAttr, rdB, c0]; done)) ?_; rintro r hp' ⟨rfl, rfl⟩)
  simp +contextual -dsimp only [↓SD, SU, simprocAttr, rdB, Ab, Aa]
  (refine Ad [2100, 2101] (B4 C s hs 7 (by omega)) (by first | (simp +contextual -dsimp only [↓SD, SU, simprocAttr, rdB]; done) | (simp +contextual -dsimp only [↓SD, SU, simprocAttr, rdB, Af]; done) | (simp +contextual -dsimp only [↓SD, SU, simprocAttr, rdB, c0]; done)) ?_; rintro r hp' ⟨s', rfl, hs', hi, hc, rfl, hi', hc'⟩)
  simp +contextual -dsimp only [↓SD, SU, simprocAttr, rdB, Ab, Aa]
  refine Ai.post (rdB C s') ?_
  simp +contextual -dsimp only [↓SD, SU, simprocAttr, rdB, Ab, Aa]
  exact ⟨s', rfl, hs', hi, hc, rfl, .inl hc'⟩
def Abi (C : RC) (s : RS) (s' : RS) (r : AV) : Prop := ∃ x : ByteArray, r = .str x ∧ x.size ≤ C.m ∧ (s'.code ≠ 0 ∨ s'.i = s.i + 1)
theorem BX (C : RC) (s : RS) (hs : Bm C s) (k : Int) (hk : k ≠ 0) : AW Tryz.prog 140 [.ptr 2100 C.v 0 0, .int .i64 k] (rdB C s) (RP C s (Abi C s)) := by
 obtain ⟨ht, hat⟩ := Cw hs
 refine HE.H rfl ?_
 simp +contextual -dsimp only [↓SD, SU, simprocAttr, rdB, Ab, Aa, HE]
 (refine Ad [2100, 2101] (Be C s hs) (by first | (simp +contextual -dsimp only [↓SD, SU, simprocAttr, rdB]; done) | (simp +contextual -dsimp only [↓SD, SU, simprocAttr, rdB, Af]; done) | (simp +contextual -dsimp only [↓SD, SU, simprocAttr, rdB, c0]; done)) ?_; rintro r hp' ⟨rfl, rfl⟩)
 by_cases h : (A6 C s).kind = k
 ·obtain ⟨h1, h2⟩ := hat (by omega)
  have hsm := hs.small
  obtain ⟨g0, g1, g2, g3, g4, g5, g6⟩ := hs
  have e : (s.i : Int) + 1 = ((s.i + 1 : Nat) : Int) := by omega
  simp +contextual -dsimp only [↓SD, SU, simprocAttr, rdB, Ab, Aa, AY, h, e]
  intro v5
  refine ⟨by omega, ?_⟩
  refine Ai.post (rdB C { s with i := s.i + 1 }) ?_
  simp +contextual -dsimp only [↓SD, SU, simprocAttr, rdB, Ab, Aa]
  exact ⟨{ s with i := s.i + 1 }, rfl, ⟨g0, h1, g2, g3, g4, by dsimp only; omega, g6⟩, Nat.le_succ _, fun h => h, _, rfl, ht.2.2.1, .inr rfl⟩
 ·simp +contextual -dsimp only [↓SD, SU, simprocAttr, rdB, Ab, Aa, AY, h]
  intro v5
  (refine Ad [2100, 2101] (B4 C s hs 7 (by omega)) (by first | (simp +contextual -dsimp only [↓SD, SU, simprocAttr, rdB]; done) | (simp +contextual -dsimp only [↓SD, SU, simprocAttr, rdB, Af]; done) | (simp +contextual -dsimp only [↓SD, SU, simprocAttr, rdB, c0]; done)) ?_; rintro r hp' ⟨s', rfl, hs', hi, hc, rfl, hi', hc'⟩)
  simp +contextual -dsimp only [↓SD, SU, simprocAttr, rdB, Ab, Aa]
  refine Ai.post (rdB C s') ?_
  simp +contextual -dsimp only [↓SD, SU, simprocAttr, rdB, Ab, Aa]
  exact ⟨s', rfl, hs', hi, hc, bs [], rfl, Nat.zero_le _, .inl hc'⟩
def E5 (t : EI) : Bool := decide (t.kind = 3) || decide (BF t = bs [114, 101, 102])
theorem Kt (C : RC) (s : RS) (hs : Bm C s) : AW Tryz.prog 185 [.ptr 2100 C.v 0 0] (rdB C s) (RK C s (.bool (E5 (A6 C s)))) := by
 refine Ge.H rfl ?_
 unfold E5
 simp +contextual -dsimp only [↓SD, SU, simprocAttr, rdB, Ab, Aa, Ge]
 (refine Ad [2100, 2101] (Be C s hs) (by first | (simp +contextual -dsimp only [↓SD, SU, simprocAttr, rdB]; done) | (simp +contextual -dsimp only [↓SD, SU, simprocAttr, rdB, Af]; done) | (simp +contextual -dsimp only [↓SD, SU, simprocAttr, rdB, c0]; done)) ?_; rintro r hp' ⟨rfl, rfl⟩)
 by_cases h : (A6 C s).kind = 3
 ·simp +contextual -dsimp only [↓SD, SU, simprocAttr, rdB, Ab, Aa, AY, h]
  refine Ai.post (rdB C s) ?_
  simp +contextual -dsimp only [↓SD, SU, simprocAttr, rdB, Ab, Aa, RK, h]
 ·simp +contextual -dsimp only [↓SD, SU, simprocAttr, rdB, Ab, Aa, AY, h]
  (refine Ad [2100, 2101] (BP C s hs _) (by first | (simp +contextual -dsimp only [↓SD, SU, simprocAttr, rdB]; done) | (simp +contextual -dsimp only [↓SD, SU, simprocAttr, rdB, Af]; done) | (simp +contextual -dsimp only [↓SD, SU, simprocAttr, rdB, c0]; done)) ?_; rintro r hp' ⟨rfl, rfl⟩)
  simp +contextual -dsimp only [↓SD, SU, simprocAttr, rdB, Ab, Aa]
  refine Ai.post (rdB C s) ?_
  simp +contextual -dsimp only [↓SD, SU, simprocAttr, rdB, Ab, Aa, RK, h]
theorem OC {C : RC} {s : RS} (h : Bm C s) (e : E5 (A6 C s) = true) : s.i < C.L.length ∧ s.code = 0 := by
 unfold E5 at e
 rw [Bool.or_eq_true, decide_eq_true_eq, decide_eq_true_eq] at e
 rcases e with e | e
 ·exact (Cw h).2 (by omega)
 ·exact Bz h (by decide) e
theorem QF (C : RC) (s : RS) (hs : Bm C s) : AW Tryz.prog 186 [.ptr 2100 C.v 0 0] (rdB C s) (RP C s (Abi C s)) := by
 obtain ⟨ht, _⟩ := Cw hs
 have CW := Kt C s hs
 have hat := OC hs
 refine Gf.H rfl ?_
 simp +contextual -dsimp only [↓SD, SU, simprocAttr, rdB, Ab, Aa, Gf]
 (refine Ad [2100, 2101] (Be C s hs) (by first | (simp +contextual -dsimp only [↓SD, SU, simprocAttr, rdB]; done) | (simp +contextual -dsimp only [↓SD, SU, simprocAttr, rdB, Af]; done) | (simp +contextual -dsimp only [↓SD, SU, simprocAttr, rdB, c0]; done)) ?_; rintro r hp' ⟨rfl, rfl⟩)
 simp +contextual -dsimp only [↓SD, SU, simprocAttr, rdB, Ab, Aa, AY]
 intro v5
 (refine Ad [2100, 2101] (CW) (by first | (simp +contextual -dsimp only [↓SD, SU, simprocAttr, rdB]; done) | (simp +contextual -dsimp only [↓SD, SU, simprocAttr, rdB, Af]; done) | (simp +contextual -dsimp only [↓SD, SU, simprocAttr, rdB, c0]; done)) ?_; rintro r hp' ⟨rfl, rfl⟩)
 cases h : E5 (A6 C s) with
 | true =>
  obtain ⟨h1, h2⟩ := hat h
  have hsm := hs.small
  obtain ⟨g0, g1, g2, g3, g4, g5, g6⟩ := hs
  have e : (s.i : Int) + 1 = ((s.i + 1 : Nat) : Int) := by omega
  simp +contextual -dsimp only [↓SD, SU, simprocAttr, rdB, Ab, Aa, e]
  refine ⟨by omega, ?_⟩
  refine Ai.post (rdB C { s with i := s.i + 1 }) ?_
  simp +contextual -dsimp only [↓SD, SU, simprocAttr, rdB, Ab, Aa]
  exact ⟨{ s with i := s.i + 1 }, rfl, ⟨g0, h1, g2, g3, g4, by dsimp only; omega, g6⟩, Nat.le_succ _, fun h => h, _, rfl, ht.2.2.1, .inr rfl⟩
 | false =>
  simp +contextual -dsimp only [↓SD, SU, simprocAttr, rdB, Ab, Aa]
  (refine Ad [2100, 2101] (B4 C s hs 7 (by omega)) (by first | (simp +contextual -dsimp only [↓SD, SU, simprocAttr, rdB]; done) | (simp +contextual -dsimp only [↓SD, SU, simprocAttr, rdB, Af]; done) | (simp +contextual -dsimp only [↓SD, SU, simprocAttr, rdB, c0]; done)) ?_; rintro r hp' ⟨s', rfl, hs', hi, hc, rfl, hi', hc'⟩)
  simp +contextual -dsimp only [↓SD, SU, simprocAttr, rdB, Ab, Aa]
  refine Ai.post (rdB C s') ?_
  simp +contextual -dsimp only [↓SD, SU, simprocAttr, rdB, Ab, Aa]
  exact ⟨s', rfl, hs', hi, hc, bs [], rfl, Nat.zero_le _, .inl hc'⟩
theorem JS (C : RC) (s : RS) (hs : Bm C s) (b : Bool) : AW Tryz.prog 142 [.ptr 2100 C.v 0 0, .bool b] (rdB C s) (RP C s fun s' r => r = .tup [] ∧ s'.i = s.i ∧ s'.code ≠ 0) := by
 refine Fh.H rfl ?_
 cases b
 ·simp +contextual -dsimp only [↓SD, SU, simprocAttr, rdB, Ab, Aa, Fh]
  (refine Ad [2100, 2101] (B4 C s hs 7 (by omega)) (by first | (simp +contextual -dsimp only [↓SD, SU, simprocAttr, rdB]; done) | (simp +contextual -dsimp only [↓SD, SU, simprocAttr, rdB, Af]; done) | (simp +contextual -dsimp only [↓SD, SU, simprocAttr, rdB, c0]; done)) ?_; rintro r hp' ⟨s', rfl, hs', hi, hc, rfl, hi', hc'⟩)
  simp +contextual -dsimp only [↓SD, SU, simprocAttr, rdB, Ab, Aa]
  refine Ai.post (rdB C s') ?_
  simp +contextual -dsimp only [↓SD, SU, simprocAttr, rdB, Ab, Aa]
  exact ⟨s', rfl, hs', hi, hc, rfl, hi', hc'⟩
 ·simp +contextual -dsimp only [↓SD, SU, simprocAttr, rdB, Ab, Aa, Fh]
  (refine Ad [2100, 2101] (B4 C s hs 9 (by omega)) (by first | (simp +contextual -dsimp only [↓SD, SU, simprocAttr, rdB]; done) | (simp +contextual -dsimp only [↓SD, SU, simprocAttr, rdB, Af]; done) | (simp +contextual -dsimp only [↓SD, SU, simprocAttr, rdB, c0]; done)) ?_; rintro r hp' ⟨s', rfl, hs', hi, hc, rfl, hi', hc'⟩)
  simp +contextual -dsimp only [↓SD, SU, simprocAttr, rdB, Ab, Aa]
  refine Ai.post (rdB C s') ?_
  simp +contextual -dsimp only [↓SD, SU, simprocAttr, rdB, Ab, Aa]
  exact ⟨s', rfl, hs', hi, hc, rfl, hi', hc'⟩
def inB (t : EI) (l : List ByteArray) : Bool := l.any fun x => decide (BF t = x)
theorem Zy {C : RC} {s : RS} (h : Bm C s) {l : List ByteArray} (hl : ∀ x ∈ l, x ≠ bs []) (e : inB (A6 C s) l = true) : s.i < C.L.length ∧ s.code = 0 := by
 unfold inB at e
 rw [List.any_eq_true] at e
 obtain ⟨x, hx, e⟩ := e
 exact Bz h (hl x hx) (by simpa using e)
def FC (t : EI) : Bool := decide (t.kind = 1) || decide (t.kind = 2) || decide (t.kind = 3) || decide (t.kind = 4) || decide (BF t = bs [40]) || decide (BF t = bs [91]) || decide (BF t = bs [116, 114, 117, 101]) || decide (BF t = bs [102, 97, 108, 115, 101])
theorem PY {C : RC} {s : RS} (h : Bm C s) (e : FC (A6 C s) = true) : s.i < C.L.length ∧ s.code = 0 := by
 unfold FC at e
 simp only [Bool.or_eq_true, decide_eq_true_eq] at e
 rcases e with ((((((e | e) | e) | e) | e) | e) | e) | e
 ·exact (Cw h).2 (by omega)
 ·exact (Cw h).2 (by omega)
 ·exact (Cw h).2 (by omega)
 ·exact (Cw h).2 (by omega)
 ·exact Bz h (by decide) e
 ·exact Bz h (by decide) e
 ·exact Bz h (by decide) e
 ·exact Bz h (by decide) e
theorem FA (C : RC) (s : RS) (hs : Bm C s) : AW Tryz.prog 174 [.ptr 2100 C.v 0 0] (rdB C s) (RK C s (.bool (FC (A6 C s)))) := by
 refine Gg.H rfl ?_
 unfold FC
 simp +contextual -dsimp only [↓SD, SU, simprocAttr, rdB, Ab, Aa, Gg]
 (refine Ad [2100, 2101] (Be C s hs) (by first | (simp +contextual -dsimp only [↓SD, SU, simprocAttr, rdB]; done) | (simp +contextual -dsimp only [↓SD, SU, simprocAttr, rdB, Af]; done) | (simp +contextual -dsimp only [↓SD, SU, simprocAttr, rdB, c0]; done)) ?_; rintro r hp' ⟨rfl, rfl⟩)
 simp +contextual -dsimp only [↓SD, SU, simprocAttr, rdB, Ab, Aa, AY]
 intro v5
 refine Ac _ (CM (A6 C s)) ?_
 generalize A6 C s = t
 have n1 : (bs [91] = bs [40]) = False := eq_false (by decide)
 have n2 : (bs [116, 114, 117, 101] = bs [40]) = False := eq_false (by decide)
 have n3 : (bs [116, 114, 117, 101] = bs [91]) = False := eq_false (by decide)
 by_cases h1 : t.kind = 1
 ·simp +contextual -dsimp only [↓SD, SU, simprocAttr, rdB, Ab, Aa, h1]
  refine Ai.post (rdB C s) ?_
  simp +contextual -dsimp only [↓SD, SU, simprocAttr, rdB, Ab, Aa, RK, h1]
 by_cases h2 : t.kind = 2
 ·simp +contextual -dsimp only [↓SD, SU, simprocAttr, rdB, Ab, Aa, h1, h2]
  refine Ai.post (rdB C s) ?_
  simp +contextual -dsimp only [↓SD, SU, simprocAttr, rdB, Ab, Aa, RK, h1, h2]
 by_cases h3 : t.kind = 3
 ·simp +contextual -dsimp only [↓SD, SU, simprocAttr, rdB, Ab, Aa, h1, h2, h3]
  refine Ai.post (rdB C s) ?_
  simp +contextual -dsimp only [↓SD, SU, simprocAttr, rdB, Ab, Aa, RK, h1, h2, h3]
 by_cases h4 : t.kind = 4
 ·simp +contextual -dsimp only [↓SD, SU, simprocAttr, rdB, Ab, Aa, h1, h2, h3, h4]
  refine Ai.post (rdB C s) ?_
  simp +contextual -dsimp only [↓SD, SU, simprocAttr, rdB, Ab, Aa, RK, h1, h2, h3, h4]
 by_cases h5 : BF t = bs [40]
 ·simp +contextual -dsimp only [↓SD, SU, simprocAttr, rdB, Ab, Aa, h1, h2, h3, h4, h5]
  refine Ai.post (rdB C s) ?_
  simp +contextual -dsimp only [↓SD, SU, simprocAttr, rdB, Ab, Aa, RK, h1, h2, h3, h4, h5]
 by_cases h6 : BF t = bs [91]
 ·simp +contextual -dsimp only [↓SD, SU, simprocAttr, rdB, Ab, Aa, h1, h2, h3, h4, h5, h6, n1]
  refine Ai.post (rdB C s) ?_
  simp +contextual -dsimp only [↓SD, SU, simprocAttr, rdB, Ab, Aa, RK, h1, h2, h3, h4, h5, h6, n1]
 by_cases h7 : BF t = bs [116, 114, 117, 101]
 ·simp +contextual -dsimp only [↓SD, SU, simprocAttr, rdB, Ab, Aa, h1, h2, h3, h4, h5, h6, h7, n2, n3]
  refine Ai.post (rdB C s) ?_
  simp +contextual -dsimp only [↓SD, SU, simprocAttr, rdB, Ab, Aa, RK, h1, h2, h3, h4, h5, h6, h7, n2, n3]
 simp +contextual -dsimp only [↓SD, SU, simprocAttr, rdB, Ab, Aa, h1, h2, h3, h4, h5, h6, h7]
 refine Ai.post (rdB C s) ?_
 simp +contextual -dsimp only [↓SD, SU, simprocAttr, rdB, Ab, Aa, RK, h1, h2, h3, h4, h5, h6, h7]
theorem ZA (t : EI) (l : List ByteArray) (k : Nat) (h : k < l.length) : inB t (l.drop k) = (decide (BF t = l[k]) || inB t (l.drop (k + 1))) := by
 rw [List.drop_eq_getElem_cons h]; rfl
theorem It (C : RC) (s : RS) (hs : Bm C s) (l : List ByteArray) (hl : l.length ≤ 1000) : AW Tryz.prog 175 [.ptr 2100 C.v 0 0, .sl (l.map av)] (rdB C s) (RK C s (.bool (inB (A6 C s) l))) := by
 refine Jt.H rfl ?_
 simp +contextual -dsimp only [↓SD, SU, simprocAttr, rdB, Ab, Aa, Jt]
 refine AB (X := Nat) (fun k => ⟨[(0, .ptr 2100 C.v 0 0), (7, .sl (l.map av)), (8, .int .i64 l.length), (9, .int .i64 k)], rdB C s⟩) (fun k => k ≤ l.length ∧ inB (A6 C s) l = inB (A6 C s) (l.drop k)) (fun k => l.length - k) 0 ⟨Nat.zero_le _, rfl⟩ (by simp +contextual -dsimp only [↓SD, SU, simprocAttr]) (by simp +contextual -dsimp only [↓SD, SU, simprocAttr, rdB]) ?_
 intro k ⟨hk, hp⟩
 by_cases hlt : k < l.length
 ·have e1 := getD_map av l k .top hlt
  rw [ZA _ _ _ hlt] at hp
  generalize l[k] = x at *
  have C1 := BP C s hs x
  by_cases h : BF (A6 C s) = x
  ·rw [decide_eq_true h] at C1
   rw [decide_eq_true h, Bool.true_or] at hp
   simp +contextual -dsimp only [↓SD, SU, simprocAttr, rdB, Ab, Aa, hlt, e1, Ec]
   (refine Ad [2100, 2101] (C1) (by first | (simp +contextual -dsimp only [↓SD, SU, simprocAttr, rdB]; done) | (simp +contextual -dsimp only [↓SD, SU, simprocAttr, rdB, Af]; done) | (simp +contextual -dsimp only [↓SD, SU, simprocAttr, rdB, c0]; done)) ?_; rintro r hp' ⟨rfl, rfl⟩)
   simp +contextual -dsimp only [↓SD, SU, simprocAttr, rdB, Ab, Aa]
   refine Ai.post (rdB C s) ?_
   simp +contextual -dsimp only [↓SD, SU, simprocAttr, rdB, Ab, Aa, RK, hp]
  ·rw [decide_eq_false h] at C1
   rw [decide_eq_false h, Bool.false_or] at hp
   simp +contextual -dsimp only [↓SD, SU, simprocAttr, rdB, Ab, Aa, hlt, e1, Ec]
   (refine Ad [2100, 2101] (C1) (by first | (simp +contextual -dsimp only [↓SD, SU, simprocAttr, rdB]; done) | (simp +contextual -dsimp only [↓SD, SU, simprocAttr, rdB, Af]; done) | (simp +contextual -dsimp only [↓SD, SU, simprocAttr, rdB, c0]; done)) ?_; rintro r hp' ⟨rfl, rfl⟩)
   simp +contextual -dsimp only [↓SD, SU, simprocAttr, rdB, Ab, Aa]
   exact ⟨by omega, Ai.le ⟨k + 1, ⟨⟨hlt, hp⟩, (by first | omega | (simp only; omega))⟩, rfl⟩ (by simp +contextual -dsimp only [↓SD, SU, simprocAttr, Int.natCast_add]) (by simp +contextual -dsimp only [↓SD, SU, simprocAttr, rdB])⟩
 ·obtain rfl : k = l.length := by omega
  rw [List.drop_length] at hp
  simp +contextual -dsimp only [↓SD, SU, simprocAttr, rdB, Ab, Aa, Nat.lt_irrefl]
  refine Ai.post (rdB C s) ?_
  simp +contextual -dsimp only [↓SD, SU, simprocAttr, rdB, Ab, Aa, RK, hp]
  rfl
def Jo (l : List ByteArray) (t : EI) : Bool := decide (t.kind = 3) && l.any fun x => decide (x = t.s)
theorem MW (C : RC) (s : RS) (hs : Bm C s) (t : EI) : AW Tryz.prog 187 [.ptr 2100 C.v 0 0, .agg [.int .i64 t.kind, .int .i64 t.n, .str t.s, .int .i64 t.pos]] (rdB C s) (RK C s (.bool (Jo s.seen t))) := by
 have hsm := hs.small
 have hsl := hs.2.2.2.2.2.1
 refine HG.H rfl ?_
 simp +contextual -dsimp only [↓SD, SU, simprocAttr, rdB, Ab, Aa, HG]
 refine AB (X := Nat) (fun k => ⟨[(3, .obj [.int .i64 t.kind, .int .i64 t.n, .str t.s, .int .i64 t.pos]), (10, .row 2101 s.sv s.seen.length), (11, .int .i64 s.seen.length), (12, .int .i64 k)], rdB C s⟩) (fun k => k ≤ s.seen.length ∧ Jo s.seen t = Jo (s.seen.drop k) t) (fun k => s.seen.length - k) 0 ⟨Nat.zero_le _, rfl⟩ (by simp +contextual -dsimp only [↓SD, SU, simprocAttr]) (by simp +contextual -dsimp only [↓SD, SU, simprocAttr, rdB]) ?_
 intro k ⟨hk, hp⟩
 by_cases hlt : k < s.seen.length
 ·have e1 := getD_map av s.seen k .top hlt
  have hd : Jo (s.seen.drop k) t = ((decide (t.kind = 3) && decide (s.seen[k] = t.s)) || Jo (s.seen.drop (k + 1)) t) := by
   unfold Jo
   rw [List.drop_eq_getElem_cons hlt, List.any_cons]
   cases decide (t.kind = 3) <;> rfl
  rw [hd] at hp
  generalize s.seen[k] = x at *
  by_cases h3 : t.kind = 3
  ·by_cases h : x = t.s
   ·simp +contextual -dsimp only [↓SD, SU, simprocAttr, rdB, Ab, Aa, hlt, e1, Ec, h3, h]
    refine Ai.post (rdB C s) ?_
    simp +contextual -dsimp only [↓SD, SU, simprocAttr, rdB, Ab, Aa, RK, hp, h3, h]
   ·rw [decide_eq_false h, Bool.and_false, Bool.false_or] at hp
    simp +contextual -dsimp only [↓SD, SU, simprocAttr, rdB, Ab, Aa, hlt, e1, Ec, h3, h]
    exact ⟨by omega, Ai.le ⟨k + 1, ⟨⟨hlt, hp⟩, (by first | omega | (simp only; omega))⟩, rfl⟩ (by simp +contextual -dsimp only [↓SD, SU, simprocAttr, Int.natCast_add, h3]) (by simp +contextual -dsimp only [↓SD, SU, simprocAttr, rdB])⟩
  ·rw [decide_eq_false h3, Bool.false_and, Bool.false_or] at hp
   simp +contextual -dsimp only [↓SD, SU, simprocAttr, rdB, Ab, Aa, hlt, e1, Ec, h3]
   exact ⟨by omega, Ai.le ⟨k + 1, ⟨⟨hlt, hp⟩, (by first | omega | (simp only; omega))⟩, rfl⟩ (by simp +contextual -dsimp only [↓SD, SU, simprocAttr, Int.natCast_add]) (by simp +contextual -dsimp only [↓SD, SU, simprocAttr, rdB])⟩
 ·obtain rfl : k = s.seen.length := by omega
  have he : Jo (s.seen.drop s.seen.length) t = false := by unfold Jo; rw [List.drop_length]; simp
  rw [he] at hp
  simp +contextual -dsimp only [↓SD, SU, simprocAttr, rdB, Ab, Aa, Nat.lt_irrefl]
  refine Ai.post (rdB C s) ?_
  simp +contextual -dsimp only [↓SD, SU, simprocAttr, rdB, Ab, Aa, RK, hp]
def RB (C : RC) (s : RS) (r : AV) (hp' : Hp) : Prop := ∃ b : Bool, r = .bool b ∧ hp' = rdB C s
theorem Ok (C : RC) (s : RS) (hs : Bm C s) : AW Tryz.prog 188 [.ptr 2100 C.v 0 0] (rdB C s) (RB C s) := by
 refine FT.H rfl ?_
 have CI := It C s hs [bs [95], bs [45], bs [40], bs [91], bs [116, 114, 117, 101], bs [102, 97, 108, 115, 101]] (by decide)
 simp +contextual -dsimp only [↓SD, SU, simprocAttr, rdB, Ab, Aa, FT]
 (refine Ad [2100, 2101] (Be C s hs) (by first | (simp +contextual -dsimp only [↓SD, SU, simprocAttr, rdB]; done) | (simp +contextual -dsimp only [↓SD, SU, simprocAttr, rdB, Af]; done) | (simp +contextual -dsimp only [↓SD, SU, simprocAttr, rdB, c0]; done)) ?_; rintro r hp' ⟨rfl, rfl⟩)
 generalize inB (A6 C s) _ = b at CI
 by_cases h3 : (A6 C s).kind = 3
 ·simp +contextual -dsimp only [↓SD, SU, simprocAttr, rdB, Ab, Aa, AY, h3]
  intro v3
  refine Ai.post (rdB C s) ?_
  simp +contextual -dsimp only [↓SD, SU, simprocAttr, rdB, Ab, Aa]
  exact ⟨_, rfl, rfl⟩
 by_cases h1 : (A6 C s).kind = 1
 ·simp +contextual -dsimp only [↓SD, SU, simprocAttr, rdB, Ab, Aa, AY, h3, h1]
  intro v3
  refine Ai.post (rdB C s) ?_
  simp +contextual -dsimp only [↓SD, SU, simprocAttr, rdB, Ab, Aa]
  exact ⟨_, rfl, rfl⟩
 by_cases h4 : (A6 C s).kind = 4
 ·simp +contextual -dsimp only [↓SD, SU, simprocAttr, rdB, Ab, Aa, AY, h3, h1, h4]
  intro v3
  refine Ai.post (rdB C s) ?_
  simp +contextual -dsimp only [↓SD, SU, simprocAttr, rdB, Ab, Aa]
  exact ⟨_, rfl, rfl⟩
 simp +contextual -dsimp only [↓SD, SU, simprocAttr, rdB, Ab, Aa, AY, h3, h1, h4]
 intro v3
 (refine Ad [2100, 2101] (CI) (by first | (simp +contextual -dsimp only [↓SD, SU, simprocAttr, rdB]; done) | (simp +contextual -dsimp only [↓SD, SU, simprocAttr, rdB, Af]; done) | (simp +contextual -dsimp only [↓SD, SU, simprocAttr, rdB, c0]; done)) ?_; rintro r hp' ⟨rfl, rfl⟩)
 simp +contextual -dsimp only [↓SD, SU, simprocAttr, rdB, Ab, Aa]
 refine Ai.post (rdB C s) ?_
 simp +contextual -dsimp only [↓SD, SU, simprocAttr, rdB, Ab, Aa]
 exact ⟨_, rfl, rfl⟩
theorem Ol (C : RC) (s : RS) (hs : Bm C s) : AW Tryz.prog 143 [.ptr 2100 C.v 0 0] (rdB C s) (RB C s) := by
 refine FV.H rfl ?_
 have CI := It C s hs [bs [102, 117, 110], bs [108, 101, 116], bs [105, 102], bs [109, 97, 116, 99, 104], bs [116, 114, 121], bs [114, 97, 105, 115, 101], bs [114, 101, 102], bs [33], bs [45]] (by decide)
 have CB := FA C s hs
 simp +contextual -dsimp only [↓SD, SU, simprocAttr, rdB, Ab, Aa, FV]
 (refine Ad [2100, 2101] (CB) (by first | (simp +contextual -dsimp only [↓SD, SU, simprocAttr, rdB]; done) | (simp +contextual -dsimp only [↓SD, SU, simprocAttr, rdB, Af]; done) | (simp +contextual -dsimp only [↓SD, SU, simprocAttr, rdB, c0]; done)) ?_; rintro r hp' ⟨rfl, rfl⟩)
 generalize inB (A6 C s) _ = b at CI
 cases FC (A6 C s)
 ·simp +contextual -dsimp only [↓SD, SU, simprocAttr, rdB, Ab, Aa]
  (refine Ad [2100, 2101] (CI) (by first | (simp +contextual -dsimp only [↓SD, SU, simprocAttr, rdB]; done) | (simp +contextual -dsimp only [↓SD, SU, simprocAttr, rdB, Af]; done) | (simp +contextual -dsimp only [↓SD, SU, simprocAttr, rdB, c0]; done)) ?_; rintro r hp' ⟨rfl, rfl⟩)
  simp +contextual -dsimp only [↓SD, SU, simprocAttr, rdB, Ab, Aa]
  refine Ai.post (rdB C s) ?_
  simp +contextual -dsimp only [↓SD, SU, simprocAttr, rdB, Ab, Aa]
  exact ⟨_, rfl, rfl⟩
 ·simp +contextual -dsimp only [↓SD, SU, simprocAttr, rdB, Ab, Aa]
  refine Ai.post (rdB C s) ?_
  simp +contextual -dsimp only [↓SD, SU, simprocAttr, rdB, Ab, Aa]
  exact ⟨_, rfl, rfl⟩
theorem MV (C : RC) (s : RS) (hs : Bm C s) : AW Tryz.prog 171 [.ptr 2100 C.v 0 0] (rdB C s) (RB C s) := by
 have hvl := hs.2.2.2.2.1
 refine Fp.H rfl ?_
 have CI := BP C s hs (bs [40])
 simp +contextual -dsimp only [↓SD, SU, simprocAttr, rdB, Ab, Aa, Fp]
 (refine Ad [2100, 2101] (Be C s hs) (by first | (simp +contextual -dsimp only [↓SD, SU, simprocAttr, rdB]; done) | (simp +contextual -dsimp only [↓SD, SU, simprocAttr, rdB, Af]; done) | (simp +contextual -dsimp only [↓SD, SU, simprocAttr, rdB, c0]; done)) ?_; rintro r hp' ⟨rfl, rfl⟩)
 simp +contextual -dsimp only [↓SD, SU, simprocAttr, rdB, Ab, Aa, AY]
 intro v3
 generalize decide (BF (A6 C s) = bs [40]) = b at CI
 refine AB (X := Nat) (fun k => ⟨[(0, .ptr 2100 C.v 0 0), (3, .ptr 3 v3 0 0), (11, .sl (s.vars.map av)), (12, .int .i64 s.vars.length), (13, .int .i64 k)], (3, ⟨v3, false, 158, 4, [.agg [.int .i64 (A6 C s).kind, .int .i64 (A6 C s).n, .str (A6 C s).s, .int .i64 (A6 C s).pos]]⟩) :: rdB C s⟩) (fun k => k ≤ s.vars.length) (fun k => s.vars.length - k) 0 (Nat.zero_le _) (by simp +contextual -dsimp only [↓SD, SU, simprocAttr]) (by simp +contextual -dsimp only [↓SD, SU, simprocAttr, rdB]) ?_
 intro k hk
 by_cases hlt : k < s.vars.length
 ·have e1 := getD_map av s.vars k .top hlt
  generalize s.vars[k] = x at *
  by_cases h5 : (A6 C s).kind = 5
  ·by_cases hx : x = (A6 C s).n
   ·simp +contextual -dsimp only [↓SD, SU, simprocAttr, rdB, Ab, Aa, hlt, e1, Af, h5, hx]
    refine Ai.post (rdB C s) ?_
    simp +contextual -dsimp only [↓SD, SU, simprocAttr, rdB, Ab, Aa]
    exact ⟨_, rfl, rfl⟩
   ·simp +contextual -dsimp only [↓SD, SU, simprocAttr, rdB, Ab, Aa, hlt, e1, Af, h5, hx]
    exact ⟨by omega, Ai.le ⟨k + 1, ⟨hlt, (by first | omega | (simp only; omega))⟩, rfl⟩ (by simp +contextual -dsimp only [↓SD, SU, simprocAttr, Int.natCast_add]) (by simp +contextual -dsimp only [↓SD, SU, simprocAttr, rdB, h5])⟩
  ·simp +contextual -dsimp only [↓SD, SU, simprocAttr, rdB, Ab, Aa, hlt, e1, Af, h5]
   exact ⟨by omega, Ai.le ⟨k + 1, ⟨hlt, (by first | omega | (simp only; omega))⟩, rfl⟩ (by simp +contextual -dsimp only [↓SD, SU, simprocAttr, Int.natCast_add]) (by simp +contextual -dsimp only [↓SD, SU, simprocAttr, rdB])⟩
 ·by_cases h3 : (A6 C s).kind = 3
  ·simp +contextual -dsimp only [↓SD, SU, simprocAttr, rdB, Ab, Aa, hlt, h3]
   refine Ai.post (rdB C s) ?_
   simp +contextual -dsimp only [↓SD, SU, simprocAttr, rdB, Ab, Aa]
   exact ⟨_, rfl, rfl⟩
  ·simp +contextual -dsimp only [↓SD, SU, simprocAttr, rdB, Ab, Aa, hlt, h3]
   (refine Ad [2100, 2101] (CI) (by first | (simp +contextual -dsimp only [↓SD, SU, simprocAttr, rdB]; done) | (simp +contextual -dsimp only [↓SD, SU, simprocAttr, rdB, Af]; done) | (simp +contextual -dsimp only [↓SD, SU, simprocAttr, rdB, c0]; done)) ?_; rintro r hp' ⟨rfl, rfl⟩)
   simp +contextual -dsimp only [↓SD, SU, simprocAttr, rdB, Ab, Aa]
   refine Ai.post (rdB C s) ?_
   simp +contextual -dsimp only [↓SD, SU, simprocAttr, rdB, Ab, Aa]
   exact ⟨_, rfl, rfl⟩
def Unf (hp : Hp) : Prop := ∀ p ∈ hp, p.2.frz = false
theorem Ae : Unf [] := fun p h => by cases h
theorem AR {k v : Nat} {ty : TypeId} {e : Nat} {es : List AV} {hp : Hp} (h : Unf hp) : Unf ((k, ⟨v, false, ty, e, es⟩) :: hp) := fun p hp' => by
 rcases List.mem_cons.1 hp' with rfl | h'
 ·rfl
 ·exact h p h'
theorem Ax (k v : Nat) (ty : TypeId) (e : Nat) (es : List AV) (hp : Hp) : Unf ((k, ⟨v, false, ty, e, es⟩) :: hp) = Unf hp := propext ⟨fun h p hp' => h p (List.mem_cons_of_mem _ hp'), AR⟩
theorem SO : ∀ {hp : Hp} {k : Nat} {b : Box}, Ay hp k = some b → (k, b) ∈ hp
 | (j, c) :: r, k, b, h => by
  simp only [Ay] at h
  split at h
  ·rename_i e; cases h; subst e; exact List.mem_cons_self
  ·exact List.mem_cons_of_mem _ (SO h)
theorem Unf.get {hp : Hp} (h : Unf hp) {k : Nat} {b : Box} (hb : Ay hp k = some b) : b.frz = false := h _ (SO hb)
theorem Aap {hp : Hp} (h : Unf hp) (k v n : Nat) : (AV.row k v n).Bu hp = .row k v n := by
 show (match Ay hp k with | some b => if b.ver = v ∧ b.frz = true ∧ n ≤ b.es.length then AV.sl (b.es.take n) else AV.row k v n | none => AV.row k v n) = _
 cases hb : Ay hp k with
 | none => rfl
 | some b =>
  dsimp only
  rw [if_neg (fun e => by rw [h.get hb] at e; cases e.2.1)]
def L5 (K : AV) : Prop := K.one = true ∧ ∀ hp, Unf hp → K.Bu hp = K
theorem L5.row (k v n : Nat) : L5 (.row k v n) := ⟨rfl, fun hp h => Aap h k v n⟩
theorem L5.sl (es : List AV) : L5 (.sl es) := ⟨rfl, fun hp h => rfl⟩
theorem L5.Au : L5 .Au := ⟨rfl, fun hp h => rfl⟩
theorem Bl (k p : Int) (s : ByteArray) (K : AV) (hK : L5 K) : AW Tryz.prog 144 [.int .i64 k, .int .i64 p, .str s, K] [] (fun r hp' => r = .agg [.int .i64 k, .int .i64 p, .int .i64 0, .str s, .Au, .Au, K] ∧ hp' = []) := by
 obtain ⟨h1, h2⟩ := hK
 refine IA.H rfl ?_
 simp +contextual -dsimp only [↓SD, SU, simprocAttr, IA, h1]
 intro v8
 refine Ai.post [] ?_
 have h3 := h2 [(8, ⟨v8, false, 54, 7, [.agg [.int .i64 k, .int .i64 p, .int .i64 0, .str s, .Au, .Au, K]]⟩), (8, ⟨v8, false, 54, 7, [.agg [.int .i64 0, .int .i64 0, .int .i64 0, .str (bs []), .Au, .Au, .Au]]⟩)] (AR (AR Ae))
 simp +contextual -dsimp only [↓SD, SU, simprocAttr, h1]
 rw [h3]
def BV (l : List Ty) : List Bs := (l.map Ty.items).flatten
def Dz (s : ByteArray) (l : List Ty) : Ty := ⟨⟨0, s, l.length⟩ :: BV l⟩
theorem LJ (l : List Ty) (k : Nat) (h : k < l.length) : BV (l.take (k + 1)) = BV (l.take k) ++ l[k].items := by
 unfold BV
 rw [List.take_succ_eq_append_getElem h, List.map_append, List.flatten_append]; simp
theorem Yf (l : List Ty) (k : Nat) (h : k < l.length) : (BV (l.take k)).length + l[k].items.length ≤ (BV l).length := by
 have e : BV l = BV (l.take (k + 1)) ++ BV (l.drop (k + 1)) := by
  unfold BV
  rw [← List.flatten_append, ← List.map_append, List.take_append_drop]
 have e2 := LJ l k h
 rw [e, e2, List.length_append, List.length_append]
 omega
theorem Gd (s : ByteArray) (l : List Ty) (hl : l.length ≤ 1000) (hb : (BV l).length ≤ 1049600000000) : AW Tryz.prog 173 [.str s, .sl (l.map av)] [] (fun r hp' => r = av (Dz s l) ∧ hp' = []) := by
 refine DK.H rfl ?_
 simp +contextual -dsimp only [↓SD, SU, simprocAttr, DK, Aa]
 intro v4 v11 v5
 refine AB (X := Nat × Nat) (fun x => ⟨[(1, .sl (l.map av)), (4, .ptr 4 v4 0 0), (5, .ptr 5 v5 0 0), (14, .int .i64 l.length), (15, .int .i64 x.1)], [(5, ⟨v5, false, 94, 1, [.agg [.row 11 x.2 (1 + (BV (l.take x.1)).length)]]⟩), (11, ⟨x.2, false, 136, 3, .agg [.int .i64 0, .str s, .int .i64 l.length] :: (BV (l.take x.1)).map av⟩), (4, ⟨v4, false, 94, 1, [.agg [.Au]]⟩)]⟩) (fun x => x.1 ≤ l.length) (fun x => l.length - x.1) (0, v11) (Nat.zero_le _) (by simp +contextual -dsimp only [↓SD, SU, simprocAttr]) (by simp +contextual -dsimp only [↓SD, SU, simprocAttr, List.take_zero, show BV [] = [] from rfl]) ?_
 rintro ⟨k, u⟩ hk
 dsimp only at hk ⊢
 by_cases hlt : k < l.length
 ·have e1 := getD_map av l k .top hlt
  have h1 := LJ l k hlt
  have h2 := Yf l k hlt
  have hln : ((BV (l.take k)).map (av : Bs → AV)).length = (BV (l.take k)).length := List.length_map _
  generalize BV (l.take k) = A at *
  generalize l[k] = x at *
  obtain ⟨x⟩ := x
  dsimp only at h1 h2
  rw [P2] at e1
  have htk : List.take (1 + A.length) (.agg [.int .i64 0, .str s, .int .i64 l.length] :: A.map (av : Bs → AV)) = .agg [.int .i64 0, .str s, .int .i64 l.length] :: A.map av := List.take_of_length_le (by simp; omega)
  have hit : ∀ e ∈ x.map (av : Bs → AV), e.cells.length = 3 := fun e he => by obtain ⟨y, _, rfl⟩ := List.mem_map.1 he; rfl
  simp +contextual -dsimp only [↓SD, SU, simprocAttr, hlt, Aa, e1, Ab, htk]
  refine ⟨⟨by omega, hit, by omega, by unfold maxLen; omega⟩, fun v => ⟨by omega, ?_⟩⟩
  exact Ai.le ⟨(k + 1, v), ⟨hlt, (by first | omega | (simp only; omega))⟩, rfl⟩ (by simp +contextual -dsimp only [↓SD, SU, simprocAttr, Int.natCast_add]) (by simp +contextual -dsimp only [↓SD, SU, simprocAttr, h1, List.map_append, List.length_append, Nat.add_assoc])
 ·obtain rfl : k = l.length := by omega
  have htk : List.take (1 + (BV l).length) (.agg [.int .i64 0, .str s, .int .i64 l.length] :: (BV l).map (av : Bs → AV)) = .agg [.int .i64 0, .str s, .int .i64 l.length] :: (BV l).map av := List.take_of_length_le (by simp; omega)
  have hle : 1 + (BV l).length ≤ (BV l).length + 1 := by omega
  rw [List.take_length]
  simp +contextual -dsimp only [↓SD, SU, simprocAttr, Nat.lt_irrefl]
  refine Ai.frz 11 (Ai.post [] ?_)
  simp +contextual -dsimp only [↓SD, SU, simprocAttr, Ab, Aa, hle, htk]
  rfl
theorem QG (s : ByteArray) : AW Tryz.prog 173 [.str s, .Au] [] (fun r hp' => r = av (Dz s []) ∧ hp' = []) := by
 refine DK.H rfl ?_
 simp +contextual -dsimp only [↓SD, SU, simprocAttr, DK, Aa]
 intro v4 v11 v5
 refine AB (X := Nat) (fun x => ⟨[(1, .Au), (4, .ptr 4 v4 0 0), (5, .ptr 5 v5 0 0), (14, .int .i64 0), (15, .int .i64 0)], [(5, ⟨v5, false, 94, 1, [.agg [.row 11 v11 1]]⟩), (11, ⟨v11, false, 136, 3, [.agg [.int .i64 0, .str s, .int .i64 0]]⟩), (4, ⟨v4, false, 94, 1, [.agg [.Au]]⟩)]⟩) (fun x => True) (fun x => 0) 0 trivial (by simp +contextual -dsimp only [↓SD, SU, simprocAttr]) (by simp +contextual -dsimp only [↓SD, SU, simprocAttr]) ?_
 intro k _
 simp +contextual -dsimp only [↓SD, SU, simprocAttr]
 refine Ai.frz 11 (Ai.post [] ?_)
 simp +contextual -dsimp only [↓SD, SU, simprocAttr]
 rfl
end Go.Proofs.YtoffpbehgncakaaGreat
