/-
 THE READER OF THE REFERENCE, told weakly: it stays within its tokens; what it only looks at is told exactly. Conditions: none.
-/
import Derived.Test.YteeiaaogmjbcjaaGreatULexW
import Derived.Test.YteeiaaogmjbcjaaGreatUJ24
import Derived.Test.YteeiaaogmjbcjaaGreatUJ25
set_option linter.unusedVariables false
set_option linter.unusedSimpArgs false
set_option maxRecDepth 100000
namespace Go.Proofs.YteeiaaogmjbcjaaGreat
open Go.RowKit Go.Proofs.YteeiaaogmjbcjaaGreat.Av Go.Proofs.YteeiaaogmjbcjaaGreat.Ml
open Go.Proofs.YteeiaaogmjbcjaaGreat.Av.AVal (av)

structure RC where
 L : List EG
 E : Int
 m : Nat
 v : Nat
structure RS where
 i : Nat
 code : Int
 pos : Int
 vars : List Int
 seen : List ByteArray
 sv : Nat
def rdB (C : RC) (s : RS) : Hp := [(2100, ⟨C.v, false, 173, 7, [.agg [.sl (C.L.map av), .int .i64 s.i, .int .i64 C.E, .int .i64 s.code, .int .i64 s.pos, .sl (s.vars.map av), .row 2101 s.sv s.seen.length]]⟩), (2101, ⟨s.sv, false, 9, 1, s.seen.map av⟩)]
def RC.ok (C : RC) : Prop := C.L.length ≤ C.m ∧ (∀ t ∈ C.L, Aas C.m t) ∧ 0 ≤ C.E ∧ C.E ≤ C.m ∧ 2 ≤ C.m ∧ C.m ≤ 100000
def Bc (C : RC) (s : RS) : Prop := C.ok ∧ s.i ≤ C.L.length ∧ (0 ≤ s.code ∧ s.code ≤ 100) ∧ (0 ≤ s.pos ∧ s.pos ≤ C.m) ∧ s.vars.length ≤ 2 ∧ s.seen.length ≤ s.i ∧ ∀ x ∈ s.seen, x.size ≤ C.m
def RP (C : RC) (s : RS) (P : RS → AV → Prop) (r : AV) (hp' : Hp) : Prop := ∃ s', hp' = rdB C s' ∧ Bc C s' ∧ s.i ≤ s'.i ∧ (s'.code = 0 → s.code = 0) ∧ P s' r
def RK (C : RC) (s : RS) (x : AV) (r : AV) (hp' : Hp) : Prop := r = x ∧ hp' = rdB C s
def AX (C : RC) (s : RS) : EG := if s.code = 0 then C.L.getD s.i ⟨0, 0, bs [], C.E⟩ else ⟨0, 0, bs [], C.E⟩
def AcJ (m : Nat) (t : EG) : Prop := (0 ≤ t.kind ∧ t.kind ≤ 6) ∧ (-9000000000000000000 ≤ t.n ∧ t.n ≤ 9000000000000000000) ∧ t.s.size ≤ m ∧ 0 ≤ t.pos ∧ t.pos ≤ m
theorem Cv {C : RC} {s : RS} (h : Bc C s) : AcJ C.m (AX C s) ∧ ((AX C s).kind ≠ 0 → s.i < C.L.length ∧ s.code = 0) := by
 obtain ⟨⟨c1, c2, c3, c4, c5⟩, h1, h2, h3, h4, h5, h6⟩ := h
 have e0 : (bs []).size = 0 := rfl
 have hz : AcJ C.m ⟨0, 0, bs [], C.E⟩ := by
  refine ⟨⟨?_, ?_⟩, ⟨?_, ?_⟩, ?_, ?_, ?_⟩ <;> dsimp only <;> omega
 unfold AX
 split
 ·rename_i hc
  by_cases hi : s.i < C.L.length
  ·rw [List.getD_eq_getElem?_getD, List.getElem?_eq_getElem hi, Option.getD_some]
   have := c2 _ (List.getElem_mem hi)
   exact ⟨⟨⟨by have := this.1; omega, this.1.2⟩, this.2.1, this.2.2.1, this.2.2.2⟩, fun _ => ⟨hi, hc⟩⟩
  ·rw [List.getD_eq_getElem?_getD, List.getElem?_eq_none (by omega), Option.getD_none]
   exact ⟨hz, fun h => absurd rfl h⟩
 ·exact ⟨hz, fun h => absurd rfl h⟩
theorem Bm {C : RC} {s : RS} (h : Bc C s) {x : ByteArray} (hx : x ≠ bs []) (e : Bv (AX C s) = x) : s.i < C.L.length ∧ s.code = 0 := by
 refine (Cv h).2 fun h0 => hx ?_
 rw [← e, Bv, h0, if_neg (by decide)]
theorem BX (C : RC) (s : RS) (hs : Bc C s) (k : Int) (hk : 0 < k ∧ k ≤ 100) : AH Tryz.prog 115 [.ptr 2100 C.v 0 0, .int .i64 k] (rdB C s) (RP C s fun s' r => r = .tup [] ∧ s'.i = s.i ∧ s'.code ≠ 0) := by
 obtain ⟨⟨c1, c2, c3, c4, c5⟩, h1, h2, h3, h4, h5, h6⟩ := hs
 have hs : Bc C s := ⟨⟨c1, c2, c3, c4, c5⟩, h1, h2, h3, h4, h5, h6⟩
 refine DN.H rfl ?_
 unfold rdB
 by_cases hc : s.code = 0
 ·by_cases hi : s.i < C.L.length
  ·have e1 := getD_map av C.L s.i .top hi
   have ht := c2 _ (List.getElem_mem hi)
   generalize C.L[s.i] = t at *
   simp +contextual -dsimp only [↓SD, SU, simprocAttr, DN, Aa, Ab, hc, hi, e1, AQ]
   refine Ai.post (rdB C { s with code := k, pos := t.pos }) ?_
   unfold rdB
   simp +contextual -dsimp only [↓SD, SU, simprocAttr, Ab]
   exact ⟨{ s with code := k, pos := t.pos }, rfl, ⟨⟨c1, c2, c3, c4, c5⟩, h1, by dsimp only; omega, ht.2.2.2, h4, h5, h6⟩, Nat.le_refl _, fun h => absurd h (by dsimp only; omega), rfl, rfl, by dsimp only; omega⟩
  ·simp +contextual -dsimp only [↓SD, SU, simprocAttr, DN, Aa, Ab, hc, hi]
   refine Ai.post (rdB C { s with code := k, pos := C.E }) ?_
   unfold rdB
   simp +contextual -dsimp only [↓SD, SU, simprocAttr, Ab]
   exact ⟨{ s with code := k, pos := C.E }, rfl, ⟨⟨c1, c2, c3, c4, c5⟩, h1, by dsimp only; omega, ⟨c3, c4⟩, h4, h5, h6⟩, Nat.le_refl _, fun h => absurd h (by dsimp only; omega), rfl, rfl, by dsimp only; omega⟩
 ·simp +contextual -dsimp only [↓SD, SU, simprocAttr, DN, Aa, Ab, hc]
  refine Ai.post (rdB C s) ?_
  unfold rdB
  simp +contextual -dsimp only [↓SD, SU, simprocAttr, Ab]
  exact ⟨s, rfl, hs, Nat.le_refl _, fun h => h, rfl, rfl, hc⟩
theorem Bc.small {C : RC} {s : RS} (h : Bc C s) : s.i ≤ 100000 ∧ C.L.length ≤ 100000 ∧ C.m ≤ 100000 := by
 obtain ⟨⟨c1, c2, c3, c4, c5⟩, h1, _⟩ := h
 omega
theorem A1 (C : RC) (s : RS) (hs : Bc C s) : AH Tryz.prog 136 [.ptr 2100 C.v 0 0] (rdB C s) (RK C s (av (AX C s))) := by
 refine Ep.H rfl ?_
 unfold AX rdB
 by_cases hc : s.code = 0
 ·by_cases hi : s.i < C.L.length
  ·have hi2 : ¬ C.L.length ≤ s.i := by omega
   have e1 := getD_map av C.L s.i .top hi
   have e2 : C.L.getD s.i ⟨0, 0, bs [], C.E⟩ = C.L[s.i] := by rw [List.getD_eq_getElem?_getD, List.getElem?_eq_getElem hi, Option.getD_some]
   rw [e2]
   generalize C.L[s.i] = t at *
   simp +contextual -dsimp only [↓SD, SU, simprocAttr, Ep, Aa, Ab, hc, hi, hi2, e1, AQ]
   intro v2
   refine Ai.post (rdB C s) ?_
   unfold rdB
   simp +contextual -dsimp only [↓SD, SU, simprocAttr, Ab, hc, RK, AQ, rdB]
  ·have hi2 : C.L.length ≤ s.i := by omega
   have e2 : C.L.getD s.i ⟨0, 0, bs [], C.E⟩ = ⟨0, 0, bs [], C.E⟩ := by rw [List.getD_eq_getElem?_getD, List.getElem?_eq_none (by omega), Option.getD_none]
   rw [e2]
   simp +contextual -dsimp only [↓SD, SU, simprocAttr, Ep, Aa, Ab, hc, hi, hi2]
   intro v2
   refine Ai.post (rdB C s) ?_
   unfold rdB
   simp +contextual -dsimp only [↓SD, SU, simprocAttr, Ab, hc, RK, AQ, rdB]
 ·simp +contextual -dsimp only [↓SD, SU, simprocAttr, Ep, Aa, Ab, hc]
  intro v2
  refine Ai.post (rdB C s) ?_
  unfold rdB
  simp +contextual -dsimp only [↓SD, SU, simprocAttr, Ab, hc, RK, AQ, rdB]
theorem BG (C : RC) (s : RS) (hs : Bc C s) (x : ByteArray) : AH Tryz.prog 112 [.ptr 2100 C.v 0 0, .str x] (rdB C s) (RK C s (.bool (decide (Bv (AX C s) = x)))) := by
 refine Jl.H rfl ?_
 simp +contextual -dsimp only [↓SD, SU, simprocAttr, rdB, Ab, Aa, Jl]
 (refine Ac [2100, 2101] (A1 C s hs) (by first | (simp +contextual -dsimp only [↓SD, SU, simprocAttr, rdB]; done) | (simp +contextual -dsimp only [↓SD, SU, simprocAttr, rdB, Ae]; done) | (simp +contextual -dsimp only [↓SD, SU, simprocAttr, rdB, c0]; done)) ?_; rintro r hp' ⟨rfl, rfl⟩)
 simp +contextual -dsimp only [↓SD, SU, simprocAttr, rdB, Ab, Aa, AQ]
 refine Ag _ (Cy (AX C s)) ?_
 simp +contextual -dsimp only [↓SD, SU, simprocAttr, rdB, Ab, Aa]
 refine Ai.post (rdB C s) ?_
 simp +contextual -dsimp only [↓SD, SU, simprocAttr, rdB, Ab, Aa, RK]
theorem AY (C : RC) (s : RS) (hs : Bc C s) (x : ByteArray) (hx : x ≠ bs []) : AH Tryz.prog 138 [.ptr 2100 C.v 0 0, .str x] (rdB C s) (RP C s fun s' r => r = .tup [] ∧ (s'.code ≠ 0 ∨ s'.i = s.i + 1)) := by
 have CI := BG C s hs x
 have hat := Bm hs hx
 refine Fa.H rfl ?_
 by_cases h : Bv (AX C s) = x
 ·rw [decide_eq_true h] at CI
  obtain ⟨h1, h2⟩ := hat h
  have hsm := hs.small
  obtain ⟨g0, g1, g2, g3, g4, g5, g6⟩ := hs
  have e : (s.i : Int) + 1 = ((s.i + 1 : Nat) : Int) := by omega
  simp +contextual -dsimp only [↓SD, SU, simprocAttr, rdB, Ab, Aa, Fa]
  (refine Ac [2100, 2101] (CI) (by first | (simp +contextual -dsimp only [↓SD, SU, simprocAttr, rdB]; done) | (simp +contextual -dsimp only [↓SD, SU, simprocAttr, rdB, Ae]; done) | (simp +contextual -dsimp only [↓SD, SU, simprocAttr, rdB, c0]; done)) ?_; rintro r hp' ⟨rfl, rfl⟩)
  simp +contextual -dsimp only [↓SD, SU, simprocAttr, rdB, Ab, Aa, e]
  refine ⟨by omega, ?_⟩
  refine Ai.post (rdB C { s with i := s.i + 1 }) ?_
  simp +contextual -dsimp only [↓SD, SU, simprocAttr, rdB, Ab, Aa]
  exact ⟨{ s with i := s.i + 1 }, rfl, ⟨g0, h1, g2, g3, g4, by dsimp only; omega, g6⟩, Nat.le_succ _, fun h => h, rfl, .inr rfl⟩
 ·rw [decide_eq_false h] at CI
  simp +contextual -dsimp only [↓SD, SU, simprocAttr, rdB, Ab, Aa, Fa]
  (refine Ac [2100, 2101] (CI) (by first | (simp +contextual -dsimp only [↓SD, SU, simprocAttr, rdB]; done) | (simp +contextual -dsimp only [↓SD, SU, simprocAttr, rdB, Ae]; done) | (simp +contextual -dsimp only [↓SD, SU, simprocAttr, rdB, c0]; done)) ?_; rintro r hp' ⟨rfl, rfl⟩)
  simp +contextual -dsimp only [↓SD, SU, simprocAttr, rdB, Ab, Aa]
  (refine Ac [2100, 2101] (BX C s hs 7 (by omega)) (by first | (simp +contextual -dsimp only [↓SD, SU, simprocAttr, rdB]; done) | (simp +contextual -dsimp only [↓SD, SU, simprocAttr, rdB, Ae]; done) | (simp +contextual -dsimp only [↓SD, SU, simprocAttr, rdB, c0]; done)) ?_; rintro r hp' ⟨s', rfl, hs', hi, hc, rfl, hi', hc'⟩)
  simp +contextual -dsimp only [↓SD, SU, simprocAttr, rdB, Ab, Aa]
  refine Ai.post (rdB C s') ?_
  simp +contextual -dsimp only [↓SD, SU, simprocAttr, rdB, Ab, Aa]
  exact ⟨s', rfl, hs', hi, hc, rfl, .inl hc'⟩
def AbG (C : RC) (s : RS) (s' : RS) (r : AV) : Prop := ∃ x : ByteArray, r = .str x ∧ x.size ≤ C.m ∧ (s'.code ≠ 0 ∨ s'.i = s.i + 1)
theorem BO (C : RC) (s : RS) (hs : Bc C s) (k : Int) (hk : k ≠ 0) : AH Tryz.prog 139 [.ptr 2100 C.v 0 0, .int .i64 k] (rdB C s) (RP C s (AbG C s)) := by
 obtain ⟨ht, hat⟩ := Cv hs
 refine Hu.H rfl ?_
 simp +contextual -dsimp only [↓SD, SU, simprocAttr, rdB, Ab, Aa, Hu]
 (refine Ac [2100, 2101] (A1 C s hs) (by first | (simp +contextual -dsimp only [↓SD, SU, simprocAttr, rdB]; done) | (simp +contextual -dsimp only [↓SD, SU, simprocAttr, rdB, Ae]; done) | (simp +contextual -dsimp only [↓SD, SU, simprocAttr, rdB, c0]; done)) ?_; rintro r hp' ⟨rfl, rfl⟩)
 by_cases h : (AX C s).kind = k
 ·obtain ⟨h1, h2⟩ := hat (by omega)
  have hsm := hs.small
  obtain ⟨g0, g1, g2, g3, g4, g5, g6⟩ := hs
  have e : (s.i : Int) + 1 = ((s.i + 1 : Nat) : Int) := by omega
  simp +contextual -dsimp only [↓SD, SU, simprocAttr, rdB, Ab, Aa, AQ, h, e]
  intro v5
  refine ⟨by omega, ?_⟩
  refine Ai.post (rdB C { s with i := s.i + 1 }) ?_
  simp +contextual -dsimp only [↓SD, SU, simprocAttr, rdB, Ab, Aa]
  exact ⟨{ s with i := s.i + 1 }, rfl, ⟨g0, h1, g2, g3, g4, by dsimp only; omega, g6⟩, Nat.le_succ _, fun h => h, _, rfl, ht.2.2.1, .inr rfl⟩
 ·simp +contextual -dsimp only [↓SD, SU, simprocAttr, rdB, Ab, Aa, AQ, h]
  intro v5
  (refine Ac [2100, 2101] (BX C s hs 7 (by omega)) (by first | (simp +contextual -dsimp only [↓SD, SU, simprocAttr, rdB]; done) | (simp +contextual -dsimp only [↓SD, SU, simprocAttr, rdB, Ae]; done) | (simp +contextual -dsimp only [↓SD, SU, simprocAttr, rdB, c0]; done)) ?_; rintro r hp' ⟨s', rfl, hs', hi, hc, rfl, hi', hc'⟩)
  simp +contextual -dsimp only [↓SD, SU, simprocAttr, rdB, Ab, Aa]
  refine Ai.post (rdB C s') ?_
  simp +contextual -dsimp only [↓SD, SU, simprocAttr, rdB, Ab, Aa]
  exact ⟨s', rfl, hs', hi, hc, bs [], rfl, Nat.zero_le _, .inl hc'⟩
def EW (t : EG) : Bool := decide (t.kind = 3) || decide (Bv t = bs [114, 101, 102])
theorem Km (C : RC) (s : RS) (hs : Bc C s) : AH Tryz.prog 160 [.ptr 2100 C.v 0 0] (rdB C s) (RK C s (.bool (EW (AX C s)))) := by
 refine Gg.H rfl ?_
 unfold EW
 simp +contextual -dsimp only [↓SD, SU, simprocAttr, rdB, Ab, Aa, Gg]
 (refine Ac [2100, 2101] (A1 C s hs) (by first | (simp +contextual -dsimp only [↓SD, SU, simprocAttr, rdB]; done) | (simp +contextual -dsimp only [↓SD, SU, simprocAttr, rdB, Ae]; done) | (simp +contextual -dsimp only [↓SD, SU, simprocAttr, rdB, c0]; done)) ?_; rintro r hp' ⟨rfl, rfl⟩)
 by_cases h : (AX C s).kind = 3
 ·simp +contextual -dsimp only [↓SD, SU, simprocAttr, rdB, Ab, Aa, AQ, h]
  refine Ai.post (rdB C s) ?_
  simp +contextual -dsimp only [↓SD, SU, simprocAttr, rdB, Ab, Aa, RK, h]
 ·simp +contextual -dsimp only [↓SD, SU, simprocAttr, rdB, Ab, Aa, AQ, h]
  (refine Ac [2100, 2101] (BG C s hs _) (by first | (simp +contextual -dsimp only [↓SD, SU, simprocAttr, rdB]; done) | (simp +contextual -dsimp only [↓SD, SU, simprocAttr, rdB, Ae]; done) | (simp +contextual -dsimp only [↓SD, SU, simprocAttr, rdB, c0]; done)) ?_; rintro r hp' ⟨rfl, rfl⟩)
  simp +contextual -dsimp only [↓SD, SU, simprocAttr, rdB, Ab, Aa]
  refine Ai.post (rdB C s) ?_
  simp +contextual -dsimp only [↓SD, SU, simprocAttr, rdB, Ab, Aa, RK, h]
theorem Ot {C : RC} {s : RS} (h : Bc C s) (e : EW (AX C s) = true) : s.i < C.L.length ∧ s.code = 0 := by
 unfold EW at e
 rw [Bool.or_eq_true, decide_eq_true_eq, decide_eq_true_eq] at e
 rcases e with e | e
 ·exact (Cv h).2 (by omega)
 ·exact Bm h (by decide) e
theorem Qt (C : RC) (s : RS) (hs : Bc C s) : AH Tryz.prog 161 [.ptr 2100 C.v 0 0] (rdB C s) (RP C s (AbG C s)) := by
 obtain ⟨ht, _⟩ := Cv hs
 have CW := Km C s hs
 have hat := Ot hs
 refine Gh.H rfl ?_
 simp +contextual -dsimp only [↓SD, SU, simprocAttr, rdB, Ab, Aa, Gh]
 (refine Ac [2100, 2101] (A1 C s hs) (by first | (simp +contextual -dsimp only [↓SD, SU, simprocAttr, rdB]; done) | (simp +contextual -dsimp only [↓SD, SU, simprocAttr, rdB, Ae]; done) | (simp +contextual -dsimp only [↓SD, SU, simprocAttr, rdB, c0]; done)) ?_; rintro r hp' ⟨rfl, rfl⟩)
 simp +contextual -dsimp only [↓SD, SU, simprocAttr, rdB, Ab, Aa, AQ]
 intro v5
 (refine Ac [2100, 2101] (CW) (by first | (simp +contextual -dsimp only [↓SD, SU, simprocAttr, rdB]; done) | (simp +contextual -dsimp only [↓SD, SU, simprocAttr, rdB, Ae]; done) | (simp +contextual -dsimp only [↓SD, SU, simprocAttr, rdB, c0]; done)) ?_; rintro r hp' ⟨rfl, rfl⟩)
 cases h : EW (AX C s) with
 | true =>
  obtain ⟨h1, h2⟩ := hat h
  have hsm := hs.small
  obtain ⟨g0, g1, g2, g3, g4, g5, g6⟩ := hs
  have e : (s.i : Int) + 1 = ((s.i + 1 : Nat) : Int) := by omega
  simp +contextual -dsimp only [↓SD, SU, simprocAttr, rdB, Ab, Aa, e]
  refine ⟨by omega, ?_⟩
  refine Ai.post (rdB C { s with i := s.i + 1 }) ?_
  simp +contextual -dsimp only [↓SD, SU, simprocAttr, rdB, Ab, Aa]
  exact ⟨{ s with i := s.i + 1 }, rfl, ⟨g0, h1, g2, g3, g4, by dsimp only; omega, g6⟩, Nat.le_succ _, fun h => h, _, rfl, ht.2.2.1, .inr rfl⟩
 | false =>
  simp +contextual -dsimp only [↓SD, SU, simprocAttr, rdB, Ab, Aa]
  (refine Ac [2100, 2101] (BX C s hs 7 (by omega)) (by first | (simp +contextual -dsimp only [↓SD, SU, simprocAttr, rdB]; done) | (simp +contextual -dsimp only [↓SD, SU, simprocAttr, rdB, Ae]; done) | (simp +contextual -dsimp only [↓SD, SU, simprocAttr, rdB, c0]; done)) ?_; rintro r hp' ⟨s', rfl, hs', hi, hc, rfl, hi', hc'⟩)
  simp +contextual -dsimp only [↓SD, SU, simprocAttr, rdB, Ab, Aa]
  refine Ai.post (rdB C s') ?_
  simp +contextual -dsimp only [↓SD, SU, simprocAttr, rdB, Ab, Aa]
  exact ⟨s', rfl, hs', hi, hc, bs [], rfl, Nat.zero_le _, .inl hc'⟩
theorem JH (C : RC) (s : RS) (hs : Bc C s) (b : Bool) : AH Tryz.prog 141 [.ptr 2100 C.v 0 0, .bool b] (rdB C s) (RP C s fun s' r => r = .tup [] ∧ s'.i = s.i ∧ s'.code ≠ 0) := by
 refine Fc.H rfl ?_
 cases b
 ·simp +contextual -dsimp only [↓SD, SU, simprocAttr, rdB, Ab, Aa, Fc]
  (refine Ac [2100, 2101] (BX C s hs 7 (by omega)) (by first | (simp +contextual -dsimp only [↓SD, SU, simprocAttr, rdB]; done) | (simp +contextual -dsimp only [↓SD, SU, simprocAttr, rdB, Ae]; done) | (simp +contextual -dsimp only [↓SD, SU, simprocAttr, rdB, c0]; done)) ?_; rintro r hp' ⟨s', rfl, hs', hi, hc, rfl, hi', hc'⟩)
  simp +contextual -dsimp only [↓SD, SU, simprocAttr, rdB, Ab, Aa]
  refine Ai.post (rdB C s') ?_
  simp +contextual -dsimp only [↓SD, SU, simprocAttr, rdB, Ab, Aa]
  exact ⟨s', rfl, hs', hi, hc, rfl, hi', hc'⟩
 ·simp +contextual -dsimp only [↓SD, SU, simprocAttr, rdB, Ab, Aa, Fc]
  (refine Ac [2100, 2101] (BX C s hs 9 (by omega)) (by first | (simp +contextual -dsimp only [↓SD, SU, simprocAttr, rdB]; done) | (simp +contextual -dsimp only [↓SD, SU, simprocAttr, rdB, Ae]; done) | (simp +contextual -dsimp only [↓SD, SU, simprocAttr, rdB, c0]; done)) ?_; rintro r hp' ⟨s', rfl, hs', hi, hc, rfl, hi', hc'⟩)
  simp +contextual -dsimp only [↓SD, SU, simprocAttr, rdB, Ab, Aa]
  refine Ai.post (rdB C s') ?_
  simp +contextual -dsimp only [↓SD, SU, simprocAttr, rdB, Ab, Aa]
  exact ⟨s', rfl, hs', hi, hc, rfl, hi', hc'⟩
def inB (t : EG) (l : List ByteArray) : Bool := l.any fun x => decide (Bv t = x)
theorem ZP {C : RC} {s : RS} (h : Bc C s) {l : List ByteArray} (hl : ∀ x ∈ l, x ≠ bs []) (e : inB (AX C s) l = true) : s.i < C.L.length ∧ s.code = 0 := by
 unfold inB at e
 rw [List.any_eq_true] at e
 obtain ⟨x, hx, e⟩ := e
 exact Bm h (hl x hx) (by simpa using e)
def Fs (t : EG) : Bool := decide (t.kind = 1) || decide (t.kind = 2) || decide (t.kind = 3) || decide (t.kind = 4) || decide (Bv t = bs [40]) || decide (Bv t = bs [91]) || decide (Bv t = bs [116, 114, 117, 101]) || decide (Bv t = bs [102, 97, 108, 115, 101])
theorem PK {C : RC} {s : RS} (h : Bc C s) (e : Fs (AX C s) = true) : s.i < C.L.length ∧ s.code = 0 := by
 unfold Fs at e
 simp only [Bool.or_eq_true, decide_eq_true_eq] at e
 rcases e with ((((((e | e) | e) | e) | e) | e) | e) | e
 ·exact (Cv h).2 (by omega)
 ·exact (Cv h).2 (by omega)
 ·exact (Cv h).2 (by omega)
 ·exact (Cv h).2 (by omega)
 ·exact Bm h (by decide) e
 ·exact Bm h (by decide) e
 ·exact Bm h (by decide) e
 ·exact Bm h (by decide) e
theorem Fo (C : RC) (s : RS) (hs : Bc C s) : AH Tryz.prog 153 [.ptr 2100 C.v 0 0] (rdB C s) (RK C s (.bool (Fs (AX C s)))) := by
 refine Gi.H rfl ?_
 unfold Fs
 simp +contextual -dsimp only [↓SD, SU, simprocAttr, rdB, Ab, Aa, Gi]
 (refine Ac [2100, 2101] (A1 C s hs) (by first | (simp +contextual -dsimp only [↓SD, SU, simprocAttr, rdB]; done) | (simp +contextual -dsimp only [↓SD, SU, simprocAttr, rdB, Ae]; done) | (simp +contextual -dsimp only [↓SD, SU, simprocAttr, rdB, c0]; done)) ?_; rintro r hp' ⟨rfl, rfl⟩)
 simp +contextual -dsimp only [↓SD, SU, simprocAttr, rdB, Ab, Aa, AQ]
 intro v5
 refine Ag _ (Cy (AX C s)) ?_
 generalize AX C s = t
 have n1 : (bs [91] = bs [40]) = False := eq_false (by decide)
 have n2 : (bs [116, 114, 117, 101] = bs [40]) = False := eq_false (by decide)
 have n3 : (bs [116, 114, 117, 101] = bs [91]) = False := eq_false (by decide)
 by_cases h1 : t.kind = 1
 ·simp +contextual -dsimp only [↓SD, SU, simprocAttr, rdB, Ab, Aa, h1]
  refine Ai.post (rdB C s) ?_
  simp +contextual -dsimp only [↓SD, SU, simprocAttr, rdB, Ab, Aa, RK, h1]
 by_cases h2 : t.kind = 2
 ·simp +contextual -dsimp only [↓SD, SU, simprocAttr, rdB, Ab, Aa, h1, h2]
  refine Ai.post (rdB C s) ?_
  simp +contextual -dsimp only [↓SD, SU, simprocAttr, rdB, Ab, Aa, RK, h1, h2]
 by_cases h3 : t.kind = 3
 ·simp +contextual -dsimp only [↓SD, SU, simprocAttr, rdB, Ab, Aa, h1, h2, h3]
  refine Ai.post (rdB C s) ?_
  simp +contextual -dsimp only [↓SD, SU, simprocAttr, rdB, Ab, Aa, RK, h1, h2, h3]
 by_cases h4 : t.kind = 4
 ·simp +contextual -dsimp only [↓SD, SU, simprocAttr, rdB, Ab, Aa, h1, h2, h3, h4]
  refine Ai.post (rdB C s) ?_
  simp +contextual -dsimp only [↓SD, SU, simprocAttr, rdB, Ab, Aa, RK, h1, h2, h3, h4]
 by_cases h5 : Bv t = bs [40]
 ·simp +contextual -dsimp only [↓SD, SU, simprocAttr, rdB, Ab, Aa, h1, h2, h3, h4, h5]
  refine Ai.post (rdB C s) ?_
  simp +contextual -dsimp only [↓SD, SU, simprocAttr, rdB, Ab, Aa, RK, h1, h2, h3, h4, h5]
 by_cases h6 : Bv t = bs [91]
 ·simp +contextual -dsimp only [↓SD, SU, simprocAttr, rdB, Ab, Aa, h1, h2, h3, h4, h5, h6, n1]
  refine Ai.post (rdB C s) ?_
  simp +contextual -dsimp only [↓SD, SU, simprocAttr, rdB, Ab, Aa, RK, h1, h2, h3, h4, h5, h6, n1]
 by_cases h7 : Bv t = bs [116, 114, 117, 101]
 ·simp +contextual -dsimp only [↓SD, SU, simprocAttr, rdB, Ab, Aa, h1, h2, h3, h4, h5, h6, h7, n2, n3]
  refine Ai.post (rdB C s) ?_
  simp +contextual -dsimp only [↓SD, SU, simprocAttr, rdB, Ab, Aa, RK, h1, h2, h3, h4, h5, h6, h7, n2, n3]
 simp +contextual -dsimp only [↓SD, SU, simprocAttr, rdB, Ab, Aa, h1, h2, h3, h4, h5, h6, h7]
 refine Ai.post (rdB C s) ?_
 simp +contextual -dsimp only [↓SD, SU, simprocAttr, rdB, Ab, Aa, RK, h1, h2, h3, h4, h5, h6, h7]
theorem ZR (t : EG) (l : List ByteArray) (k : Nat) (h : k < l.length) : inB t (l.drop k) = (decide (Bv t = l[k]) || inB t (l.drop (k + 1))) := by
 rw [List.drop_eq_getElem_cons h]; rfl
theorem Il (C : RC) (s : RS) (hs : Bc C s) (l : List ByteArray) (hl : l.length ≤ 1000) : AH Tryz.prog 154 [.ptr 2100 C.v 0 0, .sl (l.map av)] (rdB C s) (RK C s (.bool (inB (AX C s) l))) := by
 refine Jm.H rfl ?_
 simp +contextual -dsimp only [↓SD, SU, simprocAttr, rdB, Ab, Aa, Jm]
 refine AG (X := Nat) (fun k => ⟨[(0, .ptr 2100 C.v 0 0), (7, .sl (l.map av)), (8, .int .i64 l.length), (9, .int .i64 k)], rdB C s⟩) (fun k => k ≤ l.length ∧ inB (AX C s) l = inB (AX C s) (l.drop k)) (fun k => l.length - k) 0 ⟨Nat.zero_le _, rfl⟩ (by simp +contextual -dsimp only [↓SD, SU, simprocAttr]) (by simp +contextual -dsimp only [↓SD, SU, simprocAttr, rdB]) ?_
 intro k ⟨hk, hp⟩
 by_cases hlt : k < l.length
 ·have e1 := getD_map av l k .top hlt
  rw [ZR _ _ _ hlt] at hp
  generalize l[k] = x at *
  have C1 := BG C s hs x
  by_cases h : Bv (AX C s) = x
  ·rw [decide_eq_true h] at C1
   rw [decide_eq_true h, Bool.true_or] at hp
   simp +contextual -dsimp only [↓SD, SU, simprocAttr, rdB, Ab, Aa, hlt, e1, EU]
   (refine Ac [2100, 2101] (C1) (by first | (simp +contextual -dsimp only [↓SD, SU, simprocAttr, rdB]; done) | (simp +contextual -dsimp only [↓SD, SU, simprocAttr, rdB, Ae]; done) | (simp +contextual -dsimp only [↓SD, SU, simprocAttr, rdB, c0]; done)) ?_; rintro r hp' ⟨rfl, rfl⟩)
   simp +contextual -dsimp only [↓SD, SU, simprocAttr, rdB, Ab, Aa]
   refine Ai.post (rdB C s) ?_
   simp +contextual -dsimp only [↓SD, SU, simprocAttr, rdB, Ab, Aa, RK, hp]
  ·rw [decide_eq_false h] at C1
   rw [decide_eq_false h, Bool.false_or] at hp
   simp +contextual -dsimp only [↓SD, SU, simprocAttr, rdB, Ab, Aa, hlt, e1, EU]
   (refine Ac [2100, 2101] (C1) (by first | (simp +contextual -dsimp only [↓SD, SU, simprocAttr, rdB]; done) | (simp +contextual -dsimp only [↓SD, SU, simprocAttr, rdB, Ae]; done) | (simp +contextual -dsimp only [↓SD, SU, simprocAttr, rdB, c0]; done)) ?_; rintro r hp' ⟨rfl, rfl⟩)
   simp +contextual -dsimp only [↓SD, SU, simprocAttr, rdB, Ab, Aa]
   exact ⟨by omega, Ai.le ⟨k + 1, ⟨⟨hlt, hp⟩, (by first | omega | (simp only; omega))⟩, rfl⟩ (by simp +contextual -dsimp only [↓SD, SU, simprocAttr, Int.natCast_add]) (by simp +contextual -dsimp only [↓SD, SU, simprocAttr, rdB])⟩
 ·obtain rfl : k = l.length := by omega
  rw [List.drop_length] at hp
  simp +contextual -dsimp only [↓SD, SU, simprocAttr, rdB, Ab, Aa, Nat.lt_irrefl]
  refine Ai.post (rdB C s) ?_
  simp +contextual -dsimp only [↓SD, SU, simprocAttr, rdB, Ab, Aa, RK, hp]
  rfl
def Jh (l : List ByteArray) (t : EG) : Bool := decide (t.kind = 3) && l.any fun x => decide (x = t.s)
theorem MX (C : RC) (s : RS) (hs : Bc C s) (t : EG) : AH Tryz.prog 162 [.ptr 2100 C.v 0 0, .agg [.int .i64 t.kind, .int .i64 t.n, .str t.s, .int .i64 t.pos]] (rdB C s) (RK C s (.bool (Jh s.seen t))) := by
 have hsm := hs.small
 have hsl := hs.2.2.2.2.2.1
 refine Hw.H rfl ?_
 simp +contextual -dsimp only [↓SD, SU, simprocAttr, rdB, Ab, Aa, Hw]
 refine AG (X := Nat) (fun k => ⟨[(3, .obj [.int .i64 t.kind, .int .i64 t.n, .str t.s, .int .i64 t.pos]), (10, .row 2101 s.sv s.seen.length), (11, .int .i64 s.seen.length), (12, .int .i64 k)], rdB C s⟩) (fun k => k ≤ s.seen.length ∧ Jh s.seen t = Jh (s.seen.drop k) t) (fun k => s.seen.length - k) 0 ⟨Nat.zero_le _, rfl⟩ (by simp +contextual -dsimp only [↓SD, SU, simprocAttr]) (by simp +contextual -dsimp only [↓SD, SU, simprocAttr, rdB]) ?_
 intro k ⟨hk, hp⟩
 by_cases hlt : k < s.seen.length
 ·have e1 := getD_map av s.seen k .top hlt
  have hd : Jh (s.seen.drop k) t = ((decide (t.kind = 3) && decide (s.seen[k] = t.s)) || Jh (s.seen.drop (k + 1)) t) := by
   unfold Jh
   rw [List.drop_eq_getElem_cons hlt, List.any_cons]
   cases decide (t.kind = 3) <;> rfl
  rw [hd] at hp
  generalize s.seen[k] = x at *
  by_cases h3 : t.kind = 3
  ·by_cases h : x = t.s
   ·simp +contextual -dsimp only [↓SD, SU, simprocAttr, rdB, Ab, Aa, hlt, e1, EU, h3, h]
    refine Ai.post (rdB C s) ?_
    simp +contextual -dsimp only [↓SD, SU, simprocAttr, rdB, Ab, Aa, RK, hp, h3, h]
   ·rw [decide_eq_false h, Bool.and_false, Bool.false_or] at hp
    simp +contextual -dsimp only [↓SD, SU, simprocAttr, rdB, Ab, Aa, hlt, e1, EU, h3, h]
    exact ⟨by omega, Ai.le ⟨k + 1, ⟨⟨hlt, hp⟩, (by first | omega | (simp only; omega))⟩, rfl⟩ (by simp +contextual -dsimp only [↓SD, SU, simprocAttr, Int.natCast_add, h3]) (by simp +contextual -dsimp only [↓SD, SU, simprocAttr, rdB])⟩
  ·rw [decide_eq_false h3, Bool.false_and, Bool.false_or] at hp
   simp +contextual -dsimp only [↓SD, SU, simprocAttr, rdB, Ab, Aa, hlt, e1, EU, h3]
   exact ⟨by omega, Ai.le ⟨k + 1, ⟨⟨hlt, hp⟩, (by first | omega | (simp only; omega))⟩, rfl⟩ (by simp +contextual -dsimp only [↓SD, SU, simprocAttr, Int.natCast_add]) (by simp +contextual -dsimp only [↓SD, SU, simprocAttr, rdB])⟩
 ·obtain rfl : k = s.seen.length := by omega
  have he : Jh (s.seen.drop s.seen.length) t = false := by unfold Jh; rw [List.drop_length]; simp
  rw [he] at hp
  simp +contextual -dsimp only [↓SD, SU, simprocAttr, rdB, Ab, Aa, Nat.lt_irrefl]
  refine Ai.post (rdB C s) ?_
  simp +contextual -dsimp only [↓SD, SU, simprocAttr, rdB, Ab, Aa, RK, hp]
def RB (C : RC) (s : RS) (r : AV) (hp' : Hp) : Prop := ∃ b : Bool, r = .bool b ∧ hp' = rdB C s
theorem N8 (C : RC) (s : RS) (hs : Bc C s) : AH Tryz.prog 163 [.ptr 2100 C.v 0 0] (rdB C s) (RB C s) := by
 refine FQ.H rfl ?_
 have CI := Il C s hs [bs [95], bs [45], bs [40], bs [91], bs [116, 114, 117, 101], bs [102, 97, 108, 115, 101]] (by decide)
 simp +contextual -dsimp only [↓SD, SU, simprocAttr, rdB, Ab, Aa, FQ]
 (refine Ac [2100, 2101] (A1 C s hs) (by first | (simp +contextual -dsimp only [↓SD, SU, simprocAttr, rdB]; done) | (simp +contextual -dsimp only [↓SD, SU, simprocAttr, rdB, Ae]; done) | (simp +contextual -dsimp only [↓SD, SU, simprocAttr, rdB, c0]; done)) ?_; rintro r hp' ⟨rfl, rfl⟩)
 generalize inB (AX C s) _ = b at CI
 by_cases h3 : (AX C s).kind = 3
 ·simp +contextual -dsimp only [↓SD, SU, simprocAttr, rdB, Ab, Aa, AQ, h3]
  intro v3
  refine Ai.post (rdB C s) ?_
  simp +contextual -dsimp only [↓SD, SU, simprocAttr, rdB, Ab, Aa]
  exact ⟨_, rfl, rfl⟩
 by_cases h1 : (AX C s).kind = 1
 ·simp +contextual -dsimp only [↓SD, SU, simprocAttr, rdB, Ab, Aa, AQ, h3, h1]
  intro v3
  refine Ai.post (rdB C s) ?_
  simp +contextual -dsimp only [↓SD, SU, simprocAttr, rdB, Ab, Aa]
  exact ⟨_, rfl, rfl⟩
 by_cases h4 : (AX C s).kind = 4
 ·simp +contextual -dsimp only [↓SD, SU, simprocAttr, rdB, Ab, Aa, AQ, h3, h1, h4]
  intro v3
  refine Ai.post (rdB C s) ?_
  simp +contextual -dsimp only [↓SD, SU, simprocAttr, rdB, Ab, Aa]
  exact ⟨_, rfl, rfl⟩
 simp +contextual -dsimp only [↓SD, SU, simprocAttr, rdB, Ab, Aa, AQ, h3, h1, h4]
 intro v3
 (refine Ac [2100, 2101] (CI) (by first | (simp +contextual -dsimp only [↓SD, SU, simprocAttr, rdB]; done) | (simp +contextual -dsimp only [↓SD, SU, simprocAttr, rdB, Ae]; done) | (simp +contextual -dsimp only [↓SD, SU, simprocAttr, rdB, c0]; done)) ?_; rintro r hp' ⟨rfl, rfl⟩)
 simp +contextual -dsimp only [↓SD, SU, simprocAttr, rdB, Ab, Aa]
 refine Ai.post (rdB C s) ?_
 simp +contextual -dsimp only [↓SD, SU, simprocAttr, rdB, Ab, Aa]
 exact ⟨_, rfl, rfl⟩
theorem N9 (C : RC) (s : RS) (hs : Bc C s) : AH Tryz.prog 142 [.ptr 2100 C.v 0 0] (rdB C s) (RB C s) := by
 refine FT.H rfl ?_
 have CI := Il C s hs [bs [102, 117, 110], bs [108, 101, 116], bs [105, 102], bs [109, 97, 116, 99, 104], bs [116, 114, 121], bs [114, 97, 105, 115, 101], bs [114, 101, 102], bs [33], bs [45]] (by decide)
 have CB := Fo C s hs
 simp +contextual -dsimp only [↓SD, SU, simprocAttr, rdB, Ab, Aa, FT]
 (refine Ac [2100, 2101] (CB) (by first | (simp +contextual -dsimp only [↓SD, SU, simprocAttr, rdB]; done) | (simp +contextual -dsimp only [↓SD, SU, simprocAttr, rdB, Ae]; done) | (simp +contextual -dsimp only [↓SD, SU, simprocAttr, rdB, c0]; done)) ?_; rintro r hp' ⟨rfl, rfl⟩)
 generalize inB (AX C s) _ = b at CI
 cases Fs (AX C s)
 ·simp +contextual -dsimp only [↓SD, SU, simprocAttr, rdB, Ab, Aa]
  (refine Ac [2100, 2101] (CI) (by first | (simp +contextual -dsimp only [↓SD, SU, simprocAttr, rdB]; done) | (simp +contextual -dsimp only [↓SD, SU, simprocAttr, rdB, Ae]; done) | (simp +contextual -dsimp only [↓SD, SU, simprocAttr, rdB, c0]; done)) ?_; rintro r hp' ⟨rfl, rfl⟩)
  simp +contextual -dsimp only [↓SD, SU, simprocAttr, rdB, Ab, Aa]
  refine Ai.post (rdB C s) ?_
  simp +contextual -dsimp only [↓SD, SU, simprocAttr, rdB, Ab, Aa]
  exact ⟨_, rfl, rfl⟩
 ·simp +contextual -dsimp only [↓SD, SU, simprocAttr, rdB, Ab, Aa]
  refine Ai.post (rdB C s) ?_
  simp +contextual -dsimp only [↓SD, SU, simprocAttr, rdB, Ab, Aa]
  exact ⟨_, rfl, rfl⟩
theorem MW (C : RC) (s : RS) (hs : Bc C s) : AH Tryz.prog 150 [.ptr 2100 C.v 0 0] (rdB C s) (RB C s) := by
 have hvl := hs.2.2.2.2.1
 refine Fj.H rfl ?_
 have CI := BG C s hs (bs [40])
 simp +contextual -dsimp only [↓SD, SU, simprocAttr, rdB, Ab, Aa, Fj]
 (refine Ac [2100, 2101] (A1 C s hs) (by first | (simp +contextual -dsimp only [↓SD, SU, simprocAttr, rdB]; done) | (simp +contextual -dsimp only [↓SD, SU, simprocAttr, rdB, Ae]; done) | (simp +contextual -dsimp only [↓SD, SU, simprocAttr, rdB, c0]; done)) ?_; rintro r hp' ⟨rfl, rfl⟩)
 simp +contextual -dsimp only [↓SD, SU, simprocAttr, rdB, Ab, Aa, AQ]
 intro v3
 generalize decide (Bv (AX C s) = bs [40]) = b at CI
 refine AG (X := Nat) (fun k => ⟨[(0, .ptr 2100 C.v 0 0), (3, .ptr 3 v3 0 0), (11, .sl (s.vars.map av)), (12, .int .i64 s.vars.length), (13, .int .i64 k)], (3, ⟨v3, false, 197, 4, [.agg [.int .i64 (AX C s).kind, .int .i64 (AX C s).n, .str (AX C s).s, .int .i64 (AX C s).pos]]⟩) :: rdB C s⟩) (fun k => k ≤ s.vars.length) (fun k => s.vars.length - k) 0 (Nat.zero_le _) (by simp +contextual -dsimp only [↓SD, SU, simprocAttr]) (by simp +contextual -dsimp only [↓SD, SU, simprocAttr, rdB]) ?_
 intro k hk
 by_cases hlt : k < s.vars.length
 ·have e1 := getD_map av s.vars k .top hlt
  generalize s.vars[k] = x at *
  by_cases h5 : (AX C s).kind = 5
  ·by_cases hx : x = (AX C s).n
   ·simp +contextual -dsimp only [↓SD, SU, simprocAttr, rdB, Ab, Aa, hlt, e1, Ae, h5, hx]
    refine Ai.post (rdB C s) ?_
    simp +contextual -dsimp only [↓SD, SU, simprocAttr, rdB, Ab, Aa]
    exact ⟨_, rfl, rfl⟩
   ·simp +contextual -dsimp only [↓SD, SU, simprocAttr, rdB, Ab, Aa, hlt, e1, Ae, h5, hx]
    exact ⟨by omega, Ai.le ⟨k + 1, ⟨hlt, (by first | omega | (simp only; omega))⟩, rfl⟩ (by simp +contextual -dsimp only [↓SD, SU, simprocAttr, Int.natCast_add]) (by simp +contextual -dsimp only [↓SD, SU, simprocAttr, rdB, h5])⟩
  ·simp +contextual -dsimp only [↓SD, SU, simprocAttr, rdB, Ab, Aa, hlt, e1, Ae, h5]
   exact ⟨by omega, Ai.le ⟨k + 1, ⟨hlt, (by first | omega | (simp only; omega))⟩, rfl⟩ (by simp +contextual -dsimp only [↓SD, SU, simprocAttr, Int.natCast_add]) (by simp +contextual -dsimp only [↓SD, SU, simprocAttr, rdB])⟩
 ·by_cases h3 : (AX C s).kind = 3
  ·simp +contextual -dsimp only [↓SD, SU, simprocAttr, rdB, Ab, Aa, hlt, h3]
   refine Ai.post (rdB C s) ?_
   simp +contextual -dsimp only [↓SD, SU, simprocAttr, rdB, Ab, Aa]
   exact ⟨_, rfl, rfl⟩
  ·simp +contextual -dsimp only [↓SD, SU, simprocAttr, rdB, Ab, Aa, hlt, h3]
   (refine Ac [2100, 2101] (CI) (by first | (simp +contextual -dsimp only [↓SD, SU, simprocAttr, rdB]; done) | (simp +contextual -dsimp only [↓SD, SU, simprocAttr, rdB, Ae]; done) | (simp +contextual -dsimp only [↓SD, SU, simprocAttr, rdB, c0]; done)) ?_; rintro r hp' ⟨rfl, rfl⟩)
   simp +contextual -dsimp only [↓SD, SU, simprocAttr, rdB, Ab, Aa]
   refine Ai.post (rdB C s) ?_
   simp +contextual -dsimp only [↓SD, SU, simprocAttr, rdB, Ab, Aa]
   exact ⟨_, rfl, rfl⟩
def Unf (hp : Hp) : Prop := ∀ p ∈ hp, p.2.frz = false
theorem Ad : Unf [] := fun p h => by cases h
theorem AO {k v : Nat} {ty : TypeId} {e : Nat} {es : List AV} {hp : Hp} (h : Unf hp) : Unf ((k, ⟨v, false, ty, e, es⟩) :: hp) := fun p hp' => by
 rcases List.mem_cons.1 hp' with rfl | h'
 ·rfl
 ·exact h p h'
theorem Ax (k v : Nat) (ty : TypeId) (e : Nat) (es : List AV) (hp : Hp) : Unf ((k, ⟨v, false, ty, e, es⟩) :: hp) = Unf hp := propext ⟨fun h p hp' => h p (List.mem_cons_of_mem _ hp'), AO⟩
theorem SF : ∀ {hp : Hp} {k : Nat} {b : Box}, Aw hp k = some b → (k, b) ∈ hp
 | (j, c) :: r, k, b, h => by
  simp only [Aw] at h
  split at h
  ·rename_i e; cases h; subst e; exact List.mem_cons_self
  ·exact List.mem_cons_of_mem _ (SF h)
theorem Unf.get {hp : Hp} (h : Unf hp) {k : Nat} {b : Box} (hb : Aw hp k = some b) : b.frz = false := h _ (SF hb)
theorem Vx {hp : Hp} (h : Unf hp) (k v n : Nat) : (AV.row k v n).Bs hp = .row k v n := by
 show (match Aw hp k with | some b => if b.ver = v ∧ b.frz = true ∧ n ≤ b.es.length then AV.sl (b.es.take n) else AV.row k v n | none => AV.row k v n) = _
 cases hb : Aw hp k with
 | none => rfl
 | some b =>
  dsimp only
  rw [if_neg (fun e => by rw [h.get hb] at e; cases e.2.1)]
def LX (K : AV) : Prop := K.one = true ∧ ∀ hp, Unf hp → K.Bs hp = K
theorem LX.row (k v n : Nat) : LX (.row k v n) := ⟨rfl, fun hp h => Vx h k v n⟩
theorem LX.sl (es : List AV) : LX (.sl es) := ⟨rfl, fun hp h => rfl⟩
theorem LX.Au : LX .Au := ⟨rfl, fun hp h => rfl⟩
theorem A7 (k p : Int) (s : ByteArray) (K : AV) (hK : LX K) : AH Tryz.prog 143 [.int .i64 k, .int .i64 p, .str s, K] [] (fun r hp' => r = .agg [.int .i64 k, .int .i64 p, .int .i64 0, .str s, .Au, .Au, K] ∧ hp' = []) := by
 obtain ⟨h1, h2⟩ := hK
 refine Iq.H rfl ?_
 simp +contextual -dsimp only [↓SD, SU, simprocAttr, Iq, h1]
 intro v8
 refine Ai.post [] ?_
 have h3 := h2 [(8, ⟨v8, false, 181, 7, [.agg [.int .i64 k, .int .i64 p, .int .i64 0, .str s, .Au, .Au, K]]⟩), (8, ⟨v8, false, 181, 7, [.agg [.int .i64 0, .int .i64 0, .int .i64 0, .str (bs []), .Au, .Au, .Au]]⟩)] (AO (AO Ad))
 simp +contextual -dsimp only [↓SD, SU, simprocAttr, h1]
 rw [h3]
def BL (l : List Ty) : List Ck := (l.map Ty.items).flatten
def DD (s : ByteArray) (l : List Ty) : Ty := ⟨⟨0, s, l.length⟩ :: BL l⟩
theorem LA (l : List Ty) (k : Nat) (h : k < l.length) : BL (l.take (k + 1)) = BL (l.take k) ++ l[k].items := by
 unfold BL
 rw [List.take_succ_eq_append_getElem h, List.map_append, List.flatten_append]; simp
theorem Ya (l : List Ty) (k : Nat) (h : k < l.length) : (BL (l.take k)).length + l[k].items.length ≤ (BL l).length := by
 have e : BL l = BL (l.take (k + 1)) ++ BL (l.drop (k + 1)) := by
  unfold BL
  rw [← List.flatten_append, ← List.map_append, List.take_append_drop]
 have e2 := LA l k h
 rw [e, e2, List.length_append, List.length_append]
 omega
theorem Gf (s : ByteArray) (l : List Ty) (hl : l.length ≤ 1000) (hb : (BL l).length ≤ 1000000) : AH Tryz.prog 152 [.str s, .sl (l.map av)] [] (fun r hp' => r = av (DD s l) ∧ hp' = []) := by
 refine DM.H rfl ?_
 simp +contextual -dsimp only [↓SD, SU, simprocAttr, DM, Aa]
 intro v4 v11 v5
 refine AG (X := Nat × Nat) (fun x => ⟨[(1, .sl (l.map av)), (4, .ptr 4 v4 0 0), (5, .ptr 5 v5 0 0), (14, .int .i64 l.length), (15, .int .i64 x.1)], [(5, ⟨v5, false, 209, 1, [.agg [.row 11 x.2 (1 + (BL (l.take x.1)).length)]]⟩), (11, ⟨x.2, false, 228, 3, .agg [.int .i64 0, .str s, .int .i64 l.length] :: (BL (l.take x.1)).map av⟩), (4, ⟨v4, false, 209, 1, [.agg [.Au]]⟩)]⟩) (fun x => x.1 ≤ l.length) (fun x => l.length - x.1) (0, v11) (Nat.zero_le _) (by simp +contextual -dsimp only [↓SD, SU, simprocAttr]) (by simp +contextual -dsimp only [↓SD, SU, simprocAttr, List.take_zero, show BL [] = [] from rfl]) ?_
 rintro ⟨k, u⟩ hk
 dsimp only at hk ⊢
 by_cases hlt : k < l.length
 ·have e1 := getD_map av l k .top hlt
  have h1 := LA l k hlt
  have h2 := Ya l k hlt
  have hln : ((BL (l.take k)).map (av : Ck → AV)).length = (BL (l.take k)).length := List.length_map _
  generalize BL (l.take k) = A at *
  generalize l[k] = x at *
  obtain ⟨x⟩ := x
  dsimp only at h1 h2
  rw [PO] at e1
  have htk : List.take (1 + A.length) (.agg [.int .i64 0, .str s, .int .i64 l.length] :: A.map (av : Ck → AV)) = .agg [.int .i64 0, .str s, .int .i64 l.length] :: A.map av := List.take_of_length_le (by simp; omega)
  have hit : ∀ e ∈ x.map (av : Ck → AV), e.cells.length = 3 := fun e he => by obtain ⟨y, _, rfl⟩ := List.mem_map.1 he; rfl
  simp +contextual -dsimp only [↓SD, SU, simprocAttr, hlt, Aa, e1, Ab, htk]
  refine ⟨⟨by omega, hit, by omega, by unfold maxLen; omega⟩, fun v => ⟨by omega, ?_⟩⟩
  exact Ai.le ⟨(k + 1, v), ⟨hlt, (by first | omega | (simp only; omega))⟩, rfl⟩ (by simp +contextual -dsimp only [↓SD, SU, simprocAttr, Int.natCast_add]) (by simp +contextual -dsimp only [↓SD, SU, simprocAttr, h1, List.map_append, List.length_append, Nat.add_assoc])
 ·obtain rfl : k = l.length := by omega
  have htk : List.take (1 + (BL l).length) (.agg [.int .i64 0, .str s, .int .i64 l.length] :: (BL l).map (av : Ck → AV)) = .agg [.int .i64 0, .str s, .int .i64 l.length] :: (BL l).map av := List.take_of_length_le (by simp; omega)
  have hle : 1 + (BL l).length ≤ (BL l).length + 1 := by omega
  rw [List.take_length]
  simp +contextual -dsimp only [↓SD, SU, simprocAttr, Nat.lt_irrefl]
  refine Ai.frz 11 (Ai.post [] ?_)
  simp +contextual -dsimp only [↓SD, SU, simprocAttr, Ab, Aa, hle, htk]
  rfl
theorem Qu (s : ByteArray) : AH Tryz.prog 152 [.str s, .Au] [] (fun r hp' => r = av (DD s []) ∧ hp' = []) := by
 refine DM.H rfl ?_
 simp +contextual -dsimp only [↓SD, SU, simprocAttr, DM, Aa]
 intro v4 v11 v5
 refine AG (X := Nat) (fun x => ⟨[(1, .Au), (4, .ptr 4 v4 0 0), (5, .ptr 5 v5 0 0), (14, .int .i64 0), (15, .int .i64 0)], [(5, ⟨v5, false, 209, 1, [.agg [.row 11 v11 1]]⟩), (11, ⟨v11, false, 228, 3, [.agg [.int .i64 0, .str s, .int .i64 0]]⟩), (4, ⟨v4, false, 209, 1, [.agg [.Au]]⟩)]⟩) (fun x => True) (fun x => 0) 0 trivial (by simp +contextual -dsimp only [↓SD, SU, simprocAttr]) (by simp +contextual -dsimp only [↓SD, SU, simprocAttr]) ?_
 intro k _
 simp +contextual -dsimp only [↓SD, SU, simprocAttr]
 refine Ai.frz 11 (Ai.post [] ?_)
 simp +contextual -dsimp only [↓SD, SU, simprocAttr]
 rfl
end Go.Proofs.YteeiaaogmjbcjaaGreat
