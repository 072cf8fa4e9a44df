/-
 THE READER OF THE REFERENCE, told weakly: it stays within its tokens; what it only looks at is told exactly. Conditions: none.
-/
import Derived.Test.YteeiaaogmjbcjaaGreatHLexW
import Derived.Test.YteeiaaogmjbcjaaGreatHJ24
import Derived.Test.YteeiaaogmjbcjaaGreatHJ25
import Derived.Test.YteeiaaogmjbcjaaGreatHJ26
set_option linter.unusedVariables false
set_option linter.unusedSimpArgs false
set_option maxRecDepth 100000
namespace Go.Proofs.YteeiaaogmjbcjaaGreat
open Go.RowKit Go.Proofs.YteeiaaogmjbcjaaGreat.Av Go.Proofs.YteeiaaogmjbcjaaGreat.Ml
open Go.Proofs.YteeiaaogmjbcjaaGreat.Av.AVal (av)

structure RC where
 L : List TokD
 E : Int
 m : Nat
 v : Nat
structure RS where
 i : Nat
 code : Int
 pos : Int
 vars : List Int
 seen : List ByteArray
 sv : Nat
def rdB (C : RC) (s : RS) : Hp := [(2100, ⟨C.v, false, 173, 7, [.agg [.sl (C.L.map av), .int .i64 s.i, .int .i64 C.E, .int .i64 s.code, .int .i64 s.pos, .sl (s.vars.map av), .row 2101 s.sv s.seen.length]]⟩), (2101, ⟨s.sv, false, 9, 1, s.seen.map av⟩)]
def RC.ok (C : RC) : Prop := C.L.length ≤ C.m ∧ (∀ t ∈ C.L, TokOk C.m t) ∧ 0 ≤ C.E ∧ C.E ≤ C.m ∧ 2 ≤ C.m ∧ C.m ≤ 100000
def RdOk (C : RC) (s : RS) : Prop := C.ok ∧ s.i ≤ C.L.length ∧ (0 ≤ s.code ∧ s.code ≤ 100) ∧ (0 ≤ s.pos ∧ s.pos ≤ C.m) ∧ s.vars.length ≤ 2 ∧ s.seen.length ≤ s.i ∧ ∀ x ∈ s.seen, x.size ≤ C.m
def RP (C : RC) (s : RS) (P : RS → AV → Prop) (r : AV) (hp' : Hp) : Prop := ∃ s', hp' = rdB C s' ∧ RdOk C s' ∧ s.i ≤ s'.i ∧ (s'.code = 0 → s.code = 0) ∧ P s' r
def RK (C : RC) (s : RS) (x : AV) (r : AV) (hp' : Hp) : Prop := r = x ∧ hp' = rdB C s
def tokA (C : RC) (s : RS) : TokD := if s.code = 0 then C.L.getD s.i ⟨0, 0, bs [], C.E⟩ else ⟨0, 0, bs [], C.E⟩
def TokW (m : Nat) (t : TokD) : Prop := (0 ≤ t.kind ∧ t.kind ≤ 6) ∧ (-9000000000000000000 ≤ t.n ∧ t.n ≤ 9000000000000000000) ∧ t.s.size ≤ m ∧ 0 ≤ t.pos ∧ t.pos ≤ m
theorem tokA_ok {C : RC} {s : RS} (h : RdOk C s) : TokW C.m (tokA C s) ∧ ((tokA C s).kind ≠ 0 → s.i < C.L.length ∧ s.code = 0) := by
 obtain ⟨⟨c1, c2, c3, c4, c5⟩, h1, h2, h3, h4, h5, h6⟩ := h
 have e0 : (bs []).size = 0 := rfl
 have hz : TokW C.m ⟨0, 0, bs [], C.E⟩ := by
  refine ⟨⟨?_, ?_⟩, ⟨?_, ?_⟩, ?_, ?_, ?_⟩ <;> dsimp only <;> omega
 unfold tokA
 split
 ·rename_i hc
  by_cases hi : s.i < C.L.length
  ·rw [List.getD_eq_getElem?_getD, List.getElem?_eq_getElem hi, Option.getD_some]
   have := c2 _ (List.getElem_mem hi)
   exact ⟨⟨⟨by have := this.1; omega, this.1.2⟩, this.2.1, this.2.2.1, this.2.2.2⟩, fun _ => ⟨hi, hc⟩⟩
  ·rw [List.getD_eq_getElem?_getD, List.getElem?_eq_none (by omega), Option.getD_none]
   exact ⟨hz, fun h => absurd rfl h⟩
 ·exact ⟨hz, fun h => absurd rfl h⟩
theorem sign_at {C : RC} {s : RS} (h : RdOk C s) {x : ByteArray} (hx : x ≠ bs []) (e : signA (tokA C s) = x) : s.i < C.L.length ∧ s.code = 0 := by
 refine (tokA_ok h).2 fun h0 => hx ?_
 rw [← e, signA, h0, if_neg (by decide)]
theorem l03Fault_ok (C : RC) (s : RS) (hs : RdOk C s) (k : Int) (hk : 0 < k ∧ k ≤ 100) : CallsH Tryz.prog 115 [.ptr 2100 C.v 0 0, .int .i64 k] (rdB C s) (RP C s fun s' r => r = .tup [] ∧ s'.i = s.i ∧ s'.code ≠ 0) := by
 obtain ⟨⟨c1, c2, c3, c4, c5⟩, h1, h2, h3, h4, h5, h6⟩ := hs
 have hs : RdOk C s := ⟨⟨c1, c2, c3, c4, c5⟩, h1, h2, h3, h4, h5, h6⟩
 refine ir_spec_l03Fault.H rfl ?_
 unfold rdB
 by_cases hc : s.code = 0
 ·by_cases hi : s.i < C.L.length
  ·have e1 := getD_map av C.L s.i .top hi
   have ht := c2 _ (List.getElem_mem hi)
   generalize C.L[s.i] = t at *
   simp +contextual -dsimp (maxSteps := 2000000) only [↓SD, SU, SB, simprocAttr, ir_spec_l03Fault, map_len, map_nop, hc, hi, e1, av_TokD]
   refine Goes.post (rdB C { s with code := k, pos := t.pos }) ?_
   unfold rdB
   simp +contextual -dsimp (maxSteps := 2000000) only [↓SD, SU, SB, simprocAttr, map_nop]
   exact ⟨{ s with code := k, pos := t.pos }, rfl, ⟨⟨c1, c2, c3, c4, c5⟩, h1, by dsimp only; omega, ht.2.2.2, h4, h5, h6⟩, Nat.le_refl _, fun h => absurd h (by dsimp only; omega), rfl, rfl, by dsimp only; omega⟩
  ·simp +contextual -dsimp (maxSteps := 2000000) only [↓SD, SU, SB, simprocAttr, ir_spec_l03Fault, map_len, map_nop, hc, hi]
   refine Goes.post (rdB C { s with code := k, pos := C.E }) ?_
   unfold rdB
   simp +contextual -dsimp (maxSteps := 2000000) only [↓SD, SU, SB, simprocAttr, map_nop]
   exact ⟨{ s with code := k, pos := C.E }, rfl, ⟨⟨c1, c2, c3, c4, c5⟩, h1, by dsimp only; omega, ⟨c3, c4⟩, h4, h5, h6⟩, Nat.le_refl _, fun h => absurd h (by dsimp only; omega), rfl, rfl, by dsimp only; omega⟩
 ·simp +contextual -dsimp (maxSteps := 2000000) only [↓SD, SU, SB, simprocAttr, ir_spec_l03Fault, map_len, map_nop, hc]
  refine Goes.post (rdB C s) ?_
  unfold rdB
  simp +contextual -dsimp (maxSteps := 2000000) only [↓SD, SU, SB, simprocAttr, map_nop]
  exact ⟨s, rfl, hs, Nat.le_refl _, fun h => h, rfl, rfl, hc⟩
theorem RdOk.small {C : RC} {s : RS} (h : RdOk C s) : s.i ≤ 100000 ∧ C.L.length ≤ 100000 ∧ C.m ≤ 100000 := by
 obtain ⟨⟨c1, c2, c3, c4, c5⟩, h1, _⟩ := h
 omega
theorem l03Tok_ok (C : RC) (s : RS) (hs : RdOk C s) : CallsH Tryz.prog 136 [.ptr 2100 C.v 0 0] (rdB C s) (RK C s (av (tokA C s))) := by
 refine ir_spec_l03Tok.H rfl ?_
 unfold tokA rdB
 by_cases hc : s.code = 0
 ·by_cases hi : s.i < C.L.length
  ·have hi2 : ¬ C.L.length ≤ s.i := by omega
   have e1 := getD_map av C.L s.i .top hi
   have e2 : C.L.getD s.i ⟨0, 0, bs [], C.E⟩ = C.L[s.i] := by rw [List.getD_eq_getElem?_getD, List.getElem?_eq_getElem hi, Option.getD_some]
   rw [e2]
   generalize C.L[s.i] = t at *
   simp +contextual -dsimp (maxSteps := 2000000) only [↓SD, SU, SB, simprocAttr, ir_spec_l03Tok, map_len, map_nop, hc, hi, hi2, e1, av_TokD]
   intro v2
   refine Goes.post (rdB C s) ?_
   unfold rdB
   simp +contextual -dsimp (maxSteps := 2000000) only [↓SD, SU, SB, simprocAttr, map_nop, hc, RK, av_TokD, rdB]
  ·have hi2 : C.L.length ≤ s.i := by omega
   have e2 : C.L.getD s.i ⟨0, 0, bs [], C.E⟩ = ⟨0, 0, bs [], C.E⟩ := by rw [List.getD_eq_getElem?_getD, List.getElem?_eq_none (by omega), Option.getD_none]
   rw [e2]
   simp +contextual -dsimp (maxSteps := 2000000) only [↓SD, SU, SB, simprocAttr, ir_spec_l03Tok, map_len, map_nop, hc, hi, hi2]
   intro v2
   refine Goes.post (rdB C s) ?_
   unfold rdB
   simp +contextual -dsimp (maxSteps := 2000000) only [↓SD, SU, SB, simprocAttr, map_nop, hc, RK, av_TokD, rdB]
 ·simp +contextual -dsimp (maxSteps := 2000000) only [↓SD, SU, SB, simprocAttr, ir_spec_l03Tok, map_len, map_nop, hc]
  intro v2
  refine Goes.post (rdB C s) ?_
  unfold rdB
  simp +contextual -dsimp (maxSteps := 2000000) only [↓SD, SU, SB, simprocAttr, map_nop, hc, RK, av_TokD, rdB]
theorem l03Is_ok (C : RC) (s : RS) (hs : RdOk C s) (x : ByteArray) : CallsH Tryz.prog 112 [.ptr 2100 C.v 0 0, .str x] (rdB C s) (RK C s (.bool (decide (signA (tokA C s) = x)))) := by
 refine ir_spec_l03Is.H rfl ?_
 simp +contextual -dsimp (maxSteps := 2000000) only [↓SD, SU, SB, simprocAttr, rdB, map_nop, map_len, ir_spec_l03Is]
 (refine aCallH_of [2100, 2101] (l03Tok_ok C s hs) (by first | (simp +contextual -dsimp (maxSteps := 2000000) only [↓SD, SU, SB, simprocAttr, rdB]; done) | (simp +contextual -dsimp (maxSteps := 2000000) only [↓SD, SU, SB, simprocAttr, rdB, av_int]; done) | (simp +contextual -dsimp (maxSteps := 2000000) only [↓SD, SU, SB, simprocAttr, rdB, c0]; done)) ?_; rintro r hp' ⟨rfl, rfl⟩)
 simp +contextual -dsimp (maxSteps := 2000000) only [↓SD, SU, SB, simprocAttr, rdB, map_nop, map_len, av_TokD]
 refine aCallK_of _ (SignOf_ok (tokA C s)) ?_
 simp +contextual -dsimp (maxSteps := 2000000) only [↓SD, SU, SB, simprocAttr, rdB, map_nop, map_len]
 refine Goes.post (rdB C s) ?_
 simp +contextual -dsimp (maxSteps := 2000000) only [↓SD, SU, SB, simprocAttr, rdB, map_nop, map_len, RK]
theorem l03Take_ok (C : RC) (s : RS) (hs : RdOk C s) (x : ByteArray) (hx : x ≠ bs []) : CallsH Tryz.prog 138 [.ptr 2100 C.v 0 0, .str x] (rdB C s) (RP C s fun s' r => r = .tup [] ∧ (s'.code ≠ 0 ∨ s'.i = s.i + 1)) := by
 have CI := l03Is_ok C s hs x
 have hat := sign_at hs hx
 refine ir_spec_l03Take.H rfl ?_
 by_cases h : signA (tokA C s) = x
 ·rw [decide_eq_true h] at CI
  obtain ⟨h1, h2⟩ := hat h
  have hsm := hs.small
  obtain ⟨g0, g1, g2, g3, g4, g5, g6⟩ := hs
  have e : (s.i : Int) + 1 = ((s.i + 1 : Nat) : Int) := by omega
  simp +contextual -dsimp (maxSteps := 2000000) only [↓SD, SU, SB, simprocAttr, rdB, map_nop, map_len, ir_spec_l03Take]
  (refine aCallH_of [2100, 2101] (CI) (by first | (simp +contextual -dsimp (maxSteps := 2000000) only [↓SD, SU, SB, simprocAttr, rdB]; done) | (simp +contextual -dsimp (maxSteps := 2000000) only [↓SD, SU, SB, simprocAttr, rdB, av_int]; done) | (simp +contextual -dsimp (maxSteps := 2000000) only [↓SD, SU, SB, simprocAttr, rdB, c0]; done)) ?_; rintro r hp' ⟨rfl, rfl⟩)
  simp +contextual -dsimp (maxSteps := 2000000) only [↓SD, SU, SB, simprocAttr, rdB, map_nop, map_len, e]
  refine ⟨by omega, ?_⟩
  refine Goes.post (rdB C { s with i := s.i + 1 }) ?_
  simp +contextual -dsimp (maxSteps := 2000000) only [↓SD, SU, SB, simprocAttr, rdB, map_nop, map_len]
  exact ⟨{ s with i := s.i + 1 }, rfl, ⟨g0, h1, g2, g3, g4, by dsimp only; omega, g6⟩, Nat.le_succ _, fun h => h, rfl, .inr rfl⟩
 ·rw [decide_eq_false h] at CI
  simp +contextual -dsimp (maxSteps := 2000000) only [↓SD, SU, SB, simprocAttr, rdB, map_nop, map_len, ir_spec_l03Take]
  (refine aCallH_of [2100, 2101] (CI) (by first | (simp +contextual -dsimp (maxSteps := 2000000) only [↓SD, SU, SB, simprocAttr, rdB]; done) | (simp +contextual -dsimp (maxSteps := 2000000) only [↓SD, SU, SB, simprocAttr, rdB, av_int]; done) | (simp +contextual -dsimp (maxSteps := 2000000) only [↓SD, SU, SB, simprocAttr, rdB, c0]; done)) ?_; rintro r hp' ⟨rfl, rfl⟩)
  simp +contextual -dsimp (maxSteps := 2000000) only [↓SD, SU, SB, simprocAttr, rdB, map_nop, map_len]
  (refine aCallH_of [2100, 2101] (l03Fault_ok C s hs 7 (by omega)) (by first | (simp +contextual -dsimp (maxSteps := 2000000) only [↓SD, SU, SB, simprocAttr, rdB]; done) | (simp +contextual -dsimp (maxSteps := 2000000) only [↓SD, SU, SB, simprocAttr, rdB, av_int]; done) | (simp +contextual -dsimp (maxSteps := 2000000) only [↓SD, SU, SB, simprocAttr, rdB, c0]; done)) ?_; rintro r hp' ⟨s', rfl, hs', hi, hc, rfl, hi', hc'⟩)
  simp +contextual -dsimp (maxSteps := 2000000) only [↓SD, SU, SB, simprocAttr, rdB, map_nop, map_len]
  refine Goes.post (rdB C s') ?_
  simp +contextual -dsimp (maxSteps := 2000000) only [↓SD, SU, SB, simprocAttr, rdB, map_nop, map_len]
  exact ⟨s', rfl, hs', hi, hc, rfl, .inl hc'⟩
def WordP (C : RC) (s : RS) (s' : RS) (r : AV) : Prop := ∃ x : ByteArray, r = .str x ∧ x.size ≤ C.m ∧ (s'.code ≠ 0 ∨ s'.i = s.i + 1)
theorem l03Word_ok (C : RC) (s : RS) (hs : RdOk C s) (k : Int) (hk : k ≠ 0) : CallsH Tryz.prog 139 [.ptr 2100 C.v 0 0, .int .i64 k] (rdB C s) (RP C s (WordP C s)) := by
 obtain ⟨ht, hat⟩ := tokA_ok hs
 refine ir_spec_l03Word.H rfl ?_
 simp +contextual -dsimp (maxSteps := 2000000) only [↓SD, SU, SB, simprocAttr, rdB, map_nop, map_len, ir_spec_l03Word]
 (refine aCallH_of [2100, 2101] (l03Tok_ok C s hs) (by first | (simp +contextual -dsimp (maxSteps := 2000000) only [↓SD, SU, SB, simprocAttr, rdB]; done) | (simp +contextual -dsimp (maxSteps := 2000000) only [↓SD, SU, SB, simprocAttr, rdB, av_int]; done) | (simp +contextual -dsimp (maxSteps := 2000000) only [↓SD, SU, SB, simprocAttr, rdB, c0]; done)) ?_; rintro r hp' ⟨rfl, rfl⟩)
 by_cases h : (tokA C s).kind = k
 ·obtain ⟨h1, h2⟩ := hat (by omega)
  have hsm := hs.small
  obtain ⟨g0, g1, g2, g3, g4, g5, g6⟩ := hs
  have e : (s.i : Int) + 1 = ((s.i + 1 : Nat) : Int) := by omega
  simp +contextual -dsimp (maxSteps := 2000000) only [↓SD, SU, SB, simprocAttr, rdB, map_nop, map_len, av_TokD, h, e]
  intro v5
  refine ⟨by omega, ?_⟩
  refine Goes.post (rdB C { s with i := s.i + 1 }) ?_
  simp +contextual -dsimp (maxSteps := 2000000) only [↓SD, SU, SB, simprocAttr, rdB, map_nop, map_len]
  exact ⟨{ s with i := s.i + 1 }, rfl, ⟨g0, h1, g2, g3, g4, by dsimp only; omega, g6⟩, Nat.le_succ _, fun h => h, _, rfl, ht.2.2.1, .inr rfl⟩
 ·simp +contextual -dsimp (maxSteps := 2000000) only [↓SD, SU, SB, simprocAttr, rdB, map_nop, map_len, av_TokD, h]
  intro v5
  (refine aCallH_of [2100, 2101] (l03Fault_ok C s hs 7 (by omega)) (by first | (simp +contextual -dsimp (maxSteps := 2000000) only [↓SD, SU, SB, simprocAttr, rdB]; done) | (simp +contextual -dsimp (maxSteps := 2000000) only [↓SD, SU, SB, simprocAttr, rdB, av_int]; done) | (simp +contextual -dsimp (maxSteps := 2000000) only [↓SD, SU, SB, simprocAttr, rdB, c0]; done)) ?_; rintro r hp' ⟨s', rfl, hs', hi, hc, rfl, hi', hc'⟩)
  simp +contextual -dsimp (maxSteps := 2000000) only [↓SD, SU, SB, simprocAttr, rdB, map_nop, map_len]
  refine Goes.post (rdB C s') ?_
  simp +contextual -dsimp (maxSteps := 2000000) only [↓SD, SU, SB, simprocAttr, rdB, map_nop, map_len]
  exact ⟨s', rfl, hs', hi, hc, bs [], rfl, Nat.zero_le _, .inl hc'⟩
def tyWordB (t : TokD) : Bool := decide (t.kind = 3) || decide (signA t = bs [114, 101, 102])
theorem l03TyWord_ok (C : RC) (s : RS) (hs : RdOk C s) : CallsH Tryz.prog 160 [.ptr 2100 C.v 0 0] (rdB C s) (RK C s (.bool (tyWordB (tokA C s)))) := by
 refine ir_spec_l03TyWord.H rfl ?_
 unfold tyWordB
 simp +contextual -dsimp (maxSteps := 2000000) only [↓SD, SU, SB, simprocAttr, rdB, map_nop, map_len, ir_spec_l03TyWord]
 (refine aCallH_of [2100, 2101] (l03Tok_ok C s hs) (by first | (simp +contextual -dsimp (maxSteps := 2000000) only [↓SD, SU, SB, simprocAttr, rdB]; done) | (simp +contextual -dsimp (maxSteps := 2000000) only [↓SD, SU, SB, simprocAttr, rdB, av_int]; done) | (simp +contextual -dsimp (maxSteps := 2000000) only [↓SD, SU, SB, simprocAttr, rdB, c0]; done)) ?_; rintro r hp' ⟨rfl, rfl⟩)
 by_cases h : (tokA C s).kind = 3
 ·simp +contextual -dsimp (maxSteps := 2000000) only [↓SD, SU, SB, simprocAttr, rdB, map_nop, map_len, av_TokD, h]
  refine Goes.post (rdB C s) ?_
  simp +contextual -dsimp (maxSteps := 2000000) only [↓SD, SU, SB, simprocAttr, rdB, map_nop, map_len, RK, h]
 ·simp +contextual -dsimp (maxSteps := 2000000) only [↓SD, SU, SB, simprocAttr, rdB, map_nop, map_len, av_TokD, h]
  (refine aCallH_of [2100, 2101] (l03Is_ok C s hs _) (by first | (simp +contextual -dsimp (maxSteps := 2000000) only [↓SD, SU, SB, simprocAttr, rdB]; done) | (simp +contextual -dsimp (maxSteps := 2000000) only [↓SD, SU, SB, simprocAttr, rdB, av_int]; done) | (simp +contextual -dsimp (maxSteps := 2000000) only [↓SD, SU, SB, simprocAttr, rdB, c0]; done)) ?_; rintro r hp' ⟨rfl, rfl⟩)
  simp +contextual -dsimp (maxSteps := 2000000) only [↓SD, SU, SB, simprocAttr, rdB, map_nop, map_len]
  refine Goes.post (rdB C s) ?_
  simp +contextual -dsimp (maxSteps := 2000000) only [↓SD, SU, SB, simprocAttr, rdB, map_nop, map_len, RK, h]
theorem tyWord_at {C : RC} {s : RS} (h : RdOk C s) (e : tyWordB (tokA C s) = true) : s.i < C.L.length ∧ s.code = 0 := by
 unfold tyWordB at e
 rw [Bool.or_eq_true, decide_eq_true_eq, decide_eq_true_eq] at e
 rcases e with e | e
 ·exact (tokA_ok h).2 (by omega)
 ·exact sign_at h (by decide) e
theorem l03TyName_ok (C : RC) (s : RS) (hs : RdOk C s) : CallsH Tryz.prog 161 [.ptr 2100 C.v 0 0] (rdB C s) (RP C s (WordP C s)) := by
 obtain ⟨ht, _⟩ := tokA_ok hs
 have CW := l03TyWord_ok C s hs
 have hat := tyWord_at hs
 refine ir_spec_l03TyName.H rfl ?_
 simp +contextual -dsimp (maxSteps := 2000000) only [↓SD, SU, SB, simprocAttr, rdB, map_nop, map_len, ir_spec_l03TyName]
 (refine aCallH_of [2100, 2101] (l03Tok_ok C s hs) (by first | (simp +contextual -dsimp (maxSteps := 2000000) only [↓SD, SU, SB, simprocAttr, rdB]; done) | (simp +contextual -dsimp (maxSteps := 2000000) only [↓SD, SU, SB, simprocAttr, rdB, av_int]; done) | (simp +contextual -dsimp (maxSteps := 2000000) only [↓SD, SU, SB, simprocAttr, rdB, c0]; done)) ?_; rintro r hp' ⟨rfl, rfl⟩)
 simp +contextual -dsimp (maxSteps := 2000000) only [↓SD, SU, SB, simprocAttr, rdB, map_nop, map_len, av_TokD]
 intro v5
 (refine aCallH_of [2100, 2101] (CW) (by first | (simp +contextual -dsimp (maxSteps := 2000000) only [↓SD, SU, SB, simprocAttr, rdB]; done) | (simp +contextual -dsimp (maxSteps := 2000000) only [↓SD, SU, SB, simprocAttr, rdB, av_int]; done) | (simp +contextual -dsimp (maxSteps := 2000000) only [↓SD, SU, SB, simprocAttr, rdB, c0]; done)) ?_; rintro r hp' ⟨rfl, rfl⟩)
 cases h : tyWordB (tokA C s) with
 | true =>
  obtain ⟨h1, h2⟩ := hat h
  have hsm := hs.small
  obtain ⟨g0, g1, g2, g3, g4, g5, g6⟩ := hs
  have e : (s.i : Int) + 1 = ((s.i + 1 : Nat) : Int) := by omega
  simp +contextual -dsimp (maxSteps := 2000000) only [↓SD, SU, SB, simprocAttr, rdB, map_nop, map_len, e]
  refine ⟨by omega, ?_⟩
  refine Goes.post (rdB C { s with i := s.i + 1 }) ?_
  simp +contextual -dsimp (maxSteps := 2000000) only [↓SD, SU, SB, simprocAttr, rdB, map_nop, map_len]
  exact ⟨{ s with i := s.i + 1 }, rfl, ⟨g0, h1, g2, g3, g4, by dsimp only; omega, g6⟩, Nat.le_succ _, fun h => h, _, rfl, ht.2.2.1, .inr rfl⟩
 | false =>
  simp +contextual -dsimp (maxSteps := 2000000) only [↓SD, SU, SB, simprocAttr, rdB, map_nop, map_len]
  (refine aCallH_of [2100, 2101] (l03Fault_ok C s hs 7 (by omega)) (by first | (simp +contextual -dsimp (maxSteps := 2000000) only [↓SD, SU, SB, simprocAttr, rdB]; done) | (simp +contextual -dsimp (maxSteps := 2000000) only [↓SD, SU, SB, simprocAttr, rdB, av_int]; done) | (simp +contextual -dsimp (maxSteps := 2000000) only [↓SD, SU, SB, simprocAttr, rdB, c0]; done)) ?_; rintro r hp' ⟨s', rfl, hs', hi, hc, rfl, hi', hc'⟩)
  simp +contextual -dsimp (maxSteps := 2000000) only [↓SD, SU, SB, simprocAttr, rdB, map_nop, map_len]
  refine Goes.post (rdB C s') ?_
  simp +contextual -dsimp (maxSteps := 2000000) only [↓SD, SU, SB, simprocAttr, rdB, map_nop, map_len]
  exact ⟨s', rfl, hs', hi, hc, bs [], rfl, Nat.zero_le _, .inl hc'⟩
theorem l03Deep_ok (C : RC) (s : RS) (hs : RdOk C s) (b : Bool) : CallsH Tryz.prog 141 [.ptr 2100 C.v 0 0, .bool b] (rdB C s) (RP C s fun s' r => r = .tup [] ∧ s'.i = s.i ∧ s'.code ≠ 0) := by
 refine ir_spec_l03Deep.H rfl ?_
 cases b
 ·simp +contextual -dsimp (maxSteps := 2000000) only [↓SD, SU, SB, simprocAttr, rdB, map_nop, map_len, ir_spec_l03Deep]
  (refine aCallH_of [2100, 2101] (l03Fault_ok C s hs 7 (by omega)) (by first | (simp +contextual -dsimp (maxSteps := 2000000) only [↓SD, SU, SB, simprocAttr, rdB]; done) | (simp +contextual -dsimp (maxSteps := 2000000) only [↓SD, SU, SB, simprocAttr, rdB, av_int]; done) | (simp +contextual -dsimp (maxSteps := 2000000) only [↓SD, SU, SB, simprocAttr, rdB, c0]; done)) ?_; rintro r hp' ⟨s', rfl, hs', hi, hc, rfl, hi', hc'⟩)
  simp +contextual -dsimp (maxSteps := 2000000) only [↓SD, SU, SB, simprocAttr, rdB, map_nop, map_len]
  refine Goes.post (rdB C s') ?_
  simp +contextual -dsimp (maxSteps := 2000000) only [↓SD, SU, SB, simprocAttr, rdB, map_nop, map_len]
  exact ⟨s', rfl, hs', hi, hc, rfl, hi', hc'⟩
 ·simp +contextual -dsimp (maxSteps := 2000000) only [↓SD, SU, SB, simprocAttr, rdB, map_nop, map_len, ir_spec_l03Deep]
  (refine aCallH_of [2100, 2101] (l03Fault_ok C s hs 9 (by omega)) (by first | (simp +contextual -dsimp (maxSteps := 2000000) only [↓SD, SU, SB, simprocAttr, rdB]; done) | (simp +contextual -dsimp (maxSteps := 2000000) only [↓SD, SU, SB, simprocAttr, rdB, av_int]; done) | (simp +contextual -dsimp (maxSteps := 2000000) only [↓SD, SU, SB, simprocAttr, rdB, c0]; done)) ?_; rintro r hp' ⟨s', rfl, hs', hi, hc, rfl, hi', hc'⟩)
  simp +contextual -dsimp (maxSteps := 2000000) only [↓SD, SU, SB, simprocAttr, rdB, map_nop, map_len]
  refine Goes.post (rdB C s') ?_
  simp +contextual -dsimp (maxSteps := 2000000) only [↓SD, SU, SB, simprocAttr, rdB, map_nop, map_len]
  exact ⟨s', rfl, hs', hi, hc, rfl, hi', hc'⟩
def inB (t : TokD) (l : List ByteArray) : Bool := l.any fun x => decide (signA t = x)
theorem in_at {C : RC} {s : RS} (h : RdOk C s) {l : List ByteArray} (hl : ∀ x ∈ l, x ≠ bs []) (e : inB (tokA C s) l = true) : s.i < C.L.length ∧ s.code = 0 := by
 unfold inB at e
 rw [List.any_eq_true] at e
 obtain ⟨x, hx, e⟩ := e
 exact sign_at h (hl x hx) (by simpa using e)
def beginsB (t : TokD) : Bool := decide (t.kind = 1) || decide (t.kind = 2) || decide (t.kind = 3) || decide (t.kind = 4) || decide (signA t = bs [40]) || decide (signA t = bs [91]) || decide (signA t = bs [116, 114, 117, 101]) || decide (signA t = bs [102, 97, 108, 115, 101])
theorem begins_at {C : RC} {s : RS} (h : RdOk C s) (e : beginsB (tokA C s) = true) : s.i < C.L.length ∧ s.code = 0 := by
 unfold beginsB at e
 simp only [Bool.or_eq_true, decide_eq_true_eq] at e
 rcases e with ((((((e | e) | e) | e) | e) | e) | e) | e
 ·exact (tokA_ok h).2 (by omega)
 ·exact (tokA_ok h).2 (by omega)
 ·exact (tokA_ok h).2 (by omega)
 ·exact (tokA_ok h).2 (by omega)
 ·exact sign_at h (by decide) e
 ·exact sign_at h (by decide) e
 ·exact sign_at h (by decide) e
 ·exact sign_at h (by decide) e
theorem l03Begins_ok (C : RC) (s : RS) (hs : RdOk C s) : CallsH Tryz.prog 153 [.ptr 2100 C.v 0 0] (rdB C s) (RK C s (.bool (beginsB (tokA C s)))) := by
 refine ir_spec_l03Begins.H rfl ?_
 unfold beginsB
 simp +contextual -dsimp (maxSteps := 2000000) only [↓SD, SU, SB, simprocAttr, rdB, map_nop, map_len, ir_spec_l03Begins]
 (refine aCallH_of [2100, 2101] (l03Tok_ok C s hs) (by first | (simp +contextual -dsimp (maxSteps := 2000000) only [↓SD, SU, SB, simprocAttr, rdB]; done) | (simp +contextual -dsimp (maxSteps := 2000000) only [↓SD, SU, SB, simprocAttr, rdB, av_int]; done) | (simp +contextual -dsimp (maxSteps := 2000000) only [↓SD, SU, SB, simprocAttr, rdB, c0]; done)) ?_; rintro r hp' ⟨rfl, rfl⟩)
 simp +contextual -dsimp (maxSteps := 2000000) only [↓SD, SU, SB, simprocAttr, rdB, map_nop, map_len, av_TokD]
 intro v5
 refine aCallK_of _ (SignOf_ok (tokA C s)) ?_
 generalize tokA C s = t
 have n1 : (bs [91] = bs [40]) = False := eq_false (by decide)
 have n2 : (bs [116, 114, 117, 101] = bs [40]) = False := eq_false (by decide)
 have n3 : (bs [116, 114, 117, 101] = bs [91]) = False := eq_false (by decide)
 by_cases h1 : t.kind = 1
 ·simp +contextual -dsimp (maxSteps := 2000000) only [↓SD, SU, SB, simprocAttr, rdB, map_nop, map_len, h1]
  refine Goes.post (rdB C s) ?_
  simp +contextual -dsimp (maxSteps := 2000000) only [↓SD, SU, SB, simprocAttr, rdB, map_nop, map_len, RK, h1]
 by_cases h2 : t.kind = 2
 ·simp +contextual -dsimp (maxSteps := 2000000) only [↓SD, SU, SB, simprocAttr, rdB, map_nop, map_len, h1, h2]
  refine Goes.post (rdB C s) ?_
  simp +contextual -dsimp (maxSteps := 2000000) only [↓SD, SU, SB, simprocAttr, rdB, map_nop, map_len, RK, h1, h2]
 by_cases h3 : t.kind = 3
 ·simp +contextual -dsimp (maxSteps := 2000000) only [↓SD, SU, SB, simprocAttr, rdB, map_nop, map_len, h1, h2, h3]
  refine Goes.post (rdB C s) ?_
  simp +contextual -dsimp (maxSteps := 2000000) only [↓SD, SU, SB, simprocAttr, rdB, map_nop, map_len, RK, h1, h2, h3]
 by_cases h4 : t.kind = 4
 ·simp +contextual -dsimp (maxSteps := 2000000) only [↓SD, SU, SB, simprocAttr, rdB, map_nop, map_len, h1, h2, h3, h4]
  refine Goes.post (rdB C s) ?_
  simp +contextual -dsimp (maxSteps := 2000000) only [↓SD, SU, SB, simprocAttr, rdB, map_nop, map_len, RK, h1, h2, h3, h4]
 by_cases h5 : signA t = bs [40]
 ·simp +contextual -dsimp (maxSteps := 2000000) only [↓SD, SU, SB, simprocAttr, rdB, map_nop, map_len, h1, h2, h3, h4, h5]
  refine Goes.post (rdB C s) ?_
  simp +contextual -dsimp (maxSteps := 2000000) only [↓SD, SU, SB, simprocAttr, rdB, map_nop, map_len, RK, h1, h2, h3, h4, h5]
 by_cases h6 : signA t = bs [91]
 ·simp +contextual -dsimp (maxSteps := 2000000) only [↓SD, SU, SB, simprocAttr, rdB, map_nop, map_len, h1, h2, h3, h4, h5, h6, n1]
  refine Goes.post (rdB C s) ?_
  simp +contextual -dsimp (maxSteps := 2000000) only [↓SD, SU, SB, simprocAttr, rdB, map_nop, map_len, RK, h1, h2, h3, h4, h5, h6, n1]
 by_cases h7 : signA t = bs [116, 114, 117, 101]
 ·simp +contextual -dsimp (maxSteps := 2000000) only [↓SD, SU, SB, simprocAttr, rdB, map_nop, map_len, h1, h2, h3, h4, h5, h6, h7, n2, n3]
  refine Goes.post (rdB C s) ?_
  simp +contextual -dsimp (maxSteps := 2000000) only [↓SD, SU, SB, simprocAttr, rdB, map_nop, map_len, RK, h1, h2, h3, h4, h5, h6, h7, n2, n3]
 simp +contextual -dsimp (maxSteps := 2000000) only [↓SD, SU, SB, simprocAttr, rdB, map_nop, map_len, h1, h2, h3, h4, h5, h6, h7]
 refine Goes.post (rdB C s) ?_
 simp +contextual -dsimp (maxSteps := 2000000) only [↓SD, SU, SB, simprocAttr, rdB, map_nop, map_len, RK, h1, h2, h3, h4, h5, h6, h7]
theorem inB_drop (t : TokD) (l : List ByteArray) (k : Nat) (h : k < l.length) : inB t (l.drop k) = (decide (signA t = l[k]) || inB t (l.drop (k + 1))) := by
 rw [List.drop_eq_getElem_cons h]; rfl
theorem l03In_ok (C : RC) (s : RS) (hs : RdOk C s) (l : List ByteArray) (hl : l.length ≤ 1000) : CallsH Tryz.prog 154 [.ptr 2100 C.v 0 0, .sl (l.map av)] (rdB C s) (RK C s (.bool (inB (tokA C s) l))) := by
 refine ir_spec_l03In.H rfl ?_
 simp +contextual -dsimp (maxSteps := 2000000) only [↓SD, SU, SB, simprocAttr, rdB, map_nop, map_len, ir_spec_l03In]
 refine aLoop_of (X := Nat) (fun k => ⟨[(0, .ptr 2100 C.v 0 0), (7, .sl (l.map av)), (8, .int .i64 l.length), (9, .int .i64 k)], rdB C s⟩) (fun k => k ≤ l.length ∧ inB (tokA C s) l = inB (tokA C s) (l.drop k)) (fun k => l.length - k) 0 ⟨Nat.zero_le _, rfl⟩ (by simp +contextual -dsimp only [↓SD, SU, SB, simprocAttr]) (by simp +contextual -dsimp only [↓SD, SU, SB, simprocAttr, rdB]) ?_
 intro k ⟨hk, hp⟩
 by_cases hlt : k < l.length
 ·have e1 := getD_map av l k .top hlt
  rw [inB_drop _ _ _ hlt] at hp
  generalize l[k] = x at *
  have C1 := l03Is_ok C s hs x
  by_cases h : signA (tokA C s) = x
  ·rw [decide_eq_true h] at C1
   rw [decide_eq_true h, Bool.true_or] at hp
   simp +contextual -dsimp (maxSteps := 2000000) only [↓SD, SU, SB, simprocAttr, rdB, map_nop, map_len, hlt, e1, av_str]
   (refine aCallH_of [2100, 2101] (C1) (by first | (simp +contextual -dsimp (maxSteps := 2000000) only [↓SD, SU, SB, simprocAttr, rdB]; done) | (simp +contextual -dsimp (maxSteps := 2000000) only [↓SD, SU, SB, simprocAttr, rdB, av_int]; done) | (simp +contextual -dsimp (maxSteps := 2000000) only [↓SD, SU, SB, simprocAttr, rdB, c0]; done)) ?_; rintro r hp' ⟨rfl, rfl⟩)
   simp +contextual -dsimp (maxSteps := 2000000) only [↓SD, SU, SB, simprocAttr, rdB, map_nop, map_len]
   refine Goes.post (rdB C s) ?_
   simp +contextual -dsimp (maxSteps := 2000000) only [↓SD, SU, SB, simprocAttr, rdB, map_nop, map_len, RK, hp]
  ·rw [decide_eq_false h] at C1
   rw [decide_eq_false h, Bool.false_or] at hp
   simp +contextual -dsimp (maxSteps := 2000000) only [↓SD, SU, SB, simprocAttr, rdB, map_nop, map_len, hlt, e1, av_str]
   (refine aCallH_of [2100, 2101] (C1) (by first | (simp +contextual -dsimp (maxSteps := 2000000) only [↓SD, SU, SB, simprocAttr, rdB]; done) | (simp +contextual -dsimp (maxSteps := 2000000) only [↓SD, SU, SB, simprocAttr, rdB, av_int]; done) | (simp +contextual -dsimp (maxSteps := 2000000) only [↓SD, SU, SB, simprocAttr, rdB, c0]; done)) ?_; rintro r hp' ⟨rfl, rfl⟩)
   simp +contextual -dsimp (maxSteps := 2000000) only [↓SD, SU, SB, simprocAttr, rdB, map_nop, map_len]
   exact ⟨by omega, Goes.le ⟨k + 1, ⟨⟨hlt, hp⟩, (by first | omega | (simp only; omega))⟩, rfl⟩ (by simp +contextual -dsimp only [↓SD, SU, SB, simprocAttr, Int.natCast_add]) (by simp +contextual -dsimp only [↓SD, SU, SB, simprocAttr, rdB])⟩
 ·obtain rfl : k = l.length := by omega
  rw [List.drop_length] at hp
  simp +contextual -dsimp (maxSteps := 2000000) only [↓SD, SU, SB, simprocAttr, rdB, map_nop, map_len, Nat.lt_irrefl]
  refine Goes.post (rdB C s) ?_
  simp +contextual -dsimp (maxSteps := 2000000) only [↓SD, SU, SB, simprocAttr, rdB, map_nop, map_len, RK, hp]
  rfl
def seenB (l : List ByteArray) (t : TokD) : Bool := decide (t.kind = 3) && l.any fun x => decide (x = t.s)
theorem l03Seen_ok (C : RC) (s : RS) (hs : RdOk C s) (t : TokD) : CallsH Tryz.prog 162 [.ptr 2100 C.v 0 0, .agg [.int .i64 t.kind, .int .i64 t.n, .str t.s, .int .i64 t.pos]] (rdB C s) (RK C s (.bool (seenB s.seen t))) := by
 have hsm := hs.small
 have hsl := hs.2.2.2.2.2.1
 refine ir_spec_l03Seen.H rfl ?_
 simp +contextual -dsimp (maxSteps := 2000000) only [↓SD, SU, SB, simprocAttr, rdB, map_nop, map_len, ir_spec_l03Seen]
 refine aLoop_of (X := Nat) (fun k => ⟨[(3, .obj [.int .i64 t.kind, .int .i64 t.n, .str t.s, .int .i64 t.pos]), (10, .row 2101 s.sv s.seen.length), (11, .int .i64 s.seen.length), (12, .int .i64 k)], rdB C s⟩) (fun k => k ≤ s.seen.length ∧ seenB s.seen t = seenB (s.seen.drop k) t) (fun k => s.seen.length - k) 0 ⟨Nat.zero_le _, rfl⟩ (by simp +contextual -dsimp only [↓SD, SU, SB, simprocAttr]) (by simp +contextual -dsimp only [↓SD, SU, SB, simprocAttr, rdB]) ?_
 intro k ⟨hk, hp⟩
 by_cases hlt : k < s.seen.length
 ·have e1 := getD_map av s.seen k .top hlt
  have hd : seenB (s.seen.drop k) t = ((decide (t.kind = 3) && decide (s.seen[k] = t.s)) || seenB (s.seen.drop (k + 1)) t) := by
   unfold seenB
   rw [List.drop_eq_getElem_cons hlt, List.any_cons]
   cases decide (t.kind = 3) <;> rfl
  rw [hd] at hp
  generalize s.seen[k] = x at *
  by_cases h3 : t.kind = 3
  ·by_cases h : x = t.s
   ·simp +contextual -dsimp (maxSteps := 2000000) only [↓SD, SU, SB, simprocAttr, rdB, map_nop, map_len, hlt, e1, av_str, h3, h]
    refine Goes.post (rdB C s) ?_
    simp +contextual -dsimp (maxSteps := 2000000) only [↓SD, SU, SB, simprocAttr, rdB, map_nop, map_len, RK, hp, h3, h]
   ·rw [decide_eq_false h, Bool.and_false, Bool.false_or] at hp
    simp +contextual -dsimp (maxSteps := 2000000) only [↓SD, SU, SB, simprocAttr, rdB, map_nop, map_len, hlt, e1, av_str, h3, h]
    exact ⟨by omega, Goes.le ⟨k + 1, ⟨⟨hlt, hp⟩, (by first | omega | (simp only; omega))⟩, rfl⟩ (by simp +contextual -dsimp only [↓SD, SU, SB, simprocAttr, Int.natCast_add, h3]) (by simp +contextual -dsimp only [↓SD, SU, SB, simprocAttr, rdB])⟩
  ·rw [decide_eq_false h3, Bool.false_and, Bool.false_or] at hp
   simp +contextual -dsimp (maxSteps := 2000000) only [↓SD, SU, SB, simprocAttr, rdB, map_nop, map_len, hlt, e1, av_str, h3]
   exact ⟨by omega, Goes.le ⟨k + 1, ⟨⟨hlt, hp⟩, (by first | omega | (simp only; omega))⟩, rfl⟩ (by simp +contextual -dsimp only [↓SD, SU, SB, simprocAttr, Int.natCast_add]) (by simp +contextual -dsimp only [↓SD, SU, SB, simprocAttr, rdB])⟩
 ·obtain rfl : k = s.seen.length := by omega
  have he : seenB (s.seen.drop s.seen.length) t = false := by unfold seenB; rw [List.drop_length]; simp
  rw [he] at hp
  simp +contextual -dsimp (maxSteps := 2000000) only [↓SD, SU, SB, simprocAttr, rdB, map_nop, map_len, Nat.lt_irrefl]
  refine Goes.post (rdB C s) ?_
  simp +contextual -dsimp (maxSteps := 2000000) only [↓SD, SU, SB, simprocAttr, rdB, map_nop, map_len, RK, hp]
def RB (C : RC) (s : RS) (r : AV) (hp' : Hp) : Prop := ∃ b : Bool, r = .bool b ∧ hp' = rdB C s
theorem l03PBegins_ok (C : RC) (s : RS) (hs : RdOk C s) : CallsH Tryz.prog 163 [.ptr 2100 C.v 0 0] (rdB C s) (RB C s) := by
 refine ir_spec_l03PBegins.H rfl ?_
 have CI := l03In_ok C s hs [bs [95], bs [45], bs [40], bs [91], bs [116, 114, 117, 101], bs [102, 97, 108, 115, 101]] (by decide)
 simp +contextual -dsimp (maxSteps := 2000000) only [↓SD, SU, SB, simprocAttr, rdB, map_nop, map_len, ir_spec_l03PBegins]
 (refine aCallH_of [2100, 2101] (l03Tok_ok C s hs) (by first | (simp +contextual -dsimp (maxSteps := 2000000) only [↓SD, SU, SB, simprocAttr, rdB]; done) | (simp +contextual -dsimp (maxSteps := 2000000) only [↓SD, SU, SB, simprocAttr, rdB, av_int]; done) | (simp +contextual -dsimp (maxSteps := 2000000) only [↓SD, SU, SB, simprocAttr, rdB, c0]; done)) ?_; rintro r hp' ⟨rfl, rfl⟩)
 generalize inB (tokA C s) _ = b at CI
 by_cases h3 : (tokA C s).kind = 3
 ·simp +contextual -dsimp (maxSteps := 2000000) only [↓SD, SU, SB, simprocAttr, rdB, map_nop, map_len, av_TokD, h3]
  intro v3
  refine Goes.post (rdB C s) ?_
  simp +contextual -dsimp (maxSteps := 2000000) only [↓SD, SU, SB, simprocAttr, rdB, map_nop, map_len]
  exact ⟨_, rfl, rfl⟩
 by_cases h1 : (tokA C s).kind = 1
 ·simp +contextual -dsimp (maxSteps := 2000000) only [↓SD, SU, SB, simprocAttr, rdB, map_nop, map_len, av_TokD, h3, h1]
  intro v3
  refine Goes.post (rdB C s) ?_
  simp +contextual -dsimp (maxSteps := 2000000) only [↓SD, SU, SB, simprocAttr, rdB, map_nop, map_len]
  exact ⟨_, rfl, rfl⟩
 by_cases h4 : (tokA C s).kind = 4
 ·simp +contextual -dsimp (maxSteps := 2000000) only [↓SD, SU, SB, simprocAttr, rdB, map_nop, map_len, av_TokD, h3, h1, h4]
  intro v3
  refine Goes.post (rdB C s) ?_
  simp +contextual -dsimp (maxSteps := 2000000) only [↓SD, SU, SB, simprocAttr, rdB, map_nop, map_len]
  exact ⟨_, rfl, rfl⟩
 simp +contextual -dsimp (maxSteps := 2000000) only [↓SD, SU, SB, simprocAttr, rdB, map_nop, map_len, av_TokD, h3, h1, h4]
 intro v3
 (refine aCallH_of [2100, 2101] (CI) (by first | (simp +contextual -dsimp (maxSteps := 2000000) only [↓SD, SU, SB, simprocAttr, rdB]; done) | (simp +contextual -dsimp (maxSteps := 2000000) only [↓SD, SU, SB, simprocAttr, rdB, av_int]; done) | (simp +contextual -dsimp (maxSteps := 2000000) only [↓SD, SU, SB, simprocAttr, rdB, c0]; done)) ?_; rintro r hp' ⟨rfl, rfl⟩)
 simp +contextual -dsimp (maxSteps := 2000000) only [↓SD, SU, SB, simprocAttr, rdB, map_nop, map_len]
 refine Goes.post (rdB C s) ?_
 simp +contextual -dsimp (maxSteps := 2000000) only [↓SD, SU, SB, simprocAttr, rdB, map_nop, map_len]
 exact ⟨_, rfl, rfl⟩
theorem l03EBegins_ok (C : RC) (s : RS) (hs : RdOk C s) : CallsH Tryz.prog 142 [.ptr 2100 C.v 0 0] (rdB C s) (RB C s) := by
 refine ir_spec_l03EBegins.H rfl ?_
 have CI := l03In_ok C s hs [bs [102, 117, 110], bs [108, 101, 116], bs [105, 102], bs [109, 97, 116, 99, 104], bs [116, 114, 121], bs [114, 97, 105, 115, 101], bs [114, 101, 102], bs [33], bs [45]] (by decide)
 have CB := l03Begins_ok C s hs
 simp +contextual -dsimp (maxSteps := 2000000) only [↓SD, SU, SB, simprocAttr, rdB, map_nop, map_len, ir_spec_l03EBegins]
 (refine aCallH_of [2100, 2101] (CB) (by first | (simp +contextual -dsimp (maxSteps := 2000000) only [↓SD, SU, SB, simprocAttr, rdB]; done) | (simp +contextual -dsimp (maxSteps := 2000000) only [↓SD, SU, SB, simprocAttr, rdB, av_int]; done) | (simp +contextual -dsimp (maxSteps := 2000000) only [↓SD, SU, SB, simprocAttr, rdB, c0]; done)) ?_; rintro r hp' ⟨rfl, rfl⟩)
 generalize inB (tokA C s) _ = b at CI
 cases beginsB (tokA C s)
 ·simp +contextual -dsimp (maxSteps := 2000000) only [↓SD, SU, SB, simprocAttr, rdB, map_nop, map_len]
  (refine aCallH_of [2100, 2101] (CI) (by first | (simp +contextual -dsimp (maxSteps := 2000000) only [↓SD, SU, SB, simprocAttr, rdB]; done) | (simp +contextual -dsimp (maxSteps := 2000000) only [↓SD, SU, SB, simprocAttr, rdB, av_int]; done) | (simp +contextual -dsimp (maxSteps := 2000000) only [↓SD, SU, SB, simprocAttr, rdB, c0]; done)) ?_; rintro r hp' ⟨rfl, rfl⟩)
  simp +contextual -dsimp (maxSteps := 2000000) only [↓SD, SU, SB, simprocAttr, rdB, map_nop, map_len]
  refine Goes.post (rdB C s) ?_
  simp +contextual -dsimp (maxSteps := 2000000) only [↓SD, SU, SB, simprocAttr, rdB, map_nop, map_len]
  exact ⟨_, rfl, rfl⟩
 ·simp +contextual -dsimp (maxSteps := 2000000) only [↓SD, SU, SB, simprocAttr, rdB, map_nop, map_len]
  refine Goes.post (rdB C s) ?_
  simp +contextual -dsimp (maxSteps := 2000000) only [↓SD, SU, SB, simprocAttr, rdB, map_nop, map_len]
  exact ⟨_, rfl, rfl⟩
theorem l03TyBegins_ok (C : RC) (s : RS) (hs : RdOk C s) : CallsH Tryz.prog 150 [.ptr 2100 C.v 0 0] (rdB C s) (RB C s) := by
 have hvl := hs.2.2.2.2.1
 refine ir_spec_l03TyBegins.H rfl ?_
 have CI := l03Is_ok C s hs (bs [40])
 simp +contextual -dsimp (maxSteps := 2000000) only [↓SD, SU, SB, simprocAttr, rdB, map_nop, map_len, ir_spec_l03TyBegins]
 (refine aCallH_of [2100, 2101] (l03Tok_ok C s hs) (by first | (simp +contextual -dsimp (maxSteps := 2000000) only [↓SD, SU, SB, simprocAttr, rdB]; done) | (simp +contextual -dsimp (maxSteps := 2000000) only [↓SD, SU, SB, simprocAttr, rdB, av_int]; done) | (simp +contextual -dsimp (maxSteps := 2000000) only [↓SD, SU, SB, simprocAttr, rdB, c0]; done)) ?_; rintro r hp' ⟨rfl, rfl⟩)
 simp +contextual -dsimp (maxSteps := 2000000) only [↓SD, SU, SB, simprocAttr, rdB, map_nop, map_len, av_TokD]
 intro v3
 generalize decide (signA (tokA C s) = bs [40]) = b at CI
 refine aLoop_of (X := Nat) (fun k => ⟨[(0, .ptr 2100 C.v 0 0), (3, .ptr 3 v3 0 0), (11, .sl (s.vars.map av)), (12, .int .i64 s.vars.length), (13, .int .i64 k)], (3, ⟨v3, false, 197, 4, [.agg [.int .i64 (tokA C s).kind, .int .i64 (tokA C s).n, .str (tokA C s).s, .int .i64 (tokA C s).pos]]⟩) :: rdB C s⟩) (fun k => k ≤ s.vars.length) (fun k => s.vars.length - k) 0 (Nat.zero_le _) (by simp +contextual -dsimp only [↓SD, SU, SB, simprocAttr]) (by simp +contextual -dsimp only [↓SD, SU, SB, simprocAttr, rdB]) ?_
 intro k hk
 by_cases hlt : k < s.vars.length
 ·have e1 := getD_map av s.vars k .top hlt
  generalize s.vars[k] = x at *
  by_cases h5 : (tokA C s).kind = 5
  ·by_cases hx : x = (tokA C s).n
   ·simp +contextual -dsimp (maxSteps := 2000000) only [↓SD, SU, SB, simprocAttr, rdB, map_nop, map_len, hlt, e1, av_int, h5, hx]
    refine Goes.post (rdB C s) ?_
    simp +contextual -dsimp (maxSteps := 2000000) only [↓SD, SU, SB, simprocAttr, rdB, map_nop, map_len]
    exact ⟨_, rfl, rfl⟩
   ·simp +contextual -dsimp (maxSteps := 2000000) only [↓SD, SU, SB, simprocAttr, rdB, map_nop, map_len, hlt, e1, av_int, h5, hx]
    exact ⟨by omega, Goes.le ⟨k + 1, ⟨hlt, (by first | omega | (simp only; omega))⟩, rfl⟩ (by simp +contextual -dsimp only [↓SD, SU, SB, simprocAttr, Int.natCast_add]) (by simp +contextual -dsimp only [↓SD, SU, SB, simprocAttr, rdB, h5])⟩
  ·simp +contextual -dsimp (maxSteps := 2000000) only [↓SD, SU, SB, simprocAttr, rdB, map_nop, map_len, hlt, e1, av_int, h5]
   exact ⟨by omega, Goes.le ⟨k + 1, ⟨hlt, (by first | omega | (simp only; omega))⟩, rfl⟩ (by simp +contextual -dsimp only [↓SD, SU, SB, simprocAttr, Int.natCast_add]) (by simp +contextual -dsimp only [↓SD, SU, SB, simprocAttr, rdB])⟩
 ·by_cases h3 : (tokA C s).kind = 3
  ·simp +contextual -dsimp (maxSteps := 2000000) only [↓SD, SU, SB, simprocAttr, rdB, map_nop, map_len, hlt, h3]
   refine Goes.post (rdB C s) ?_
   simp +contextual -dsimp (maxSteps := 2000000) only [↓SD, SU, SB, simprocAttr, rdB, map_nop, map_len]
   exact ⟨_, rfl, rfl⟩
  ·simp +contextual -dsimp (maxSteps := 2000000) only [↓SD, SU, SB, simprocAttr, rdB, map_nop, map_len, hlt, h3]
   (refine aCallH_of [2100, 2101] (CI) (by first | (simp +contextual -dsimp (maxSteps := 2000000) only [↓SD, SU, SB, simprocAttr, rdB]; done) | (simp +contextual -dsimp (maxSteps := 2000000) only [↓SD, SU, SB, simprocAttr, rdB, av_int]; done) | (simp +contextual -dsimp (maxSteps := 2000000) only [↓SD, SU, SB, simprocAttr, rdB, c0]; done)) ?_; rintro r hp' ⟨rfl, rfl⟩)
   simp +contextual -dsimp (maxSteps := 2000000) only [↓SD, SU, SB, simprocAttr, rdB, map_nop, map_len]
   refine Goes.post (rdB C s) ?_
   simp +contextual -dsimp (maxSteps := 2000000) only [↓SD, SU, SB, simprocAttr, rdB, map_nop, map_len]
   exact ⟨_, rfl, rfl⟩
def Unf (hp : Hp) : Prop := ∀ p ∈ hp, p.2.frz = false
theorem unf_nil : Unf [] := fun p h => by cases h
theorem unf_c {k v : Nat} {ty : TypeId} {e : Nat} {es : List AV} {hp : Hp} (h : Unf hp) : Unf ((k, ⟨v, false, ty, e, es⟩) :: hp) := fun p hp' => by
 rcases List.mem_cons.1 hp' with rfl | h'
 ·rfl
 ·exact h p h'
theorem unf_e (k v : Nat) (ty : TypeId) (e : Nat) (es : List AV) (hp : Hp) : Unf ((k, ⟨v, false, ty, e, es⟩) :: hp) = Unf hp := propext ⟨fun h p hp' => h p (List.mem_cons_of_mem _ hp'), unf_c⟩
theorem hget_mem : ∀ {hp : Hp} {k : Nat} {b : Box}, hget hp k = some b → (k, b) ∈ hp
 | (j, c) :: r, k, b, h => by
  simp only [hget] at h
  split at h
  ·rename_i e; cases h; subst e; exact List.mem_cons_self
  ·exact List.mem_cons_of_mem _ (hget_mem h)
theorem Unf.get {hp : Hp} (h : Unf hp) {k : Nat} {b : Box} (hb : hget hp k = some b) : b.frz = false := h _ (hget_mem hb)
theorem unf_row {hp : Hp} (h : Unf hp) (k v n : Nat) : (AV.row k v n).pur1 hp = .row k v n := by
 show (match hget hp k with | some b => if b.ver = v ∧ b.frz = true ∧ n ≤ b.es.length then AV.sl (b.es.take n) else AV.row k v n | none => AV.row k v n) = _
 cases hb : hget hp k with
 | none => rfl
 | some b =>
  dsimp only
  rw [if_neg (fun e => by rw [h.get hb] at e; cases e.2.1)]
def KeepA (K : AV) : Prop := K.one = true ∧ ∀ hp, Unf hp → K.pur1 hp = K
theorem KeepA.row (k v n : Nat) : KeepA (.row k v n) := ⟨rfl, fun hp h => unf_row h k v n⟩
theorem KeepA.sl (es : List AV) : KeepA (.sl es) := ⟨rfl, fun hp h => rfl⟩
theorem KeepA.nils : KeepA .nils := ⟨rfl, fun hp h => rfl⟩
theorem l03One_ok (k p : Int) (s : ByteArray) (K : AV) (hK : KeepA K) : CallsH Tryz.prog 143 [.int .i64 k, .int .i64 p, .str s, K] [] (fun r hp' => r = .agg [.int .i64 k, .int .i64 p, .int .i64 0, .str s, .nils, .nils, K] ∧ hp' = []) := by
 obtain ⟨h1, h2⟩ := hK
 refine ir_spec_l03One.H rfl ?_
 simp +contextual -dsimp (maxSteps := 2000000) only [↓SD, SU, SB, simprocAttr, ir_spec_l03One, h1]
 intro v8
 refine Goes.post [] ?_
 have h3 := h2 [(8, ⟨v8, false, 181, 7, [.agg [.int .i64 k, .int .i64 p, .int .i64 0, .str s, .nils, .nils, K]]⟩), (8, ⟨v8, false, 181, 7, [.agg [.int .i64 0, .int .i64 0, .int .i64 0, .str (bs []), .nils, .nils, .nils]]⟩)] (unf_c (unf_c unf_nil))
 simp +contextual -dsimp (maxSteps := 2000000) only [↓SD, SU, SB, simprocAttr, h1]
 rw [h3]
def itemsT (l : List Ty) : List TyItem := (l.map Ty.items).flatten
def namedT (s : ByteArray) (l : List Ty) : Ty := ⟨⟨0, s, l.length⟩ :: itemsT l⟩
theorem itemsT_take (l : List Ty) (k : Nat) (h : k < l.length) : itemsT (l.take (k + 1)) = itemsT (l.take k) ++ l[k].items := by
 unfold itemsT
 rw [List.take_succ_eq_append_getElem h, List.map_append, List.flatten_append]; simp
theorem itemsT_le (l : List Ty) (k : Nat) (h : k < l.length) : (itemsT (l.take k)).length + l[k].items.length ≤ (itemsT l).length := by
 have e : itemsT l = itemsT (l.take (k + 1)) ++ itemsT (l.drop (k + 1)) := by
  unfold itemsT
  rw [← List.flatten_append, ← List.map_append, List.take_append_drop]
 have e2 := itemsT_take l k h
 rw [e, e2, List.length_append, List.length_append]
 omega
theorem l03Named_ok (s : ByteArray) (l : List Ty) (hl : l.length ≤ 1000) (hb : (itemsT l).length ≤ 1000000) : CallsH Tryz.prog 152 [.str s, .sl (l.map av)] [] (fun r hp' => r = av (namedT s l) ∧ hp' = []) := by
 refine ir_spec_l03Named.H rfl ?_
 simp +contextual -dsimp (maxSteps := 2000000) only [↓SD, SU, SB, simprocAttr, ir_spec_l03Named, map_len]
 intro v4 v11 v5
 refine aLoop_of (X := Nat × Nat) (fun x => ⟨[(1, .sl (l.map av)), (4, .ptr 4 v4 0 0), (5, .ptr 5 v5 0 0), (14, .int .i64 l.length), (15, .int .i64 x.1)], [(5, ⟨v5, false, 209, 1, [.agg [.row 11 x.2 (1 + (itemsT (l.take x.1)).length)]]⟩), (11, ⟨x.2, false, 228, 3, .agg [.int .i64 0, .str s, .int .i64 l.length] :: (itemsT (l.take x.1)).map av⟩), (4, ⟨v4, false, 209, 1, [.agg [.nils]]⟩)]⟩) (fun x => x.1 ≤ l.length) (fun x => l.length - x.1) (0, v11) (Nat.zero_le _) (by simp +contextual -dsimp only [↓SD, SU, SB, simprocAttr]) (by simp +contextual -dsimp only [↓SD, SU, SB, simprocAttr, List.take_zero, show itemsT [] = [] from rfl]) ?_
 rintro ⟨k, u⟩ hk
 dsimp only at hk ⊢
 by_cases hlt : k < l.length
 ·have e1 := getD_map av l k .top hlt
  have h1 := itemsT_take l k hlt
  have h2 := itemsT_le l k hlt
  have hln : ((itemsT (l.take k)).map (av : TyItem → AV)).length = (itemsT (l.take k)).length := List.length_map _
  generalize itemsT (l.take k) = A at *
  generalize l[k] = x at *
  obtain ⟨x⟩ := x
  dsimp only at h1 h2
  rw [av_Ty] at e1
  have htk : List.take (1 + A.length) (.agg [.int .i64 0, .str s, .int .i64 l.length] :: A.map (av : TyItem → AV)) = .agg [.int .i64 0, .str s, .int .i64 l.length] :: A.map av := List.take_of_length_le (by simp; omega)
  have hit : ∀ e ∈ x.map (av : TyItem → AV), e.cells.length = 3 := fun e he => by obtain ⟨y, _, rfl⟩ := List.mem_map.1 he; rfl
  simp +contextual -dsimp (maxSteps := 2000000) only [↓SD, SU, SB, simprocAttr, hlt, map_len, e1, map_nop, htk]
  refine ⟨⟨by omega, hit, by omega, by unfold maxLen; omega⟩, fun v => ⟨by omega, ?_⟩⟩
  exact Goes.le ⟨(k + 1, v), ⟨hlt, (by first | omega | (simp only; omega))⟩, rfl⟩ (by simp +contextual -dsimp only [↓SD, SU, SB, simprocAttr, Int.natCast_add]) (by simp +contextual -dsimp only [↓SD, SU, SB, simprocAttr, h1, List.map_append, List.length_append, Nat.add_assoc])
 ·obtain rfl : k = l.length := by omega
  have htk : List.take (1 + (itemsT l).length) (.agg [.int .i64 0, .str s, .int .i64 l.length] :: (itemsT l).map (av : TyItem → AV)) = .agg [.int .i64 0, .str s, .int .i64 l.length] :: (itemsT l).map av := List.take_of_length_le (by simp; omega)
  have hle : 1 + (itemsT l).length ≤ (itemsT l).length + 1 := by omega
  rw [List.take_length]
  simp +contextual -dsimp (maxSteps := 2000000) only [↓SD, SU, SB, simprocAttr, Nat.lt_irrefl]
  refine Goes.frz 11 (Goes.post [] ?_)
  simp +contextual -dsimp (maxSteps := 2000000) only [↓SD, SU, SB, simprocAttr, map_nop, map_len, hle, htk]
  rfl
theorem l03Named0_ok (s : ByteArray) : CallsH Tryz.prog 152 [.str s, .nils] [] (fun r hp' => r = av (namedT s []) ∧ hp' = []) := by
 refine ir_spec_l03Named.H rfl ?_
 simp +contextual -dsimp (maxSteps := 2000000) only [↓SD, SU, SB, simprocAttr, ir_spec_l03Named, map_len]
 intro v4 v11 v5
 refine aLoop_of (X := Nat) (fun x => ⟨[(1, .nils), (4, .ptr 4 v4 0 0), (5, .ptr 5 v5 0 0), (14, .int .i64 0), (15, .int .i64 0)], [(5, ⟨v5, false, 209, 1, [.agg [.row 11 v11 1]]⟩), (11, ⟨v11, false, 228, 3, [.agg [.int .i64 0, .str s, .int .i64 0]]⟩), (4, ⟨v4, false, 209, 1, [.agg [.nils]]⟩)]⟩) (fun x => True) (fun x => 0) 0 trivial (by simp +contextual -dsimp only [↓SD, SU, SB, simprocAttr]) (by simp +contextual -dsimp only [↓SD, SU, SB, simprocAttr]) ?_
 intro k _
 simp +contextual -dsimp (maxSteps := 2000000) only [↓SD, SU, SB, simprocAttr]
 refine Goes.frz 11 (Goes.post [] ?_)
 simp +contextual -dsimp (maxSteps := 2000000) only [↓SD, SU, SB, simprocAttr]
 rfl
end Go.Proofs.YteeiaaogmjbcjaaGreat
