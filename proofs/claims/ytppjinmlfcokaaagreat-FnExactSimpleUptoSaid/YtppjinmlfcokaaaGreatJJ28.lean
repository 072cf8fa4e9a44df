/-
 ProgramOk OF THE REFERENCE, by abstract texts. Conditions: none.
-/
import Derived.Test.YtppjinmlfcokaaaGreatJPgmW3
import Derived.Test.YtppjinmlfcokaaaGreatJJ20
import Derived.Test.YtppjinmlfcokaaaGreatJJ23
set_option linter.unusedVariables false
set_option linter.unusedSimpArgs false
set_option maxRecDepth 100000
namespace Go.Proofs.YtppjinmlfcokaaaGreat
open Go.RowKit Go.Proofs.YtppjinmlfcokaaaGreat.Av Go.Proofs.YtppjinmlfcokaaaGreat.Ml
open Go.Proofs.YtppjinmlfcokaaaGreat.Av.AVal (av)

theorem Ya (p : Program) (hx : Ac.bulk p ≤ 4294967296) : ∀ (f i : Nat), p.nodes.length - i < f → i ≤ 4294967296 → Ak Tryz.prog 64 [av p, .int .i64 i] (.int .i64 (IH (Cv (Bp p.nodes) p.nodes.length f i))) := by
 obtain ⟨q1, q2, q3, hl⟩ := Ck hx
 intro f
 induction f with
 | zero => intro i h; omega
 | succ f ih =>
  intro i hf hi0
  refine GW.F rfl (by simp; exact ⟨AVal.clean p, Bo _⟩) (Bo _) ?_
  by_cases hi : i < p.nodes.length
  ·have e := getD_map av p.nodes i .top hi
   have hs := (D7 q2 (List.getElem_mem hi)).1
   have hK : Bp p.nodes i = p.nodes[i].kids := by rw [Bp, ES hi]
   have hE : Cv (Bp p.nodes) p.nodes.length (f + 1) i = Dj (Cv (Bp p.nodes) p.nodes.length f) p.nodes[i].kids (i + 1) := by rw [Cv, if_pos hi, hK]
   rw [hE]
   generalize p.nodes[i] = a at *
   simp +contextual -dsimp (maxSteps := 2000000) only [↓SD, SU, simprocAttr, GW, Aa, hi, e, Ay, Ad, Nat.not_le]
   refine ⟨by omega, by omega, ?_⟩
   refine Am (X := Nat × Nat) (fun x => ⟨[(2, .obj [.sl (p.types.map av), .sl (p.nodes.map av)]), (5, .int .i64 x.2), (20, .sl (a.kids.map av)), (21, .int .i64 a.kids.length), (22, .int .i64 x.1)], []⟩) (fun x => x.1 ≤ a.kids.length ∧ i < x.2 ∧ x.2 ≤ p.nodes.length ∧ Dj (Cv (Bp p.nodes) p.nodes.length f) a.kids (i + 1) = Dj (Cv (Bp p.nodes) p.nodes.length f) (a.kids.drop x.1) x.2) (fun x => a.kids.length - x.1) (0, i + 1) ⟨Nat.zero_le _, by simp, by simp only; omega, rfl⟩ (by simp +contextual -dsimp only [↓SD, SU, simprocAttr, Int.natCast_add]) trivial ?_
   rintro ⟨j, m⟩ ⟨hj, hm1, hm2, he⟩
   simp only at hj hm1 hm2 he
   by_cases hlt : j < a.kids.length
   ·have e2 := getD_map av a.kids j .top hlt
    rw [List.drop_eq_getElem_cons hlt, Dj] at he
    have C := ih m (by omega) (by omega)
    rw [Ad] at C
    by_cases hkm : a.kids[j] = (m : Int)
    ·rw [if_pos hkm] at he
     simp +contextual -dsimp (maxSteps := 2000000) only [↓SD, SU, simprocAttr, Aa, hlt, e2, A7, hkm]
     refine Ab _ C ?_
     cases hm' : Cv (Bp p.nodes) p.nodes.length f m with
     | none =>
      rw [hm'] at he
      simp +contextual -dsimp (maxSteps := 2000000) only [↓SD, SU, simprocAttr, IH]
      rw [he]
     | some m' =>
      rw [hm'] at he
      have := HS (Bp p.nodes) p.nodes.length f m m' hm'
      have hneg : ¬ ((m' : Int) < 0) := by omega
      simp +contextual -dsimp (maxSteps := 2000000) only [↓SD, SU, simprocAttr, IH, hneg]
      refine ⟨by omega, Af.le ⟨(j + 1, m'), ⟨⟨hlt, by simp only; omega, this.2, he⟩, (by first | omega | (simp only; omega))⟩, rfl⟩ (by simp +contextual -dsimp only [↓SD, SU, simprocAttr, Int.natCast_add]) trivial⟩
    ·rw [if_neg hkm] at he
     simp +contextual -dsimp (maxSteps := 2000000) only [↓SD, SU, simprocAttr, Aa, hlt, e2, A7, hkm]
     rw [he]; rfl
   ·obtain rfl : j = a.kids.length := by omega
    rw [List.drop_length, Dj] at he
    simp +contextual -dsimp (maxSteps := 2000000) only [↓SD, SU, simprocAttr, Aa, Nat.lt_irrefl]
    rw [he]; rfl
  ·have hE : Cv (Bp p.nodes) p.nodes.length (f + 1) i = none := by rw [Cv, if_neg hi]
   have hi' : p.nodes.length ≤ i := by omega
   simp +contextual -dsimp (maxSteps := 2000000) only [↓SD, SU, simprocAttr, GW, Ad, Aa, hi', hE]
   rfl

theorem Abo (c : Con) (m : Int) (hs : c.name.size ≤ 4294967296) (hb : Ac.bulk c.arg.items ≤ 4294967296) : Ak Tryz.prog 62 [av c, .int .i64 m] (.bool (Fa c m)) := by
 refine FW.F rfl (by simp; exact ⟨AVal.clean c, Bo _⟩) (Ae.bool _) ?_
 obtain ⟨cn, ch, ⟨items⟩⟩ := c
 simp only at hs hb
 have hil := Ag items
 rw [SC]
 simp only
 have D1 := Mt cn (by omega)
 have D2 := Uq items hb
 generalize TZ cn = b1 at *
 cases b1
 case false =>
  simp +contextual -dsimp (maxSteps := 2000000) only [↓SD, SU, simprocAttr, FW, Cq]
  refine Ab _ D1 ?_
  simp +contextual -dsimp (maxSteps := 2000000) only [↓SD, SU, simprocAttr, Bool.false_and]
 cases ch
 case false =>
  simp +contextual -dsimp (maxSteps := 2000000) only [↓SD, SU, simprocAttr, FW, Cq]
  refine Ab _ D1 ?_
  simp +contextual -dsimp (maxSteps := 2000000) only [↓SD, SU, simprocAttr, Aa]
  congr 1
  by_cases hi : items = []
  ·subst hi; rfl
  ·have : items.length ≠ 0 := fun h => hi (List.eq_nil_of_length_eq_zero h)
   rw [decide_eq_false (p := items = []) hi, decide_eq_false (by omega)]; rfl
 simp +contextual -dsimp (maxSteps := 2000000) only [↓SD, SU, simprocAttr, FW, Cq]
 refine Ab _ D1 ?_
 simp +contextual -dsimp (maxSteps := 2000000) only [↓SD, SU, simprocAttr, Aa]
 refine Am (X := Nat) (fun j => ⟨[(1, .int .i64 m), (2, .obj [.str cn, .bool true, .sl (items.map av)]), (21, .sl (items.map av)), (22, .int .i64 items.length), (23, .int .i64 j)], []⟩) (fun j => j ≤ items.length ∧ (items.take j).all (Ly m) = true) (fun j => items.length - j) 0 ⟨Nat.zero_le _, rfl⟩ (by simp +contextual -dsimp only [↓SD, SU, simprocAttr]) trivial ?_
 rintro j ⟨hj, hq⟩
 by_cases hjl : j < items.length
 ·have e2 := getD_map av items j .top hjl
  have hno2 : Ly m items[j] = false → items.all (Ly m) = false := fun h => Ba _ hjl h
  have hyes2 : Ly m items[j] = true → (items.take (j + 1)).all (Ly m) = true := fun h => by rw [A9 _ hjl hq]; exact h
  generalize items[j] = x at *
  obtain ⟨vr, nm, ar⟩ := x
  simp +contextual -dsimp (maxSteps := 2000000) only [↓SD, SU, simprocAttr, Aa, hjl, e2, AY]
  intro w
  (repeat' (first | intro _ | refine And.intro ?_ ?_))
  all_goals first
   | omega
   | exact Af.le ⟨j + 1, ⟨⟨hjl, hyes2 (by simp [Ly, *])⟩, (by first | omega | (simp only; omega))⟩, rfl⟩ (by simp +contextual -dsimp only [↓SD, SU, simprocAttr, Int.natCast_add]) trivial
   | (rw [hno2 (by simp [Ly, *])]; simp; done)
   | exact Af.le ⟨j + 1, ⟨⟨hjl, hyes2 (by simp [Ly, *]; omega)⟩, (by first | omega | (simp only; omega))⟩, rfl⟩ (by simp +contextual -dsimp only [↓SD, SU, simprocAttr, Int.natCast_add]) trivial
 ·obtain rfl : j = items.length := by omega
  rw [List.take_length] at hq
  simp +contextual -dsimp (maxSteps := 2000000) only [↓SD, SU, simprocAttr, Aa, Nat.lt_irrefl]
  refine Ab _ D2 ?_
  simp +contextual -dsimp (maxSteps := 2000000) only [↓SD, SU, simprocAttr]
  congr 1
  rw [hq]; simp

theorem Rj {t : BK} (h : LU t = false) : HX t = false := by rw [O9, h]; rfl
theorem Vg {p : Program} (h : p.types.all HX = false) : Db p = false := by rw [IQ, Hm, h]; simp
theorem XR {p : Program} (h : LP p = false) : Db p = false := by rw [IQ, Hm, h]; simp
theorem XP {p : Program} (h : Fc (Bp p.nodes) p.nodes.length = false) : Db p = false := by rw [IQ, Hm, h]; simp
theorem XQ {p : Program} {n : Node} (hn : n ∈ p.nodes) (h : Ar p.nodes n = false) : Db p = false := by
 cases ht : Fc (Bp p.nodes) p.nodes.length with
 | false => exact XP ht
 | true =>
  obtain ⟨k, hk, rfl⟩ := List.mem_iff_getElem.1 hn
  have hin : p.nodes[k].kids.all (Be p.nodes.length) = true := by
   rw [List.all_eq_true]
   intro x hx
   have := DM ht hk (k := x) (by rw [Bp, ES hk]; exact hx)
   simp [Be]; omega
  unfold Ar at h
  rw [hin, Bool.true_and, Bool.and_eq_false_iff] at h
  rw [IQ, Hm]
  rcases h with h | h
  ·rw [Ba (A1 BM p.nodes) hk h]; simp
  ·rw [Ba BT hk h]; simp
theorem Acn {p : Program} (h1 : LP p = true) (h2 : p.types.all HX = true) (h3 : p.nodes.all (Ar p.nodes) = true) : Db p = Fc (Bp p.nodes) p.nodes.length := by
 have h4 : p.nodes.all (A1 BM p.nodes) = true := by
  rw [List.all_eq_true] at h3 ⊢
  intro n hn
  have := h3 n hn
  simp only [Ar, Bool.and_eq_true] at this
  exact this.1.2
 have h5 : p.nodes.all BT = true := by
  rw [List.all_eq_true] at h3 ⊢
  intro n hn
  have := h3 n hn
  simp only [Ar, Bool.and_eq_true] at this
  exact this.2
 rw [IQ, Hm, h1, h2, h4, h5]; simp

set_option maxHeartbeats 4000000 in
theorem EG (p : Program) (hx : Ac.bulk p ≤ 4294967296) : Ak Tryz.prog 29 [av p] (.bool (Db p)) := by
 obtain ⟨q1, q2, q3, q4⟩ := Ck hx
 refine F0.F rfl (by simp; exact AVal.clean p) (Ae.bool _) ?_
 by_cases hh : LP p = true
 case neg =>
  rw [XR (by simpa using hh)]
  have hh2 : ¬ (1 ≤ (p.nodes.length : Int) ∧ (p.nodes.length : Int) ≤ 600 ∧ (p.types.length : Int) ≤ 8) := fun h => hh (by unfold LP; rw [decide_eq_true h.1, decide_eq_true h.2.1, decide_eq_true h.2.2]; rfl)
  simp +contextual -dsimp (maxSteps := 2000000) only [↓SD, SU, simprocAttr, F0, Ad, Aa]
  (repeat' (first | intro _ | refine And.intro ?_ ?_))
  all_goals first | rfl | (exfalso; omega) | trace_state
 have hh' := hh
 unfold LP at hh'
 simp only [Bool.and_eq_true, decide_eq_true_eq] at hh'
 obtain ⟨⟨h1, h2⟩, h3⟩ := hh'
 have h1' : ¬ (p.nodes.length : Int) < 1 := by omega
 have h2' : ¬ (600 : Int) < p.nodes.length := by omega
 have h3' : ¬ (8 : Int) < p.types.length := by omega
 have h1'' : ¬ p.nodes.length < 1 := by omega
 have h2'' : ¬ 600 < p.nodes.length := by omega
 have h3'' : ¬ 8 < p.types.length := by omega
 simp +contextual -dsimp (maxSteps := 2000000) only [↓SD, SU, simprocAttr, F0, Ad, Aa, h1', h2', h3', h1'', h2'', h3'']
 refine Am (X := Nat) (fun k => ⟨[(1, .obj [.sl (p.types.map av), .sl (p.nodes.map av)]), (26, .sl (p.types.map av)), (27, .int .i64 p.types.length), (28, .int .i64 k)], []⟩) (fun k => k ≤ p.types.length ∧ (p.types.take k).all HX = true) (fun k => p.types.length - k) 0 ⟨Nat.zero_le _, rfl⟩ (by simp +contextual -dsimp only [↓SD, SU, simprocAttr]) trivial ?_
 rintro k ⟨hk, hp⟩
 by_cases hlt : k < p.types.length
 ·have e := getD_map av p.types k .top hlt
  have htb : Ac.bulk p.types[k] ≤ 4294967296 := by have := AG (List.getElem_mem hlt); omega
  obtain ⟨hs, hcb⟩ := O8 htb
  have hno : HX p.types[k] = false → Db p = false := fun h => Vg (Ba _ hlt h)
  have hyes : HX p.types[k] = true → (p.types.take (k + 1)).all HX = true := fun h => by rw [A9 _ hlt hp]; exact h
  generalize p.types[k] = t at *
  obtain ⟨name, params, cons⟩ := t
  simp only at hs hcb
  have hcl := Ag cons
  have CN := A4 name (by omega)
  cases hnm : FV name with
  | false =>
   rw [hnm] at CN
   simp +contextual -dsimp (maxSteps := 2000000) only [↓SD, SU, simprocAttr, Aa, hlt, e, BJ]
   intro v
   refine Ab _ CN ?_
   simp +contextual -dsimp (maxSteps := 2000000) only [↓SD, SU, simprocAttr]
   rw [hno (Rj (by simp [LU, hnm]))]
  | true =>
   rw [hnm] at CN
   by_cases hr : (0 ≤ params ∧ params ≤ 2) ∧ 1 ≤ (cons.length : Int) ∧ (cons.length : Int) ≤ 8
   ·obtain ⟨⟨r1, r2⟩, r3, r4⟩ := hr
    have r1' : ¬ params < 0 := by omega
    have r2' : ¬ (2 : Int) < params := by omega
    have r3' : ¬ (cons.length : Int) < 1 := by omega
    have r4' : ¬ (8 : Int) < cons.length := by omega
    have hH : HX ⟨name, params, cons⟩ = cons.all fun c => Fa c params := by
     rw [O9]
     unfold LU
     rw [hnm, decide_eq_true r1, decide_eq_true r2, decide_eq_true r3, decide_eq_true r4]; simp
    rw [hH] at hno hyes
    simp +contextual -dsimp (maxSteps := 2000000) only [↓SD, SU, simprocAttr, Aa, hlt, e, BJ]
    intro v
    refine Ab _ CN ?_
    simp +contextual -dsimp (maxSteps := 2000000) only [↓SD, SU, simprocAttr, Aa, r1', r2', r3', r4']
    refine Am (X := Nat) (fun j => ⟨[(1, .obj [.sl (p.types.map av), .sl (p.nodes.map av)]), (4, .ptr 4 v 0 0), (26, .sl (p.types.map av)), (27, .int .i64 p.types.length), (28, .int .i64 k), (59, .sl (cons.map av)), (60, .int .i64 cons.length), (61, .int .i64 j)], [(4, ⟨v, false, 72, 3, [.agg [.str name, .int .i64 params, .sl (cons.map av)]]⟩)]⟩) (fun j => j ≤ cons.length ∧ (cons.take j).all (fun c => Fa c params) = true) (fun j => cons.length - j) 0 ⟨Nat.zero_le _, rfl⟩ (by simp +contextual -dsimp only [↓SD, SU, simprocAttr]) (by simp +contextual -dsimp only [↓SD, SU, simprocAttr]) ?_
    rintro j ⟨hj, hq⟩
    by_cases hjl : j < cons.length
    ·have e2 := getD_map av cons j .top hjl
     obtain ⟨s1, s2⟩ := SA hcb (List.getElem_mem hjl)
     have CC := Abo cons[j] params s1 s2
     have hno2 : Fa cons[j] params = false → Db p = false := fun h => hno (Ba (fun c => Fa c params) hjl h)
     have hyes2 : Fa cons[j] params = true → (cons.take (j + 1)).all (fun c => Fa c params) = true := fun h => by rw [A9 _ hjl hq]; exact h
     generalize cons[j] = c at *
     rw [Cq] at CC
     simp +contextual -dsimp (maxSteps := 2000000) only [↓SD, SU, simprocAttr, Aa, hjl, e2, Cq]
     intro w
     refine Ab _ CC ?_
     simp +contextual -dsimp (maxSteps := 2000000) only [↓SD, SU, simprocAttr]
     refine ⟨fun h => by rw [hno2 h], fun h => ⟨by omega, Af.le ⟨j + 1, ⟨⟨hjl, hyes2 h⟩, (by first | omega | (simp only; omega))⟩, rfl⟩ (by simp +contextual -dsimp only [↓SD, SU, simprocAttr, Int.natCast_add]) (by simp +contextual -dsimp only [↓SD, SU, simprocAttr])⟩⟩
    ·obtain rfl : j = cons.length := by omega
     rw [List.take_length] at hq
     simp +contextual -dsimp (maxSteps := 2000000) only [↓SD, SU, simprocAttr, Aa, Nat.lt_irrefl]
     exact ⟨by omega, Af.le ⟨k + 1, ⟨⟨hlt, hyes hq⟩, (by first | omega | (simp only; omega))⟩, rfl⟩ (by simp +contextual -dsimp only [↓SD, SU, simprocAttr, Int.natCast_add]) trivial⟩
   ·have hbad : LU ⟨name, params, cons⟩ = false := by
     rw [← Bool.not_eq_true]
     unfold LU
     simp only [Bool.and_eq_true, decide_eq_true_eq]
     exact fun h => hr ⟨h.1.2, h.2⟩
    have hF := hno (Rj hbad)
    simp +contextual -dsimp (maxSteps := 2000000) only [↓SD, SU, simprocAttr, Aa, hlt, e, BJ]
    intro v
    refine Ab _ CN ?_
    simp +contextual -dsimp (maxSteps := 2000000) only [↓SD, SU, simprocAttr, Aa, hF]
    (repeat' (first | intro _ | refine And.intro ?_ ?_))
    all_goals first | rfl | (exfalso; omega) | trace_state
 ·obtain rfl : k = p.types.length := by omega
  rw [List.take_length] at hp
  simp +contextual -dsimp (maxSteps := 2000000) only [↓SD, SU, simprocAttr, Aa, Nat.lt_irrefl]
  refine Am (X := Nat) (fun k => ⟨[(1, .obj [.sl (p.types.map av), .sl (p.nodes.map av)]), (73, .sl (p.nodes.map av)), (74, .int .i64 p.nodes.length), (75, .int .i64 k)], []⟩) (fun k => k ≤ p.nodes.length ∧ (p.nodes.take k).all (Ar p.nodes) = true) (fun k => p.nodes.length - k) 0 ⟨Nat.zero_le _, rfl⟩ (by simp +contextual -dsimp only [↓SD, SU, simprocAttr]) trivial ?_
  rintro i ⟨hi, hq⟩
  by_cases hil : i < p.nodes.length
  ·have e := getD_map av p.nodes i .top hil
   have hm := List.getElem_mem hil
   obtain ⟨b1, b2, b3, b4⟩ := D7 q2 hm
   have CC := X9 p p.nodes[i] q4 b1 b2 b4 b3
   have hno2 : Ar p.nodes p.nodes[i] = false → Db p = false := fun h => XQ hm h
   have hyes2 : Ar p.nodes p.nodes[i] = true → (p.nodes.take (i + 1)).all (Ar p.nodes) = true := fun h => by rw [A9 _ hil hq]; exact h
   generalize p.nodes[i] = n at *
   rw [Ay, Ad] at CC
   simp +contextual -dsimp (maxSteps := 2000000) only [↓SD, SU, simprocAttr, Aa, hil, e, Ay]
   intro w
   refine Ab _ CC ?_
   simp +contextual -dsimp (maxSteps := 2000000) only [↓SD, SU, simprocAttr]
   refine ⟨fun h => by rw [hno2 h], fun h => ⟨by omega, Af.le ⟨i + 1, ⟨⟨hil, hyes2 h⟩, (by first | omega | (simp only; omega))⟩, rfl⟩ (by simp +contextual -dsimp only [↓SD, SU, simprocAttr, Int.natCast_add]) trivial⟩⟩
  ·obtain rfl : i = p.nodes.length := by omega
   rw [List.take_length] at hq
   have CE := Ya p hx (p.nodes.length + 1) 0 (by omega) (by omega)
   rw [Ad] at CE
   simp +contextual -dsimp (maxSteps := 2000000) only [↓SD, SU, simprocAttr, Aa, Nat.lt_irrefl]
   refine Ab _ CE ?_
   simp +contextual -dsimp (maxSteps := 2000000) only [↓SD, SU, simprocAttr, Aa]
   congr 1
   rw [Acn hh hp hq]
   unfold Fc
   cases ho : Cv (Bp p.nodes) p.nodes.length (p.nodes.length + 1) 0 with
   | none =>
    rw [decide_eq_false (p := (none : Option Nat) = some p.nodes.length) (by simp)]
    exact decide_eq_false (by simp only [IH]; omega)
   | some m =>
    by_cases hm : m = p.nodes.length
    ·rw [decide_eq_true (p := some m = some p.nodes.length) (by rw [hm])]
     exact decide_eq_true (by simp only [IH]; omega)
    ·rw [decide_eq_false (p := some m = some p.nodes.length) (by simpa using hm)]
     exact decide_eq_false (by simp only [IH]; omega)
end Go.Proofs.YtppjinmlfcokaaaGreat
set_option linter.unusedVariables false
set_option linter.unusedSimpArgs false
set_option maxRecDepth 100000
namespace Go.Proofs.YtppjinmlfcokaaaGreat
open Go.RowKit Go.Proofs.YtppjinmlfcokaaaGreat.Av Go.Proofs.YtppjinmlfcokaaaGreat.Ml
open Go.Proofs.YtppjinmlfcokaaaGreat.Av.AVal (av)

theorem Vi (l : List Bu) (hx : Ac.bulk l ≤ 4294967296) : Ak Tryz.prog 197 [.agg [.sl (l.map av)]] (.sl ((varsOf l).map av)) := by
 have hl := Ag l
 refine Jo.F rfl (by simp; exact Ae.agg (by simp; exact Ao l)) (Ao _) ?_
 simp +contextual -dsimp only [↓SD, SU, simprocAttr, Jo, Aa]
 intro v
 refine Am (X := Nat × Nat) (fun x => ⟨[(3, .row 6 x.2 (varsOf (l.take x.1)).length), (8, .sl (l.map av)), (9, .int .i64 l.length), (10, .int .i64 x.1)], [(6, ⟨x.2, false, 9, 1, (varsOf (l.take x.1)).map av⟩)]⟩) (fun x => x.1 ≤ l.length) (fun x => l.length - x.1) (0, v) (Nat.zero_le _) (by simp +contextual -dsimp only [↓SD, SU, simprocAttr, varsOf, List.filterMap_nil]) (by simp +contextual -dsimp only [↓SD, SU, simprocAttr, varsOf, List.filterMap_nil]) ?_
 rintro ⟨k, u⟩ hk
 simp only at hk
 by_cases hlt : k < l.length
 ·have e := getD_map av l k .top hlt
  have hv := Ku hlt
  have hvl := JB (l.take k)
  rw [List.length_take] at hvl
  generalize l[k] = a at *
  simp +contextual -dsimp only [↓SD, SU, simprocAttr, Aa, hlt, e, A3]
  intro w
  (repeat' (first | intro _ | refine And.intro ?_ ?_))
  all_goals first | omega | (unfold maxLen; omega) | skip
  ·rename_i hk2 u'
   rw [if_pos hk2] at hv
   exact Af.le ⟨(k + 1, u'), ⟨hlt, (by first | omega | (simp only; omega))⟩, rfl⟩ (by simp +contextual -dsimp only [↓SD, SU, simprocAttr, Int.natCast_add, hv, List.length_append]) (by simp +contextual -dsimp only [↓SD, SU, simprocAttr, hv, AK, IL, List.map_append, NV])
  ·rename_i hk2
   rw [if_neg hk2, List.append_nil] at hv
   exact Af.le ⟨(k + 1, u), ⟨hlt, (by first | omega | (simp only; omega))⟩, rfl⟩ (by simp +contextual -dsimp only [↓SD, SU, simprocAttr, Int.natCast_add, hv]) (by simp +contextual -dsimp only [↓SD, SU, simprocAttr, hv])
 ·obtain rfl : k = l.length := by omega
  simp +contextual -dsimp only [↓SD, SU, simprocAttr, Aa, Nat.lt_irrefl, List.take_length, AK, IL]

theorem Ue (q : Pat) : (varsOf q.nodes).length ≤ Ac.bulk q := by
 have h1 := JB q.nodes
 have h2 := Ag q.nodes
 have h3 : Ac.bulk q = Ac.bulk q.nodes + 1 := rfl
 omega
end Go.Proofs.YtppjinmlfcokaaaGreat
set_option linter.unusedVariables false
namespace Go.Proofs.YtppjinmlfcokaaaGreat
open Go.RowKit Go.Proofs.YtppjinmlfcokaaaGreat.Av Go.Proofs.YtppjinmlfcokaaaGreat.Ml
open Go.Proofs.YtppjinmlfcokaaaGreat.Av.AVal (av)

inductive Tr where
 | mk (n : Node) (ks : List Tr)
theorem Tr.ind {P : Tr → Prop} (h : ∀ n ks, (∀ k ∈ ks, P k) → P (.mk n ks)) : ∀ t, P t
 | .mk n ks => h n ks fun k hk => Tr.ind h k
termination_by t => SizeOf.sizeOf t
decreasing_by
 have := List.sizeOf_lt_of_mem hk
 simp only [Tr.mk.sizeOf_spec]
 omega

mutual
def exA : Tr → AV
 | .mk n ks => .obj [.int .i64 n.kind, .int .i64 n.pos, .int .i64 n.n, .str n.s, .sl (Adb ks), .sl (n.Ai.map av)]
def Adb : List Tr → List AV
 | [] => []
 | t :: ts => exA t :: Adb ts
end
mutual
def XH : Tr → AV
 | .mk n ks => .agg [.int .i64 n.kind, .int .i64 n.pos, .int .i64 n.n, .str n.s, .sl (n.kids.map av), .sl (n.Ai.map av), .sl (Un ks)]
def Un : List Tr → List AV
 | [] => []
 | t :: ts => XH t :: Un ts
end
theorem Wn : ∀ ks, Adb ks = ks.map exA
 | [] => by rw [Adb]; rfl
 | t :: ts => by rw [Adb, Wn ts]; rfl
theorem Rp : ∀ ks, Un ks = ks.map XH
 | [] => by rw [Un]; rfl
 | t :: ts => by rw [Un, Rp ts]; rfl
theorem K8 (n : Node) (ks : List Tr) : exA (.mk n ks) = .obj [.int .i64 n.kind, .int .i64 n.pos, .int .i64 n.n, .str n.s, .sl (ks.map exA), .sl (n.Ai.map av)] := by rw [exA, Wn]
theorem Lh (n : Node) (ks : List Tr) : XH (.mk n ks) = .agg [.int .i64 n.kind, .int .i64 n.pos, .int .i64 n.n, .str n.s, .sl (n.kids.map av), .sl (n.Ai.map av), .sl (ks.map XH)] := by rw [XH, Rp]
theorem Abw : ∀ t, Ae (exA t) := Tr.ind fun n ks ih => by
 rw [K8]
 refine Ae.obj ?_
 simp only [List.mem_cons, List.not_mem_nil, or_false]
 rintro x (rfl | rfl | rfl | rfl | rfl | rfl)
 ·exact Bo _
 ·exact Bo _
 ·exact Bo _
 ·exact Ae.str _
 ·refine Ae.sl fun e he y hy => ?_
  obtain ⟨k, hk, rfl⟩ := List.mem_map.1 he
  have h := ih k hk
  cases k with | mk m js =>
  rw [K8] at hy h
  simp only [AV.cells, List.mem_cons, List.not_mem_nil, or_false] at hy
  subst hy
  exact h
 ·exact Ao n.Ai
theorem XG : ∀ t, ∀ y ∈ (XH t).cells, Ae y := Tr.ind fun n ks ih => by
 rw [Lh]
 simp only [AV.cells, List.mem_cons, List.not_mem_nil, or_false]
 rintro x (rfl | rfl | rfl | rfl | rfl | rfl | rfl)
 ·exact Bo _
 ·exact Bo _
 ·exact Bo _
 ·exact Ae.str _
 ·exact Ao n.kids
 ·exact Ao n.Ai
 ·refine Ae.sl fun e he y hy => ?_
  obtain ⟨k, hk, rfl⟩ := List.mem_map.1 he
  exact ih k hk y hy
instance : AVal Tr := ⟨exA, 1, fun x => (by cases x; rw [K8]; rfl), fun x => (by cases x; rw [K8]; rfl), fun x y hy => (by
 have h := Abw x
 cases x with | mk n ks =>
 rw [K8] at hy h
 simp only [AV.cells, List.mem_cons, List.not_mem_nil, or_false] at hy
 subst hy
 exact h), fun x hp => (by cases x; rw [K8]; rfl), fun x y hy => (by
 cases x with | mk n ks =>
 rw [K8] at hy
 simp only [AV.cells, List.mem_cons, List.not_mem_nil, or_false] at hy
 subst hy
 rfl)⟩
structure Sub where
 t : Tr
instance : AVal Sub := ⟨fun x => XH x.t, 7, fun x => (by obtain ⟨⟨n, ks⟩⟩ := x; simp only [Lh]; rfl), fun x => (by obtain ⟨⟨n, ks⟩⟩ := x; simp only [Lh]; rfl), fun x y hy => XG x.t y hy, fun x hp => (by obtain ⟨⟨n, ks⟩⟩ := x; simp only [Lh]; rfl), fun x y hy => (by
 obtain ⟨⟨n, ks⟩⟩ := x
 simp only [Lh, AV.cells, List.mem_cons, List.not_mem_nil, or_false] at hy
 rcases hy with rfl | rfl | rfl | rfl | rfl | rfl | rfl <;> rfl)⟩
theorem FK (n : Node) (ks : List Tr) : av (Tr.mk n ks) = .obj [.int .i64 n.kind, .int .i64 n.pos, .int .i64 n.n, .str n.s, .sl (ks.map av), .sl (n.Ai.map av)] := K8 n ks
theorem Bf (n : Node) (ks : List Tr) : av (Sub.mk (Tr.mk n ks)) = .agg [.int .i64 n.kind, .int .i64 n.pos, .int .i64 n.n, .str n.s, .sl (n.kids.map av), .sl (n.Ai.map av), .sl ((ks.map Sub.mk).map av)] := by
 rw [List.map_map]; exact Lh n ks

mutual
def Tr.size : Tr → Nat
 | .mk _ ks => Tr.AM ks + 1
def Tr.AM : List Tr → Nat
 | [] => 0
 | t :: ts => t.size + Tr.AM ts
end
def PR (n : Node) (m : Nat) : Prop := (n.kind = 3 → m = 0) ∧ (n.kind = 13 → m = n.Ai.length + 1) ∧ Ac.bulk n ≤ 4294967296
mutual
def Tr.ok : Tr → Prop
 | .mk n ks => PR n ks.length ∧ Tr.oks ks
def Tr.oks : List Tr → Prop
 | [] => True
 | t :: ts => t.ok ∧ Tr.oks ts
end
theorem Tw : ∀ {ks : List Tr} {k : Tr}, Tr.oks ks → k ∈ ks → k.ok
 | [], k, _, hk => by cases hk
 | t :: ts, k, h, hk => by
  rw [Tr.oks] at h
  rcases List.mem_cons.1 hk with rfl | hk
  ·exact h.1
  ·exact Tw h.2 hk
theorem XV : ∀ {ks : List Tr}, (∀ k ∈ ks, k.ok) → Tr.oks ks
 | [], _ => by rw [Tr.oks]; trivial
 | t :: ts, h => by rw [Tr.oks]; exact ⟨h t (by simp), XV fun k hk => h k (by simp [hk])⟩
theorem Cr : ∀ {ks : List Tr} {k : Tr}, k ∈ ks → k.size ≤ Tr.AM ks
 | [], k, hk => by cases hk
 | t :: ts, k, hk => by
  rw [Tr.AM]
  rcases List.mem_cons.1 hk with rfl | hk
  ·omega
  ·have := Cr hk; omega
theorem size_pos (t : Tr) : 1 ≤ t.size := by cases t; rw [Tr.size]; omega
theorem CD : ∀ ks : List Tr, ks.length ≤ Tr.AM ks
 | [] => by rw [Tr.AM]; exact Nat.zero_le _
 | t :: ts => by rw [Tr.AM]; have := CD ts; have := size_pos t; simp; omega

def Bx (l : List Node) : Nat → Nat → Tr
 | 0, _ => .mk default []
 | f + 1, i => .mk (l.getD i default) ((Bp l i).map fun k => Bx l f k.toNat)
theorem VW {K : Nat → List Int} {n : Nat} {e : Nat → Option Nat} (hle : ∀ a m, e a = some m → a < m ∧ m ≤ n) (he : ∀ a m, e a = some m → ∀ i, a ≤ i → i < m → ∃ f' m', Cv K n f' i = some m') :
  ∀ {ks : List Int} {a m : Nat}, a ≤ n → Dj e ks a = some m → ∀ i, a ≤ i → i < m → ∃ f' m', Cv K n f' i = some m'
 | [], a, m, _, h => by cases h; intro i h1 h2; omega
 | k :: ks, a, m, ha, h => by
  unfold Dj at h
  split at h
  ·split at h
   ·rename_i m' hm'
    intro i h4 h5
    rcases Nat.lt_or_ge i m' with h6 | h6
    ·exact he _ _ hm' i h4 h6
    ·exact VW hle he (hle _ _ hm').2 h i h6 h5
   ·cases h
  ·cases h
theorem Aab (K : Nat → List Int) (n : Nat) : ∀ (f a m : Nat), Cv K n f a = some m → ∀ i, a ≤ i → i < m → ∃ f' m', Cv K n f' i = some m'
 | 0, a, m, h => by cases h
 | f + 1, a, m, h => by
  intro i hi him
  rcases Nat.lt_or_ge a i with h2 | h2
  ·unfold Cv at h
   split at h
   ·exact VW (HS K n f) (Aab K n f) (by omega) h i (by omega) him
   ·cases h
  ·obtain rfl : i = a := by omega
   exact ⟨_, _, h⟩
theorem Qi (l : List Node) (hk : ∀ i, i < l.length → ∀ k ∈ Bp l i, (i : Int) < k ∧ k < l.length) : ∀ (f g i : Nat), i < l.length → l.length - i ≤ f → l.length - i ≤ g → Bx l f i = Bx l g i
 | 0, g, i, hi, hf, _ => by omega
 | f + 1, 0, i, hi, _, hg => by omega
 | f + 1, g + 1, i, hi, hf, hg => by
  rw [Bx, Bx]
  congr 1
  refine List.map_congr_left fun k hk' => ?_
  have := hk i hi k hk'
  exact Qi l hk f g k.toNat (by omega) (by omega) (by omega)
theorem Qh {l : List Node} {f g : Nat} (ih : ∀ a m, Cv (Bp l) l.length f a = some m → (Bx l g a).size + a = m) : ∀ {ks : List Int} {a m : Nat}, Dj (Cv (Bp l) l.length f) ks a = some m → Tr.AM (ks.map fun k => Bx l g k.toNat) + a = m
 | [], a, m, h => by cases h; rw [List.map_nil, Tr.AM]; omega
 | k :: ks, a, m, h => by
  unfold Dj at h
  split at h
  ·rename_i hk
   split at h
   ·rename_i m' hm'
    have h1 := ih _ _ hm'
    have h2 := Qh ih h
    rw [List.map_cons, Tr.AM, hk, Int.toNat_natCast]
    omega
   ·cases h
  ·cases h
theorem NP (l : List Node) : ∀ (f a m : Nat), Cv (Bp l) l.length f a = some m → (Bx l f a).size + a = m
 | 0, a, m, h => by cases h
 | f + 1, a, m, h => by
  unfold Cv at h
  split at h
  ·rw [Bx, Tr.size]
   have := Qh (NP l f) h
   omega
  ·cases h
def A2 (l : List Node) (i : Nat) : Tr := Bx l l.length i
theorem Uf {l : List Node} (h : Fc (Bp l) l.length = true) {i : Nat} (hi : i < l.length) : (A2 l i).size ≤ l.length := by
 have hk : ∀ i, i < l.length → ∀ k ∈ Bp l i, (i : Int) < k ∧ k < l.length := fun i hi k hk => DM h hi hk
 obtain ⟨f, m, h1⟩ := Aab _ _ _ _ _ (of_decide_eq_true h) i (Nat.zero_le _) hi
 have h2 := Adg _ _ h1 (f + l.length) (by omega)
 have h3 := NP l _ _ _ h2
 have h4 := HS _ _ _ _ _ h2
 rw [A2, Qi l hk l.length (f + l.length) i hi (by omega) (by omega)]
 omega
theorem Rk {l : List Node} (hk : ∀ i, i < l.length → ∀ k ∈ Bp l i, (i : Int) < k ∧ k < l.length) (hn : ∀ n ∈ l, PR n n.kids.length) : ∀ (f i : Nat), i < l.length → l.length - i ≤ f → (Bx l f i).ok
 | 0, i, hi, hf => by omega
 | f + 1, i, hi, hf => by
  rw [Bx, Tr.ok]
  have e : l.getD i default = l[i] := by simp [List.getD_eq_getElem?_getD, hi]
  refine ⟨?_, XV fun t ht => ?_⟩
  ·rw [List.length_map, Bp, e]; exact hn _ (List.getElem_mem hi)
  ·obtain ⟨k, hk', rfl⟩ := List.mem_map.1 ht
   have := hk i hi k hk'
   exact Rk hk hn f k.toNat (by omega) (by omega)
end Go.Proofs.YtppjinmlfcokaaaGreat
set_option linter.unusedVariables false
set_option linter.unusedSimpArgs false
set_option maxRecDepth 100000
namespace Go.Proofs.YtppjinmlfcokaaaGreat
open Go.RowKit Go.Proofs.YtppjinmlfcokaaaGreat.Av Go.Proofs.YtppjinmlfcokaaaGreat.Ml
open Go.Proofs.YtppjinmlfcokaaaGreat.Av.AVal (av)

theorem Pb (t : Tr) : (av t).cells = [av t] := by cases t; rw [FK]; rfl
theorem OW (t : Tr) (hp : Hp) : (av t).Cf hp = av t := by cases t; rw [FK]; rfl
theorem AdS (t : Tr) (hp : Hp) : (av t).B7 hp = av t := by cases t; rw [FK]; rfl
theorem AeN (t : Tr) (hp : Hp) : (av t).pur hp = av t := AVal.nop t hp
theorem AeO (t : Tr) : (av t).one = true := by cases t; rw [FK]; rfl
theorem Afr (t : Tr) : (av t).ok = true := AVal.ok t
theorem Bi (t : Sub) : (av t).cells.length = 7 := AVal.len t
theorem Bl (t : Sub) (hp : Hp) : (av t).pur hp = av t := AVal.nop t hp
theorem Bt (t : Sub) : AV.agg (List.take 7 (av t).cells) = av t := by
 obtain ⟨⟨n, ks⟩⟩ := t
 rw [Bf]; rfl
theorem BN (t : Sub) : (av t).ok = true := AVal.ok t
theorem AP (t : Sub) (hp : Hp) : (av t).Cf hp = av t := by
 obtain ⟨⟨n, ks⟩⟩ := t
 rw [Bf]; rfl
theorem GQ (x : AV) (h : x.ok = true) (F : Nat → AV) (esz i : Nat) (es : List AV) (ps : List (Nat × Au)) (k : List AV → Prop) : Mi x F esz i es ps k = ((x.cells.length = esz ∧ i < es.length) ∧ Hj F esz (es.set i x) ps k) := by simp [Mi, h]
end Go.Proofs.YtppjinmlfcokaaaGreat
