/-
 ProgramOk OF THE REFERENCE, by abstract texts. Conditions: none.
-/
import Derived.Test.YtppjinmlfcokaaaGreatVPgmW3
set_option linter.unusedVariables false
set_option linter.unusedSimpArgs false
set_option maxRecDepth 100000
namespace Go.Proofs.YtppjinmlfcokaaaGreat
open Go.RowKit Go.Proofs.YtppjinmlfcokaaaGreat.Av Go.Proofs.YtppjinmlfcokaaaGreat.Ml
open Go.Proofs.YtppjinmlfcokaaaGreat.Av.AVal (av)

theorem Ym (p : Program) (hx : Ac.bulk p ≤ 4294967296) : ∀ (f i : Nat), p.nodes.length - i < f → i ≤ 4294967296 → Ah Tryz.prog 64 [av p, .int .i64 i] (.int .i64 (Hn (B9 (Aq p.nodes) p.nodes.length f i))) := by
 obtain ⟨q1, q2, q3, hl⟩ := CD hx
 intro f
 induction f with
 | zero => intro i h; omega
 | succ f ih =>
  intro i hf hi0
  refine G0.F rfl (by simp; exact ⟨AVal.clean p, BB _⟩) (BB _) ?_
  by_cases hi : i < p.nodes.length
  ·have e := getD_map av p.nodes i .top hi
   have hs := (Eg q2 (List.getElem_mem hi)).1
   have hK : Aq p.nodes i = p.nodes[i].kids := by rw [Aq, Ey hi]
   have hE : B9 (Aq p.nodes) p.nodes.length (f + 1) i = BR (B9 (Aq p.nodes) p.nodes.length f) p.nodes[i].kids (i + 1) := by rw [B9, if_pos hi, hK]
   rw [hE]
   generalize p.nodes[i] = a at *
   simp +contextual -dsimp (maxSteps := 2000000) only [↓SD, SU, simprocAttr, G0, Ab, hi, e, As, Ag, Nat.not_le]
   refine ⟨by omega, by omega, ?_⟩
   refine Am (X := Nat × Nat) (fun x => ⟨[(2, .obj [.sl (p.types.map av), .sl (p.nodes.map av)]), (5, .int .i64 x.2), (20, .sl (a.kids.map av)), (21, .int .i64 a.kids.length), (22, .int .i64 x.1)], []⟩) (fun x => x.1 ≤ a.kids.length ∧ i < x.2 ∧ x.2 ≤ p.nodes.length ∧ BR (B9 (Aq p.nodes) p.nodes.length f) a.kids (i + 1) = BR (B9 (Aq p.nodes) p.nodes.length f) (a.kids.drop x.1) x.2) (fun x => a.kids.length - x.1) (0, i + 1) ⟨Nat.zero_le _, by simp, by simp only; omega, rfl⟩ (by simp +contextual -dsimp only [↓SD, SU, simprocAttr, Int.natCast_add]) trivial ?_
   rintro ⟨j, m⟩ ⟨hj, hm1, hm2, he⟩
   simp only at hj hm1 hm2 he
   by_cases hlt : j < a.kids.length
   ·have e2 := getD_map av a.kids j .top hlt
    rw [List.drop_eq_getElem_cons hlt, BR] at he
    have C := ih m (by omega) (by omega)
    rw [Ag] at C
    by_cases hkm : a.kids[j] = (m : Int)
    ·rw [if_pos hkm] at he
     simp +contextual -dsimp (maxSteps := 2000000) only [↓SD, SU, simprocAttr, Ab, hlt, e2, AA, hkm]
     refine Aa _ C ?_
     cases hm' : B9 (Aq p.nodes) p.nodes.length f m with
     | none =>
      rw [hm'] at he
      simp +contextual -dsimp (maxSteps := 2000000) only [↓SD, SU, simprocAttr, Hn]
      rw [he]
     | some m' =>
      rw [hm'] at he
      have := HS (Aq p.nodes) p.nodes.length f m m' hm'
      have hneg : ¬ ((m' : Int) < 0) := by omega
      simp +contextual -dsimp (maxSteps := 2000000) only [↓SD, SU, simprocAttr, Hn, hneg]
      refine ⟨by omega, Af.le ⟨(j + 1, m'), ⟨⟨hlt, by simp only; omega, this.2, he⟩, (by first | omega | (simp only; omega))⟩, rfl⟩ (by simp +contextual -dsimp only [↓SD, SU, simprocAttr, Int.natCast_add]) trivial⟩
    ·rw [if_neg hkm] at he
     simp +contextual -dsimp (maxSteps := 2000000) only [↓SD, SU, simprocAttr, Ab, hlt, e2, AA, hkm]
     rw [he]; rfl
   ·obtain rfl : j = a.kids.length := by omega
    rw [List.drop_length, BR] at he
    simp +contextual -dsimp (maxSteps := 2000000) only [↓SD, SU, simprocAttr, Ab, Nat.lt_irrefl]
    rw [he]; rfl
  ·have hE : B9 (Aq p.nodes) p.nodes.length (f + 1) i = none := by rw [B9, if_neg hi]
   have hi' : p.nodes.length ≤ i := by omega
   simp +contextual -dsimp (maxSteps := 2000000) only [↓SD, SU, simprocAttr, G0, Ag, Ab, hi', hE]
   rfl

theorem AbM (c : Con) (m : Int) (hs : c.name.size ≤ 4294967296) (hb : Ac.bulk c.arg.items ≤ 4294967296) : Ah Tryz.prog 62 [av c, .int .i64 m] (.bool (D6 c m)) := by
 refine FW.F rfl (by simp; exact ⟨AVal.clean c, BB _⟩) (Ad.bool _) ?_
 obtain ⟨cn, ch, ⟨items⟩⟩ := c
 simp only at hs hb
 have hil := Ai items
 rw [Sz]
 simp only
 have D1 := Mc cn (by omega)
 have D2 := Ur items hb
 generalize Q9 cn = b1 at *
 cases b1
 case false =>
  simp +contextual -dsimp (maxSteps := 2000000) only [↓SD, SU, simprocAttr, FW, Ck]
  refine Aa _ D1 ?_
  simp +contextual -dsimp (maxSteps := 2000000) only [↓SD, SU, simprocAttr, Bool.false_and]
 cases ch
 case false =>
  simp +contextual -dsimp (maxSteps := 2000000) only [↓SD, SU, simprocAttr, FW, Ck]
  refine Aa _ D1 ?_
  simp +contextual -dsimp (maxSteps := 2000000) only [↓SD, SU, simprocAttr, Ab]
  congr 1
  by_cases hi : items = []
  ·subst hi; rfl
  ·have : items.length ≠ 0 := fun h => hi (List.eq_nil_of_length_eq_zero h)
   rw [decide_eq_false (p := items = []) hi, decide_eq_false (by omega)]; rfl
 simp +contextual -dsimp (maxSteps := 2000000) only [↓SD, SU, simprocAttr, FW, Ck]
 refine Aa _ D1 ?_
 simp +contextual -dsimp (maxSteps := 2000000) only [↓SD, SU, simprocAttr, Ab]
 refine Am (X := Nat) (fun j => ⟨[(1, .int .i64 m), (2, .obj [.str cn, .bool true, .sl (items.map av)]), (21, .sl (items.map av)), (22, .int .i64 items.length), (23, .int .i64 j)], []⟩) (fun j => j ≤ items.length ∧ (items.take j).all (Ld m) = true) (fun j => items.length - j) 0 ⟨Nat.zero_le _, rfl⟩ (by simp +contextual -dsimp only [↓SD, SU, simprocAttr]) trivial ?_
 rintro j ⟨hj, hq⟩
 by_cases hjl : j < items.length
 ·have e2 := getD_map av items j .top hjl
  have hno2 : Ld m items[j] = false → items.all (Ld m) = false := fun h => A7 _ hjl h
  have hyes2 : Ld m items[j] = true → (items.take (j + 1)).all (Ld m) = true := fun h => by rw [A6 _ hjl hq]; exact h
  generalize items[j] = x at *
  obtain ⟨vr, nm, ar⟩ := x
  simp +contextual -dsimp (maxSteps := 2000000) only [↓SD, SU, simprocAttr, Ab, hjl, e2, A5]
  intro w
  (repeat' (first | intro _ | refine And.intro ?_ ?_))
  all_goals first
   | omega
   | exact Af.le ⟨j + 1, ⟨⟨hjl, hyes2 (by simp [Ld, *])⟩, (by first | omega | (simp only; omega))⟩, rfl⟩ (by simp +contextual -dsimp only [↓SD, SU, simprocAttr, Int.natCast_add]) trivial
   | (rw [hno2 (by simp [Ld, *])]; simp; done)
   | exact Af.le ⟨j + 1, ⟨⟨hjl, hyes2 (by simp [Ld, *]; omega)⟩, (by first | omega | (simp only; omega))⟩, rfl⟩ (by simp +contextual -dsimp only [↓SD, SU, simprocAttr, Int.natCast_add]) trivial
 ·obtain rfl : j = items.length := by omega
  rw [List.take_length] at hq
  simp +contextual -dsimp (maxSteps := 2000000) only [↓SD, SU, simprocAttr, Ab, Nat.lt_irrefl]
  refine Aa _ D2 ?_
  simp +contextual -dsimp (maxSteps := 2000000) only [↓SD, SU, simprocAttr]
  congr 1
  rw [hq]; simp

theorem Rf {t : BF} (h : LA t = false) : FP t = false := by rw [O0, h]; rfl
theorem Vk {p : Program} (h : p.types.all FP = false) : Bv p = false := by rw [HD, Gl, h]; simp
theorem XZ {p : Program} (h : Lu p = false) : Bv p = false := by rw [HD, Gl, h]; simp
theorem XX {p : Program} (h : Fh (Aq p.nodes) p.nodes.length = false) : Bv p = false := by rw [HD, Gl, h]; simp
theorem XY {p : Program} {n : Node} (hn : n ∈ p.nodes) (h : Ap p.nodes n = false) : Bv p = false := by
 cases ht : Fh (Aq p.nodes) p.nodes.length with
 | false => exact XX ht
 | true =>
  obtain ⟨k, hk, rfl⟩ := List.mem_iff_getElem.1 hn
  have hin : p.nodes[k].kids.all (Ba p.nodes.length) = true := by
   rw [List.all_eq_true]
   intro x hx
   have := Ef ht hk (k := x) (by rw [Aq, Ey hk]; exact hx)
   simp [Ba]; omega
  unfold Ap at h
  rw [hin, Bool.true_and, Bool.and_eq_false_iff] at h
  rw [HD, Gl]
  rcases h with h | h
  ·rw [A7 (AE BC p.nodes) hk h]; simp
  ·rw [A7 BN hk h]; simp
theorem AcN {p : Program} (h1 : Lu p = true) (h2 : p.types.all FP = true) (h3 : p.nodes.all (Ap p.nodes) = true) : Bv p = Fh (Aq p.nodes) p.nodes.length := by
 have h4 : p.nodes.all (AE BC p.nodes) = true := by
  rw [List.all_eq_true] at h3 ⊢
  intro n hn
  have := h3 n hn
  simp only [Ap, Bool.and_eq_true] at this
  exact this.1.2
 have h5 : p.nodes.all BN = true := by
  rw [List.all_eq_true] at h3 ⊢
  intro n hn
  have := h3 n hn
  simp only [Ap, Bool.and_eq_true] at this
  exact this.2
 rw [HD, Gl, h1, h2, h4, h5]; simp

set_option maxHeartbeats 4000000 in
theorem Du (p : Program) (hx : Ac.bulk p ≤ 4294967296) : Ah Tryz.prog 29 [av p] (.bool (Bv p)) := by
 obtain ⟨q1, q2, q3, q4⟩ := CD hx
 refine F0.F rfl (by simp; exact AVal.clean p) (Ad.bool _) ?_
 by_cases hh : Lu p = true
 case neg =>
  rw [XZ (by simpa using hh)]
  have hh2 : ¬ (1 ≤ (p.nodes.length : Int) ∧ (p.nodes.length : Int) ≤ 600 ∧ (p.types.length : Int) ≤ 8) := fun h => hh (by unfold Lu; rw [decide_eq_true h.1, decide_eq_true h.2.1, decide_eq_true h.2.2]; rfl)
  simp +contextual -dsimp (maxSteps := 2000000) only [↓SD, SU, simprocAttr, F0, Ag, Ab]
  (repeat' (first | intro _ | refine And.intro ?_ ?_))
  all_goals first | rfl | (exfalso; omega) | trace_state
 have hh' := hh
 unfold Lu at hh'
 simp only [Bool.and_eq_true, decide_eq_true_eq] at hh'
 obtain ⟨⟨h1, h2⟩, h3⟩ := hh'
 have h1' : ¬ (p.nodes.length : Int) < 1 := by omega
 have h2' : ¬ (600 : Int) < p.nodes.length := by omega
 have h3' : ¬ (8 : Int) < p.types.length := by omega
 have h1'' : ¬ p.nodes.length < 1 := by omega
 have h2'' : ¬ 600 < p.nodes.length := by omega
 have h3'' : ¬ 8 < p.types.length := by omega
 simp +contextual -dsimp (maxSteps := 2000000) only [↓SD, SU, simprocAttr, F0, Ag, Ab, h1', h2', h3', h1'', h2'', h3'']
 refine Am (X := Nat) (fun k => ⟨[(1, .obj [.sl (p.types.map av), .sl (p.nodes.map av)]), (26, .sl (p.types.map av)), (27, .int .i64 p.types.length), (28, .int .i64 k)], []⟩) (fun k => k ≤ p.types.length ∧ (p.types.take k).all FP = true) (fun k => p.types.length - k) 0 ⟨Nat.zero_le _, rfl⟩ (by simp +contextual -dsimp only [↓SD, SU, simprocAttr]) trivial ?_
 rintro k ⟨hk, hp⟩
 by_cases hlt : k < p.types.length
 ·have e := getD_map av p.types k .top hlt
  have htb : Ac.bulk p.types[k] ≤ 4294967296 := by have := Au (List.getElem_mem hlt); omega
  obtain ⟨hs, hcb⟩ := OZ htb
  have hno : FP p.types[k] = false → Bv p = false := fun h => Vk (A7 _ hlt h)
  have hyes : FP p.types[k] = true → (p.types.take (k + 1)).all FP = true := fun h => by rw [A6 _ hlt hp]; exact h
  generalize p.types[k] = t at *
  obtain ⟨name, params, cons⟩ := t
  simp only at hs hcb
  have hcl := Ai cons
  have CN := AW name (by omega)
  cases hnm : EC name with
  | false =>
   rw [hnm] at CN
   simp +contextual -dsimp (maxSteps := 2000000) only [↓SD, SU, simprocAttr, Ab, hlt, e, BE]
   intro v
   refine Aa _ CN ?_
   simp +contextual -dsimp (maxSteps := 2000000) only [↓SD, SU, simprocAttr]
   rw [hno (Rf (by simp [LA, hnm]))]
  | true =>
   rw [hnm] at CN
   by_cases hr : (0 ≤ params ∧ params ≤ 2) ∧ 1 ≤ (cons.length : Int) ∧ (cons.length : Int) ≤ 8
   ·obtain ⟨⟨r1, r2⟩, r3, r4⟩ := hr
    have r1' : ¬ params < 0 := by omega
    have r2' : ¬ (2 : Int) < params := by omega
    have r3' : ¬ (cons.length : Int) < 1 := by omega
    have r4' : ¬ (8 : Int) < cons.length := by omega
    have hH : FP ⟨name, params, cons⟩ = cons.all fun c => D6 c params := by
     rw [O0]
     unfold LA
     rw [hnm, decide_eq_true r1, decide_eq_true r2, decide_eq_true r3, decide_eq_true r4]; simp
    rw [hH] at hno hyes
    simp +contextual -dsimp (maxSteps := 2000000) only [↓SD, SU, simprocAttr, Ab, hlt, e, BE]
    intro v
    refine Aa _ CN ?_
    simp +contextual -dsimp (maxSteps := 2000000) only [↓SD, SU, simprocAttr, Ab, r1', r2', r3', r4']
    refine Am (X := Nat) (fun j => ⟨[(1, .obj [.sl (p.types.map av), .sl (p.nodes.map av)]), (4, .ptr 4 v 0 0), (26, .sl (p.types.map av)), (27, .int .i64 p.types.length), (28, .int .i64 k), (59, .sl (cons.map av)), (60, .int .i64 cons.length), (61, .int .i64 j)], [(4, ⟨v, false, 72, 3, [.agg [.str name, .int .i64 params, .sl (cons.map av)]]⟩)]⟩) (fun j => j ≤ cons.length ∧ (cons.take j).all (fun c => D6 c params) = true) (fun j => cons.length - j) 0 ⟨Nat.zero_le _, rfl⟩ (by simp +contextual -dsimp only [↓SD, SU, simprocAttr]) (by simp +contextual -dsimp only [↓SD, SU, simprocAttr]) ?_
    rintro j ⟨hj, hq⟩
    by_cases hjl : j < cons.length
    ·have e2 := getD_map av cons j .top hjl
     obtain ⟨s1, s2⟩ := Sx hcb (List.getElem_mem hjl)
     have CC := AbM cons[j] params s1 s2
     have hno2 : D6 cons[j] params = false → Bv p = false := fun h => hno (A7 (fun c => D6 c params) hjl h)
     have hyes2 : D6 cons[j] params = true → (cons.take (j + 1)).all (fun c => D6 c params) = true := fun h => by rw [A6 _ hjl hq]; exact h
     generalize cons[j] = c at *
     rw [Ck] at CC
     simp +contextual -dsimp (maxSteps := 2000000) only [↓SD, SU, simprocAttr, Ab, hjl, e2, Ck]
     intro w
     refine Aa _ CC ?_
     simp +contextual -dsimp (maxSteps := 2000000) only [↓SD, SU, simprocAttr]
     refine ⟨fun h => by rw [hno2 h], fun h => ⟨by omega, Af.le ⟨j + 1, ⟨⟨hjl, hyes2 h⟩, (by first | omega | (simp only; omega))⟩, rfl⟩ (by simp +contextual -dsimp only [↓SD, SU, simprocAttr, Int.natCast_add]) (by simp +contextual -dsimp only [↓SD, SU, simprocAttr])⟩⟩
    ·obtain rfl : j = cons.length := by omega
     rw [List.take_length] at hq
     simp +contextual -dsimp (maxSteps := 2000000) only [↓SD, SU, simprocAttr, Ab, Nat.lt_irrefl]
     exact ⟨by omega, Af.le ⟨k + 1, ⟨⟨hlt, hyes hq⟩, (by first | omega | (simp only; omega))⟩, rfl⟩ (by simp +contextual -dsimp only [↓SD, SU, simprocAttr, Int.natCast_add]) trivial⟩
   ·have hbad : LA ⟨name, params, cons⟩ = false := by
     rw [← Bool.not_eq_true]
     unfold LA
     simp only [Bool.and_eq_true, decide_eq_true_eq]
     exact fun h => hr ⟨h.1.2, h.2⟩
    have hF := hno (Rf hbad)
    simp +contextual -dsimp (maxSteps := 2000000) only [↓SD, SU, simprocAttr, Ab, hlt, e, BE]
    intro v
    refine Aa _ CN ?_
    simp +contextual -dsimp (maxSteps := 2000000) only [↓SD, SU, simprocAttr, Ab, hF]
    (repeat' (first | intro _ | refine And.intro ?_ ?_))
    all_goals first | rfl | (exfalso; omega) | trace_state
 ·obtain rfl : k = p.types.length := by omega
  rw [List.take_length] at hp
  simp +contextual -dsimp (maxSteps := 2000000) only [↓SD, SU, simprocAttr, Ab, Nat.lt_irrefl]
  refine Am (X := Nat) (fun k => ⟨[(1, .obj [.sl (p.types.map av), .sl (p.nodes.map av)]), (73, .sl (p.nodes.map av)), (74, .int .i64 p.nodes.length), (75, .int .i64 k)], []⟩) (fun k => k ≤ p.nodes.length ∧ (p.nodes.take k).all (Ap p.nodes) = true) (fun k => p.nodes.length - k) 0 ⟨Nat.zero_le _, rfl⟩ (by simp +contextual -dsimp only [↓SD, SU, simprocAttr]) trivial ?_
  rintro i ⟨hi, hq⟩
  by_cases hil : i < p.nodes.length
  ·have e := getD_map av p.nodes i .top hil
   have hm := List.getElem_mem hil
   obtain ⟨b1, b2, b3, b4⟩ := Eg q2 hm
   have CC := Yk p p.nodes[i] q4 b1 b2 b4 b3
   have hno2 : Ap p.nodes p.nodes[i] = false → Bv p = false := fun h => XY hm h
   have hyes2 : Ap p.nodes p.nodes[i] = true → (p.nodes.take (i + 1)).all (Ap p.nodes) = true := fun h => by rw [A6 _ hil hq]; exact h
   generalize p.nodes[i] = n at *
   rw [As, Ag] at CC
   simp +contextual -dsimp (maxSteps := 2000000) only [↓SD, SU, simprocAttr, Ab, hil, e, As]
   intro w
   refine Aa _ CC ?_
   simp +contextual -dsimp (maxSteps := 2000000) only [↓SD, SU, simprocAttr]
   refine ⟨fun h => by rw [hno2 h], fun h => ⟨by omega, Af.le ⟨i + 1, ⟨⟨hil, hyes2 h⟩, (by first | omega | (simp only; omega))⟩, rfl⟩ (by simp +contextual -dsimp only [↓SD, SU, simprocAttr, Int.natCast_add]) trivial⟩⟩
  ·obtain rfl : i = p.nodes.length := by omega
   rw [List.take_length] at hq
   have CE := Ym p hx (p.nodes.length + 1) 0 (by omega) (by omega)
   rw [Ag] at CE
   simp +contextual -dsimp (maxSteps := 2000000) only [↓SD, SU, simprocAttr, Ab, Nat.lt_irrefl]
   refine Aa _ CE ?_
   simp +contextual -dsimp (maxSteps := 2000000) only [↓SD, SU, simprocAttr, Ab]
   congr 1
   rw [AcN hh hp hq]
   unfold Fh
   cases ho : B9 (Aq p.nodes) p.nodes.length (p.nodes.length + 1) 0 with
   | none =>
    rw [decide_eq_false (p := (none : Option Nat) = some p.nodes.length) (by simp)]
    exact decide_eq_false (by simp only [Hn]; omega)
   | some m =>
    by_cases hm : m = p.nodes.length
    ·rw [decide_eq_true (p := some m = some p.nodes.length) (by rw [hm])]
     exact decide_eq_true (by simp only [Hn]; omega)
    ·rw [decide_eq_false (p := some m = some p.nodes.length) (by simpa using hm)]
     exact decide_eq_false (by simp only [Hn]; omega)
end Go.Proofs.YtppjinmlfcokaaaGreat
