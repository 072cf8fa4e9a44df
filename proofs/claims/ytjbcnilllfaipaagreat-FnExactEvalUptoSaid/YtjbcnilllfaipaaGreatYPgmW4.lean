/-
 ProgramOk OF THE REFERENCE, by abstract texts. Conditions: none.
-/
import Derived.Test.YtjbcnilllfaipaaGreatYPgmW3
set_option linter.unusedVariables false
set_option linter.unusedSimpArgs false
set_option maxRecDepth 100000
namespace Go.Proofs.YtjbcnilllfaipaaGreat
open Go.RowKit Go.Proofs.YtjbcnilllfaipaaGreat.Av Go.Proofs.YtjbcnilllfaipaaGreat.Ml
open Go.Proofs.YtjbcnilllfaipaaGreat.Av.AVal (av)

theorem Ww (p : Program) (hx : Ad.bulk p ≤ 1099511627776) : ∀ (f i : Nat), p.nodes.length - i < f → i ≤ 1099511627776 → Ap Tryz.prog 39 [av p, .int .i64 i] (.int .i64 (HW (DV (AF p.nodes) p.nodes.length f i))) := by
 obtain ⟨q1, q2, q3, hl⟩ := Fs hx
 intro f
 induction f with
 | zero => intro i h; omega
 | succ f ih =>
  intro i hf hi0
  refine Gq.F rfl (by simp; exact ⟨AVal.clean p, BL _⟩) (BL _) ?_
  by_cases hi : i < p.nodes.length
  ·have e := getD_map av p.nodes i .top hi
   have hs := (Du q2 (List.getElem_mem hi)).1
   have hK : AF p.nodes i = p.nodes[i].kids := by rw [AF, Ef hi]
   have hE : DV (AF p.nodes) p.nodes.length (f + 1) i = D0 (DV (AF p.nodes) p.nodes.length f) p.nodes[i].kids (i + 1) := by rw [DV, if_pos hi, hK]
   rw [hE]
   generalize p.nodes[i] = a at *
   simp +contextual -dsimp (maxSteps := 2000000) only [↓SD, SU, simprocAttr, Gq, Aa, hi, e, AL, Aj, Nat.not_le]
   refine ⟨by omega, by omega, ?_⟩
   refine Al (X := Nat × Nat) (fun x => ⟨[(2, .obj [.sl (p.types.map av), .sl (p.nodes.map av)]), (5, .int .i64 x.2), (20, .sl (a.kids.map av)), (21, .int .i64 a.kids.length), (22, .int .i64 x.1)], []⟩) (fun x => x.1 ≤ a.kids.length ∧ i < x.2 ∧ x.2 ≤ p.nodes.length ∧ D0 (DV (AF p.nodes) p.nodes.length f) a.kids (i + 1) = D0 (DV (AF p.nodes) p.nodes.length f) (a.kids.drop x.1) x.2) (fun x => a.kids.length - x.1) (0, i + 1) ⟨Nat.zero_le _, by simp, by simp only; omega, rfl⟩ (by simp +contextual -dsimp only [↓SD, SU, simprocAttr, Int.natCast_add]) trivial ?_
   rintro ⟨j, m⟩ ⟨hj, hm1, hm2, he⟩
   simp only at hj hm1 hm2 he
   by_cases hlt : j < a.kids.length
   ·have e2 := getD_map av a.kids j .top hlt
    rw [List.drop_eq_getElem_cons hlt, D0] at he
    have C := ih m (by omega) (by omega)
    rw [Aj] at C
    by_cases hkm : a.kids[j] = (m : Int)
    ·rw [if_pos hkm] at he
     simp +contextual -dsimp (maxSteps := 2000000) only [↓SD, SU, simprocAttr, Aa, hlt, e2, Bo, hkm]
     refine Ab _ C ?_
     cases hm' : DV (AF p.nodes) p.nodes.length f m with
     | none =>
      rw [hm'] at he
      simp +contextual -dsimp (maxSteps := 2000000) only [↓SD, SU, simprocAttr, HW]
      rw [he]
     | some m' =>
      rw [hm'] at he
      have := MW (AF p.nodes) p.nodes.length f m m' hm'
      have hneg : ¬ ((m' : Int) < 0) := by omega
      simp +contextual -dsimp (maxSteps := 2000000) only [↓SD, SU, simprocAttr, HW, hneg]
      refine ⟨by omega, Af.le ⟨(j + 1, m'), ⟨⟨hlt, by simp only; omega, this.2, he⟩, (by first | omega | (simp only; omega))⟩, rfl⟩ (by simp +contextual -dsimp only [↓SD, SU, simprocAttr, Int.natCast_add]) trivial⟩
    ·rw [if_neg hkm] at he
     simp +contextual -dsimp (maxSteps := 2000000) only [↓SD, SU, simprocAttr, Aa, hlt, e2, Bo, hkm]
     rw [he]; rfl
   ·obtain rfl : j = a.kids.length := by omega
    rw [List.drop_length, D0] at he
    simp +contextual -dsimp (maxSteps := 2000000) only [↓SD, SU, simprocAttr, Aa, Nat.lt_irrefl]
    rw [he]; rfl
  ·have hE : DV (AF p.nodes) p.nodes.length (f + 1) i = none := by rw [DV, if_neg hi]
   have hi' : p.nodes.length ≤ i := by omega
   simp +contextual -dsimp (maxSteps := 2000000) only [↓SD, SU, simprocAttr, Gq, Aj, Aa, hi', hE]
   rfl

theorem ZF (c : Con) (m : Int) (hs : c.name.size ≤ 1099511627776) (hb : Ad.bulk c.arg.items ≤ 1099511627776) : Ap Tryz.prog 37 [av c, .int .i64 m] (.bool (EY c m)) := by
 refine FK.F rfl (by simp; exact ⟨AVal.clean c, BL _⟩) (Ac.bool _) ?_
 obtain ⟨cn, ch, ⟨items⟩⟩ := c
 simp only at hs hb
 have hil := Ao items
 rw [Ro]
 simp only
 have D1 := Lu cn (by omega)
 have D2 := Td items hb
 generalize SN cn = b1 at *
 cases b1
 case false =>
  simp +contextual -dsimp (maxSteps := 2000000) only [↓SD, SU, simprocAttr, FK, De]
  refine Ab _ D1 ?_
  simp +contextual -dsimp (maxSteps := 2000000) only [↓SD, SU, simprocAttr, Bool.false_and]
 cases ch
 case false =>
  simp +contextual -dsimp (maxSteps := 2000000) only [↓SD, SU, simprocAttr, FK, De]
  refine Ab _ D1 ?_
  simp +contextual -dsimp (maxSteps := 2000000) only [↓SD, SU, simprocAttr, Aa]
  congr 1
  by_cases hi : items = []
  ·subst hi; rfl
  ·have : items.length ≠ 0 := fun h => hi (List.eq_nil_of_length_eq_zero h)
   rw [decide_eq_false (p := items = []) hi, decide_eq_false (by omega)]; rfl
 simp +contextual -dsimp (maxSteps := 2000000) only [↓SD, SU, simprocAttr, FK, De]
 refine Ab _ D1 ?_
 simp +contextual -dsimp (maxSteps := 2000000) only [↓SD, SU, simprocAttr, Aa]
 refine Al (X := Nat) (fun j => ⟨[(1, .int .i64 m), (2, .obj [.str cn, .bool true, .sl (items.map av)]), (21, .sl (items.map av)), (22, .int .i64 items.length), (23, .int .i64 j)], []⟩) (fun j => j ≤ items.length ∧ (items.take j).all (KF m) = true) (fun j => items.length - j) 0 ⟨Nat.zero_le _, rfl⟩ (by simp +contextual -dsimp only [↓SD, SU, simprocAttr]) trivial ?_
 rintro j ⟨hj, hq⟩
 by_cases hjl : j < items.length
 ·have e2 := getD_map av items j .top hjl
  have hno2 : KF m items[j] = false → items.all (KF m) = false := fun h => A6 _ hjl h
  have hyes2 : KF m items[j] = true → (items.take (j + 1)).all (KF m) = true := fun h => by rw [A5 _ hjl hq]; exact h
  generalize items[j] = x at *
  obtain ⟨vr, nm, ar⟩ := x
  simp +contextual -dsimp (maxSteps := 2000000) only [↓SD, SU, simprocAttr, Aa, hjl, e2, AY]
  intro w
  (repeat' (first | intro _ | refine And.intro ?_ ?_))
  all_goals first
   | omega
   | exact Af.le ⟨j + 1, ⟨⟨hjl, hyes2 (by simp [KF, *])⟩, (by first | omega | (simp only; omega))⟩, rfl⟩ (by simp +contextual -dsimp only [↓SD, SU, simprocAttr, Int.natCast_add]) trivial
   | (rw [hno2 (by simp [KF, *])]; simp; done)
   | exact Af.le ⟨j + 1, ⟨⟨hjl, hyes2 (by simp [KF, *]; omega)⟩, (by first | omega | (simp only; omega))⟩, rfl⟩ (by simp +contextual -dsimp only [↓SD, SU, simprocAttr, Int.natCast_add]) trivial
 ·obtain rfl : j = items.length := by omega
  rw [List.take_length] at hq
  simp +contextual -dsimp (maxSteps := 2000000) only [↓SD, SU, simprocAttr, Aa, Nat.lt_irrefl]
  refine Ab _ D2 ?_
  simp +contextual -dsimp (maxSteps := 2000000) only [↓SD, SU, simprocAttr]
  congr 1
  rw [hq]; simp

theorem Qh {t : BP} (h : KW t = false) : Hn t = false := by rw [N3, h]; rfl
theorem T6 {p : Program} (h : p.types.all Hn = false) : FJ p = false := by rw [Ie, GW, h]; simp
theorem Wh {p : Program} (h : KT p = false) : FJ p = false := by rw [Ie, GW, h]; simp
theorem Wf {p : Program} (h : Fw (AF p.nodes) p.nodes.length = false) : FJ p = false := by rw [Ie, GW, h]; simp
theorem Wg {p : Program} {n : Node} (hn : n ∈ p.nodes) (h : Au p.nodes n = false) : FJ p = false := by
 cases ht : Fw (AF p.nodes) p.nodes.length with
 | false => exact Wf ht
 | true =>
  obtain ⟨k, hk, rfl⟩ := List.mem_iff_getElem.1 hn
  have hin : p.nodes[k].kids.all (Ba p.nodes.length) = true := by
   rw [List.all_eq_true]
   intro x hx
   have := GJ ht hk (k := x) (by rw [AF, Ef hk]; exact hx)
   simp [Ba]; omega
  unfold Au at h
  rw [hin, Bool.true_and, Bool.and_eq_false_iff] at h
  rw [Ie, GW]
  rcases h with h | h
  ·rw [A6 (AP BK p.nodes) hk h]; simp
  ·rw [A6 BS hk h]; simp
theorem AaF {p : Program} (h1 : KT p = true) (h2 : p.types.all Hn = true) (h3 : p.nodes.all (Au p.nodes) = true) : FJ p = Fw (AF p.nodes) p.nodes.length := by
 have h4 : p.nodes.all (AP BK p.nodes) = true := by
  rw [List.all_eq_true] at h3 ⊢
  intro n hn
  have := h3 n hn
  simp only [Au, Bool.and_eq_true] at this
  exact this.1.2
 have h5 : p.nodes.all BS = true := by
  rw [List.all_eq_true] at h3 ⊢
  intro n hn
  have := h3 n hn
  simp only [Au, Bool.and_eq_true] at this
  exact this.2
 rw [Ie, GW, h1, h2, h4, h5]; simp

set_option maxHeartbeats 4000000 in
theorem MH (p : Program) (hx : Ad.bulk p ≤ 1099511627776) : Ap Tryz.prog 18 [av p] (.bool (FJ p)) := by
 obtain ⟨q1, q2, q3, q4⟩ := Fs hx
 refine FM.F rfl (by simp; exact AVal.clean p) (Ac.bool _) ?_
 by_cases hh : KT p = true
 case neg =>
  rw [Wh (by simpa using hh)]
  have hh2 : ¬ (1 ≤ (p.nodes.length : Int) ∧ (p.nodes.length : Int) ≤ 600 ∧ (p.types.length : Int) ≤ 8) := fun h => hh (by unfold KT; rw [decide_eq_true h.1, decide_eq_true h.2.1, decide_eq_true h.2.2]; rfl)
  simp +contextual -dsimp (maxSteps := 2000000) only [↓SD, SU, simprocAttr, FM, Aj, Aa]
  (repeat' (first | intro _ | refine And.intro ?_ ?_))
  all_goals first | rfl | (exfalso; omega) | trace_state
 have hh' := hh
 unfold KT at hh'
 simp only [Bool.and_eq_true, decide_eq_true_eq] at hh'
 obtain ⟨⟨h1, h2⟩, h3⟩ := hh'
 have h1' : ¬ (p.nodes.length : Int) < 1 := by omega
 have h2' : ¬ (600 : Int) < p.nodes.length := by omega
 have h3' : ¬ (8 : Int) < p.types.length := by omega
 have h1'' : ¬ p.nodes.length < 1 := by omega
 have h2'' : ¬ 600 < p.nodes.length := by omega
 have h3'' : ¬ 8 < p.types.length := by omega
 simp +contextual -dsimp (maxSteps := 2000000) only [↓SD, SU, simprocAttr, FM, Aj, Aa, h1', h2', h3', h1'', h2'', h3'']
 refine Al (X := Nat) (fun k => ⟨[(1, .obj [.sl (p.types.map av), .sl (p.nodes.map av)]), (26, .sl (p.types.map av)), (27, .int .i64 p.types.length), (28, .int .i64 k)], []⟩) (fun k => k ≤ p.types.length ∧ (p.types.take k).all Hn = true) (fun k => p.types.length - k) 0 ⟨Nat.zero_le _, rfl⟩ (by simp +contextual -dsimp only [↓SD, SU, simprocAttr]) trivial ?_
 rintro k ⟨hk, hp⟩
 by_cases hlt : k < p.types.length
 ·have e := getD_map av p.types k .top hlt
  have htb : Ad.bulk p.types[k] ≤ 1099511627776 := by have := AW (List.getElem_mem hlt); omega
  obtain ⟨hs, hcb⟩ := N2 htb
  have hno : Hn p.types[k] = false → FJ p = false := fun h => T6 (A6 _ hlt h)
  have hyes : Hn p.types[k] = true → (p.types.take (k + 1)).all Hn = true := fun h => by rw [A5 _ hlt hp]; exact h
  generalize p.types[k] = t at *
  obtain ⟨name, params, cons⟩ := t
  simp only at hs hcb
  have hcl := Ao cons
  have CN := AZ name (by omega)
  cases hnm : F0 name with
  | false =>
   rw [hnm] at CN
   simp +contextual -dsimp (maxSteps := 2000000) only [↓SD, SU, simprocAttr, Aa, hlt, e, BZ]
   intro v
   refine Ab _ CN ?_
   simp +contextual -dsimp (maxSteps := 2000000) only [↓SD, SU, simprocAttr]
   rw [hno (Qh (by simp [KW, hnm]))]
  | true =>
   rw [hnm] at CN
   by_cases hr : (0 ≤ params ∧ params ≤ 2) ∧ 1 ≤ (cons.length : Int) ∧ (cons.length : Int) ≤ 8
   ·obtain ⟨⟨r1, r2⟩, r3, r4⟩ := hr
    have r1' : ¬ params < 0 := by omega
    have r2' : ¬ (2 : Int) < params := by omega
    have r3' : ¬ (cons.length : Int) < 1 := by omega
    have r4' : ¬ (8 : Int) < cons.length := by omega
    have hH : Hn ⟨name, params, cons⟩ = cons.all fun c => EY c params := by
     rw [N3]
     unfold KW
     rw [hnm, decide_eq_true r1, decide_eq_true r2, decide_eq_true r3, decide_eq_true r4]; simp
    rw [hH] at hno hyes
    simp +contextual -dsimp (maxSteps := 2000000) only [↓SD, SU, simprocAttr, Aa, hlt, e, BZ]
    intro v
    refine Ab _ CN ?_
    simp +contextual -dsimp (maxSteps := 2000000) only [↓SD, SU, simprocAttr, Aa, r1', r2', r3', r4']
    refine Al (X := Nat) (fun j => ⟨[(1, .obj [.sl (p.types.map av), .sl (p.nodes.map av)]), (4, .ptr 4 v 0 0), (26, .sl (p.types.map av)), (27, .int .i64 p.types.length), (28, .int .i64 k), (59, .sl (cons.map av)), (60, .int .i64 cons.length), (61, .int .i64 j)], [(4, ⟨v, false, 86, 3, [.agg [.str name, .int .i64 params, .sl (cons.map av)]]⟩)]⟩) (fun j => j ≤ cons.length ∧ (cons.take j).all (fun c => EY c params) = true) (fun j => cons.length - j) 0 ⟨Nat.zero_le _, rfl⟩ (by simp +contextual -dsimp only [↓SD, SU, simprocAttr]) (by simp +contextual -dsimp only [↓SD, SU, simprocAttr]) ?_
    rintro j ⟨hj, hq⟩
    by_cases hjl : j < cons.length
    ·have e2 := getD_map av cons j .top hjl
     obtain ⟨s1, s2⟩ := Rn hcb (List.getElem_mem hjl)
     have CC := ZF cons[j] params s1 s2
     have hno2 : EY cons[j] params = false → FJ p = false := fun h => hno (A6 (fun c => EY c params) hjl h)
     have hyes2 : EY cons[j] params = true → (cons.take (j + 1)).all (fun c => EY c params) = true := fun h => by rw [A5 _ hjl hq]; exact h
     generalize cons[j] = c at *
     rw [De] at CC
     simp +contextual -dsimp (maxSteps := 2000000) only [↓SD, SU, simprocAttr, Aa, hjl, e2, De]
     intro w
     refine Ab _ CC ?_
     simp +contextual -dsimp (maxSteps := 2000000) only [↓SD, SU, simprocAttr]
     refine ⟨fun h => by rw [hno2 h], fun h => ⟨by omega, Af.le ⟨j + 1, ⟨⟨hjl, hyes2 h⟩, (by first | omega | (simp only; omega))⟩, rfl⟩ (by simp +contextual -dsimp only [↓SD, SU, simprocAttr, Int.natCast_add]) (by simp +contextual -dsimp only [↓SD, SU, simprocAttr])⟩⟩
    ·obtain rfl : j = cons.length := by omega
     rw [List.take_length] at hq
     simp +contextual -dsimp (maxSteps := 2000000) only [↓SD, SU, simprocAttr, Aa, Nat.lt_irrefl]
     exact ⟨by omega, Af.le ⟨k + 1, ⟨⟨hlt, hyes hq⟩, (by first | omega | (simp only; omega))⟩, rfl⟩ (by simp +contextual -dsimp only [↓SD, SU, simprocAttr, Int.natCast_add]) trivial⟩
   ·have hbad : KW ⟨name, params, cons⟩ = false := by
     rw [← Bool.not_eq_true]
     unfold KW
     simp only [Bool.and_eq_true, decide_eq_true_eq]
     exact fun h => hr ⟨h.1.2, h.2⟩
    have hF := hno (Qh hbad)
    simp +contextual -dsimp (maxSteps := 2000000) only [↓SD, SU, simprocAttr, Aa, hlt, e, BZ]
    intro v
    refine Ab _ CN ?_
    simp +contextual -dsimp (maxSteps := 2000000) only [↓SD, SU, simprocAttr, Aa, hF]
    (repeat' (first | intro _ | refine And.intro ?_ ?_))
    all_goals first | rfl | (exfalso; omega) | trace_state
 ·obtain rfl : k = p.types.length := by omega
  rw [List.take_length] at hp
  simp +contextual -dsimp (maxSteps := 2000000) only [↓SD, SU, simprocAttr, Aa, Nat.lt_irrefl]
  refine Al (X := Nat) (fun k => ⟨[(1, .obj [.sl (p.types.map av), .sl (p.nodes.map av)]), (73, .sl (p.nodes.map av)), (74, .int .i64 p.nodes.length), (75, .int .i64 k)], []⟩) (fun k => k ≤ p.nodes.length ∧ (p.nodes.take k).all (Au p.nodes) = true) (fun k => p.nodes.length - k) 0 ⟨Nat.zero_le _, rfl⟩ (by simp +contextual -dsimp only [↓SD, SU, simprocAttr]) trivial ?_
  rintro i ⟨hi, hq⟩
  by_cases hil : i < p.nodes.length
  ·have e := getD_map av p.nodes i .top hil
   have hm := List.getElem_mem hil
   obtain ⟨b1, b2, b3, b4⟩ := Du q2 hm
   have CC := Wv p p.nodes[i] q4 b1 b2 b4 b3
   have hno2 : Au p.nodes p.nodes[i] = false → FJ p = false := fun h => Wg hm h
   have hyes2 : Au p.nodes p.nodes[i] = true → (p.nodes.take (i + 1)).all (Au p.nodes) = true := fun h => by rw [A5 _ hil hq]; exact h
   generalize p.nodes[i] = n at *
   rw [AL, Aj] at CC
   simp +contextual -dsimp (maxSteps := 2000000) only [↓SD, SU, simprocAttr, Aa, hil, e, AL]
   intro w
   refine Ab _ CC ?_
   simp +contextual -dsimp (maxSteps := 2000000) only [↓SD, SU, simprocAttr]
   refine ⟨fun h => by rw [hno2 h], fun h => ⟨by omega, Af.le ⟨i + 1, ⟨⟨hil, hyes2 h⟩, (by first | omega | (simp only; omega))⟩, rfl⟩ (by simp +contextual -dsimp only [↓SD, SU, simprocAttr, Int.natCast_add]) trivial⟩⟩
  ·obtain rfl : i = p.nodes.length := by omega
   rw [List.take_length] at hq
   have CE := Ww p hx (p.nodes.length + 1) 0 (by omega) (by omega)
   rw [Aj] at CE
   simp +contextual -dsimp (maxSteps := 2000000) only [↓SD, SU, simprocAttr, Aa, Nat.lt_irrefl]
   refine Ab _ CE ?_
   simp +contextual -dsimp (maxSteps := 2000000) only [↓SD, SU, simprocAttr, Aa]
   congr 1
   rw [AaF hh hp hq]
   unfold Fw
   cases ho : DV (AF p.nodes) p.nodes.length (p.nodes.length + 1) 0 with
   | none =>
    rw [decide_eq_false (p := (none : Option Nat) = some p.nodes.length) (by simp)]
    exact decide_eq_false (by simp only [HW]; omega)
   | some m =>
    by_cases hm : m = p.nodes.length
    ·rw [decide_eq_true (p := some m = some p.nodes.length) (by rw [hm])]
     exact decide_eq_true (by simp only [HW]; omega)
    ·rw [decide_eq_false (p := some m = some p.nodes.length) (by simpa using hm)]
     exact decide_eq_false (by simp only [HW]; omega)
end Go.Proofs.YtjbcnilllfaipaaGreat
