/-
 ProgramOk OF THE PROGRAM, by abstract texts. Conditions: none.
-/
import Derived.Test.YtoffpbehgncakaaGreatKJ41
set_option linter.unusedVariables false
set_option linter.unusedSimpArgs false
set_option maxRecDepth 100000
namespace Go.Proofs.YtoffpbehgncakaaGreat
open Go.RowKit Go.Proofs.YtoffpbehgncakaaGreat.Av Go.Proofs.YtoffpbehgncakaaGreat.Ml
open Go.Proofs.YtoffpbehgncakaaGreat.Av.AVal (av)

def Jj (m : Int) (x : Bs) : Bool := !(decide (x.name = bs []) && decide (m ≤ x.var))
theorem PN {l : List Con} (hx : AE.bulk l ≤ 1099511627776) {c : Con} (hn : c ∈ l) : c.name.size ≤ 1099511627776 ∧ AE.bulk c.arg.items ≤ 1099511627776 := by
 have h1 := CY hn
 have h2 : AE.bulk c = AE.bulk c.name + AE.bulk c.has + AE.bulk c.arg + 1 := rfl
 have h3 : AE.bulk c.arg = AE.bulk c.arg.items + 1 := rfl
 have h4 : AE.bulk c.name = c.name.size + 1 := rfl
 omega
theorem Mj {t : Dm} (hx : AE.bulk t ≤ 1099511627776) : t.name.size ≤ 1099511627776 ∧ AE.bulk t.cons ≤ 1099511627776 := by
 have h2 : AE.bulk t = AE.bulk t.name + AE.bulk t.params + AE.bulk t.cons + 1 := rfl
 have h4 : AE.bulk t.name = t.name.size + 1 := rfl
 omega
theorem PO (c : Con) (m : Int) : DR c m = (NC c.name && (if c.has then tyB c.arg.items else decide (c.arg.items = [])) && c.arg.items.all (Jj m)) := rfl
def JI (t : Dm) : Bool := Eu t.name && (decide (0 ≤ t.params) && decide (t.params ≤ 2)) && (decide (1 ≤ (t.cons.length : Int)) && decide ((t.cons.length : Int) ≤ 8))
theorem Mm (t : Dm) : F9 t = (JI t && t.cons.all fun c => DR c t.params) := rfl
theorem J4 (n a b : Int) : ∃ r : Bool, r = (decide (a ≤ n) && decide (n ≤ b)) ∧ AH Tryz.prog 18 [.int .i64 n, .int .i64 a, .int .i64 b] (.bool r) := ⟨_, rfl, Dn n a b⟩

set_option maxHeartbeats 2000000 in
theorem XD (t : Dm) (hx : AE.bulk t ≤ 1099511627776) : AH Tryz.prog 68 [av t] (.bool (F9 t)) := by
 obtain ⟨hs, hcb⟩ := Mj hx
 refine DB.F rfl (by simp; exact AVal.clean t) (Ap.bool _) ?_
 obtain ⟨name, params, cons⟩ := t
 simp only at hs hcb
 have hl := A2 cons
 have C1 := DW name (by omega)
 obtain ⟨r2, hr2, C2⟩ := J4 params 0 2
 obtain ⟨r3, hr3, C3⟩ := J4 (cons.length : Int) 1 8
 have hH : JI ⟨name, params, cons⟩ = (Eu name && r2 && r3) := by rw [hr2, hr3]; rfl
 rw [Mm, hH]
 clear hr2 hr3 hH
 simp only
 generalize Eu name = r1 at *
 cases r1
 case false =>
  simp +contextual -dsimp (maxSteps := 2000000) only [↓SD, SU, simprocAttr, DB, DD, Aa]
  refine Ac _ C1 ?_
  simp +contextual -dsimp (maxSteps := 2000000) only [↓SD, SU, simprocAttr, Bool.false_and]
 cases r2
 case false =>
  simp +contextual -dsimp (maxSteps := 2000000) only [↓SD, SU, simprocAttr, DB, DD, Aa]
  refine Ac _ C1 ?_
  simp +contextual -dsimp (maxSteps := 2000000) only [↓SD, SU, simprocAttr]
  refine Ac _ C2 ?_
  simp +contextual -dsimp (maxSteps := 2000000) only [↓SD, SU, simprocAttr, Bool.false_and, Bool.and_false]
 cases r3
 case false =>
  simp +contextual -dsimp (maxSteps := 2000000) only [↓SD, SU, simprocAttr, DB, DD, Aa]
  refine Ac _ C1 ?_
  simp +contextual -dsimp (maxSteps := 2000000) only [↓SD, SU, simprocAttr]
  refine Ac _ C2 ?_
  simp +contextual -dsimp (maxSteps := 2000000) only [↓SD, SU, simprocAttr, Aa]
  refine Ac _ C3 ?_
  simp +contextual -dsimp (maxSteps := 2000000) only [↓SD, SU, simprocAttr, Bool.false_and, Bool.and_false]
 simp +contextual -dsimp (maxSteps := 2000000) only [↓SD, SU, simprocAttr, DB, DD, Aa]
 refine Ac _ C1 ?_
 simp +contextual -dsimp (maxSteps := 2000000) only [↓SD, SU, simprocAttr]
 refine Ac _ C2 ?_
 simp +contextual -dsimp (maxSteps := 2000000) only [↓SD, SU, simprocAttr, Aa]
 refine Ac _ C3 ?_
 simp +contextual -dsimp (maxSteps := 2000000) only [↓SD, SU, simprocAttr, Aa, Bool.true_and, Bool.and_self]
 refine AB (X := Nat) (fun k => ⟨[(1, .obj [.str name, .int .i64 params, .sl (cons.map av)]), (25, .sl (cons.map av)), (26, .int .i64 cons.length), (27, .int .i64 k)], []⟩) (fun k => k ≤ cons.length ∧ (cons.take k).all (fun c => DR c params) = true) (fun k => cons.length - k) 0 ⟨Nat.zero_le _, rfl⟩ (by simp +contextual -dsimp only [↓SD, SU, simprocAttr]) trivial ?_
 rintro k ⟨hk, hp⟩
 by_cases hlt : k < cons.length
 ·have e := getD_map av cons k .top hlt
  obtain ⟨s1, s2⟩ := PN hcb (List.getElem_mem hlt)
  have hno : DR cons[k] params = false → (cons.all fun c => DR c params) = false := fun h => A7 _ hlt h
  have hyes : DR cons[k] params = true → ((cons.take (k + 1)).all fun c => DR c params) = true := fun h => by rw [A5 _ hlt hp]; exact h
  generalize cons[k] = c at *
  obtain ⟨cn, ch, ⟨items⟩⟩ := c
  simp only at s1 s2
  have hil := A2 items
  rw [PO] at hno hyes
  simp only at hno hyes
  have D1 := KB cn (by omega)
  have D2 := SJ items s2
  generalize NC cn = b1 at *
  cases b1
  case false =>
   simp +contextual -dsimp (maxSteps := 2000000) only [↓SD, SU, simprocAttr, Aa, hlt, e, GD]
   intro v
   refine Ac _ D1 ?_
   simp +contextual -dsimp (maxSteps := 2000000) only [↓SD, SU, simprocAttr]
   rw [hno rfl]
  cases ch
  case false =>
   by_cases hi : items = []
   ·subst hi
    simp +contextual -dsimp (maxSteps := 2000000) only [↓SD, SU, simprocAttr, Aa, hlt, e, GD]
    intro v
    refine Ac _ D1 ?_
    simp +contextual -dsimp (maxSteps := 2000000) only [↓SD, SU, simprocAttr, Aa]
    refine AB (X := Unit) (fun _ => ⟨[(1, .obj [.str name, .int .i64 params, .sl (cons.map av)]), (25, .sl (cons.map av)), (26, .int .i64 cons.length), (27, .int .i64 k), (60, .int .i64 0), (61, .int .i64 0)], []⟩) (fun _ => True) (fun _ => 0) () trivial (by simp +contextual -dsimp only [↓SD, SU, simprocAttr]) trivial ?_
    intro _ _
    simp +contextual -dsimp (maxSteps := 2000000) only [↓SD, SU, simprocAttr, Aa]
    refine ⟨by omega, Ai.le ⟨k + 1, ⟨⟨hlt, hyes (by simp)⟩, (by first | omega | (simp only; omega))⟩, rfl⟩ (by simp +contextual -dsimp only [↓SD, SU, simprocAttr, Int.natCast_add]) trivial⟩
   ·have hi0 : (0 : Int) < items.length := by have := List.length_pos_iff.2 hi; omega
    simp +contextual -dsimp (maxSteps := 2000000) only [↓SD, SU, simprocAttr, Aa, hlt, e, GD]
    intro v
    refine Ac _ D1 ?_
    simp +contextual -dsimp (maxSteps := 2000000) only [↓SD, SU, simprocAttr, Aa, hi0]
    rw [hno (by simp [hi])]
  generalize tyB items = b2 at *
  cases b2
  case false =>
   simp +contextual -dsimp (maxSteps := 2000000) only [↓SD, SU, simprocAttr, Aa, hlt, e, GD]
   intro v
   refine Ac _ D1 ?_
   simp +contextual -dsimp (maxSteps := 2000000) only [↓SD, SU, simprocAttr, Aa]
   refine Ac _ D2 ?_
   simp +contextual -dsimp (maxSteps := 2000000) only [↓SD, SU, simprocAttr, Aa]
   rw [hno (by simp)]
  simp +contextual -dsimp (maxSteps := 2000000) only [↓SD, SU, simprocAttr, Aa, hlt, e, GD]
  intro v
  refine Ac _ D1 ?_
  simp +contextual -dsimp (maxSteps := 2000000) only [↓SD, SU, simprocAttr, Aa]
  refine Ac _ D2 ?_
  simp +contextual -dsimp (maxSteps := 2000000) only [↓SD, SU, simprocAttr, Aa]
  refine AB (X := Nat) (fun j => ⟨[(1, .obj [.str name, .int .i64 params, .sl (cons.map av)]), (25, .sl (cons.map av)), (26, .int .i64 cons.length), (27, .int .i64 k), (59, .sl (items.map av)), (60, .int .i64 items.length), (61, .int .i64 j)], []⟩) (fun j => j ≤ items.length ∧ (items.take j).all (Jj params) = true) (fun j => items.length - j) 0 ⟨Nat.zero_le _, rfl⟩ (by simp +contextual -dsimp only [↓SD, SU, simprocAttr]) trivial ?_
  rintro j ⟨hj, hq⟩
  by_cases hjl : j < items.length
  ·have e2 := getD_map av items j .top hjl
   have hno2 : Jj params items[j] = false → (cons.all fun c => DR c params) = false := fun h => hno (by simp [A7 _ hjl h])
   have hyes2 : Jj params items[j] = true → (items.take (j + 1)).all (Jj params) = true := fun h => by rw [A5 _ hjl hq]; exact h
   generalize items[j] = x at *
   obtain ⟨vr, nm, ar⟩ := x
   simp +contextual -dsimp (maxSteps := 2000000) only [↓SD, SU, simprocAttr, Aa, hjl, e2, BJ]
   intro w
   (repeat' (first | intro _ | refine And.intro ?_ ?_))
   all_goals first
    | omega
    | exact Ai.le ⟨j + 1, ⟨⟨hjl, hyes2 (by simp [Jj, *])⟩, (by first | omega | (simp only; omega))⟩, rfl⟩ (by simp +contextual -dsimp only [↓SD, SU, simprocAttr, Int.natCast_add]) trivial
    | (rw [hno2 (by simp [Jj, *])]; done)
    | exact Ai.le ⟨j + 1, ⟨⟨hjl, hyes2 (by simp [Jj, *]; omega)⟩, (by first | omega | (simp only; omega))⟩, rfl⟩ (by simp +contextual -dsimp only [↓SD, SU, simprocAttr, Int.natCast_add]) trivial
  ·obtain rfl : j = items.length := by omega
   rw [List.take_length] at hq
   simp +contextual -dsimp (maxSteps := 2000000) only [↓SD, SU, simprocAttr, Aa, Nat.lt_irrefl]
   refine ⟨by omega, Ai.le ⟨k + 1, ⟨⟨hlt, hyes (by simp [hq])⟩, (by first | omega | (simp only; omega))⟩, rfl⟩ (by simp +contextual -dsimp only [↓SD, SU, simprocAttr, Int.natCast_add]) trivial⟩
 ·obtain rfl : k = cons.length := by omega
  rw [List.take_length] at hp
  simp +contextual -dsimp (maxSteps := 2000000) only [↓SD, SU, simprocAttr, Aa, Nat.lt_irrefl, hp]

theorem Dw {p : Program} (hx : AE.bulk p ≤ 1099511627776) : AE.bulk p.types ≤ 1099511627776 ∧ AE.bulk p.nodes ≤ 1099511627776 ∧ p.types.length ≤ 1099511627776 ∧ p.nodes.length ≤ 1099511627776 := by
 have h2 : AE.bulk p = AE.bulk p.types + AE.bulk p.nodes + 1 := rfl
 have := A2 p.types
 have := A2 p.nodes
 omega
theorem RY (p : Program) : Ap (.obj [.sl (p.types.map av), .sl (p.nodes.map av)]) := Ap.obj (by simp; exact ⟨AQ _, AQ _⟩)
theorem Rg (p : Program) (i : Nat) (hi : i < p.nodes.length) : AH Tryz.prog 64 [.int .i64 i, .obj [.sl (p.types.map av), .sl (p.nodes.map av)]] (.sl ((BZ p.nodes i).map av)) := by
 refine Gj.F rfl (by simp; exact ⟨Cr _, RY p⟩) (AQ _) ?_
 have e := getD_map av p.nodes i .top hi
 simp +contextual -dsimp (maxSteps := 2000000) only [↓SD, SU, simprocAttr, Gj, Aa, e, Ba, hi, BZ, DO hi]
theorem Rf (t : Dm) (hx : AE.bulk t ≤ 1099511627776) : AH Tryz.prog 67 [av t] (.bool (!F9 t)) := by
 refine Gi.F rfl (by simp; exact AVal.clean t) (Ap.bool _) ?_
 have C := XD t hx
 rw [DD] at C
 simp +contextual -dsimp (maxSteps := 2000000) only [↓SD, SU, simprocAttr, Gi, DD]
 refine Ac _ C ?_
 simp +contextual -dsimp (maxSteps := 2000000) only [↓SD, SU, simprocAttr]
def JC (p : Program) : Bool := (decide (1 ≤ (p.nodes.length : Int)) && decide ((p.nodes.length : Int) ≤ 600)) && decide ((p.types.length : Int) ≤ 8)
theorem FG (nm : Node → Bool) (p : Program) : K3 nm p = (JC p && Eg (BZ p.nodes) p.nodes.length && p.nodes.all (A1 nm p.nodes) && p.types.all F9) := rfl

set_option maxHeartbeats 2000000 in
theorem Uu (nm : Node → Bool) (p : Program) (g : FuncId) (caps : List AV) (hpc : ∀ x ∈ caps, Ap x) (hc : ∀ hp, caps.map (AV.Bu hp) = caps) (hg : ∀ n ∈ p.nodes, AH Tryz.prog g (av n :: caps) (.bool (nm n))) (hx : AE.bulk p ≤ 1099511627776) :
  AH Tryz.prog 32 [av p, .fn g caps] (.bool (K3 nm p)) := by
 obtain ⟨s1, s2, s3, s4⟩ := Dw hx
 refine D7.F rfl (by simp; exact ⟨AVal.clean p, Ap.fn hpc⟩) (Ap.bool _) ?_
 have C1 := Dn (p.nodes.length : Int) 1 600
 rw [FG]
 by_cases hh : JC p = true
 ·have hh' := hh
  unfold JC at hh'
  simp only [Bool.and_eq_true, decide_eq_true_eq] at hh'
  obtain ⟨⟨h1, h2⟩, h3⟩ := hh'
  rw [decide_eq_true h1, decide_eq_true h2] at C1
  have h3' : ¬ (8 : Int) < p.types.length := by omega
  have C2 := M8 (BZ p.nodes) p.nodes.length s4 64 [.obj [.sl (p.types.map av), .sl (p.nodes.map av)]] (by simp; exact RY p) (by intro hp; rfl) (fun i hi => ⟨by
   have := (Dy s2 (List.getElem_mem hi)).1
   rw [BZ, DO hi]; exact this, Rg p i hi⟩)
  simp +contextual -dsimp (maxSteps := 2000000) only [↓SD, SU, simprocAttr, D7, Aw, Aa]
  refine Ac _ C1 ?_
  simp +contextual -dsimp (maxSteps := 2000000) only [↓SD, SU, simprocAttr, Aa, h3']
  rw [hh]
  cases ht : Eg (BZ p.nodes) p.nodes.length with
  | false =>
   rw [ht] at C2
   refine Ac _ C2 ?_
   simp +contextual -dsimp (maxSteps := 2000000) only [↓SD, SU, simprocAttr, Bool.and_false, Bool.false_and]
  | true =>
   rw [ht] at C2
   refine Ac _ C2 ?_
   simp +contextual -dsimp (maxSteps := 2000000) only [↓SD, SU, simprocAttr, Aa]
   refine AB (X := Nat) (fun k => ⟨[(1, .fn g caps), (2, .obj [.sl (p.types.map av), .sl (p.nodes.map av)]), (25, .sl (p.nodes.map av)), (26, .int .i64 p.nodes.length), (27, .int .i64 k)], []⟩) (fun k => k ≤ p.nodes.length ∧ (p.nodes.take k).all (A1 nm p.nodes) = true) (fun k => p.nodes.length - k) 0 ⟨Nat.zero_le _, rfl⟩ (by simp +contextual -dsimp only [↓SD, SU, simprocAttr]) trivial ?_
   rintro k ⟨hk, hp⟩
   by_cases hlt : k < p.nodes.length
   ·have e := getD_map av p.nodes k .top hlt
    have hm := List.getElem_mem hlt
    obtain ⟨b1, b2, b3, b4⟩ := Dy s2 hm
    have C3 := XU nm p p.nodes[k] g caps hpc hc (hg _ hm) s4 b1 b2 b4 (fun x hx' => by
     have := I7 ht hlt (k := x) (by rw [BZ, DO hlt]; exact hx')
     omega)
    have hno : A1 nm p.nodes p.nodes[k] = false → p.nodes.all (A1 nm p.nodes) = false := fun h => A7 _ hlt h
    have hyes : A1 nm p.nodes p.nodes[k] = true → (p.nodes.take (k + 1)).all (A1 nm p.nodes) = true := fun h => by rw [A5 _ hlt hp]; exact h
    generalize p.nodes[k] = n at *
    rw [Ba, Aw] at C3
    simp +contextual -dsimp (maxSteps := 2000000) only [↓SD, SU, simprocAttr, Aa, hlt, e, Ba, hc]
    intro v
    refine Ac _ C3 ?_
    simp +contextual -dsimp (maxSteps := 2000000) only [↓SD, SU, simprocAttr, hc]
    refine ⟨fun h => by rw [hno h]; simp, fun h => ⟨by omega, Ai.le ⟨k + 1, ⟨⟨hlt, hyes h⟩, (by first | omega | (simp only; omega))⟩, rfl⟩ (by simp +contextual -dsimp only [↓SD, SU, simprocAttr, Int.natCast_add]) trivial⟩⟩
   ·obtain rfl : k = p.nodes.length := by omega
    rw [List.take_length] at hp
    have C4 := I5 p.types 67 [] (fun t => !F9 t) (by omega) (by simp) (by intro hp; rfl) (fun t ht' => Rf t (by have := CY ht'; omega))
    simp +contextual -dsimp (maxSteps := 2000000) only [↓SD, SU, simprocAttr, Aa, Nat.lt_irrefl]
    refine Ac _ C4 ?_
    simp +contextual -dsimp (maxSteps := 2000000) only [↓SD, SU, simprocAttr, hp, Bool.true_and, Bool.and_true, Bool.and_self]
    congr 1
    rw [List.all_eq_not_any_not]
 ·have hh0 : JC p = false := by simpa using hh
  rw [hh0]
  by_cases hw : 1 ≤ (p.nodes.length : Int) ∧ (p.nodes.length : Int) ≤ 600
  ·rw [decide_eq_true hw.1, decide_eq_true hw.2] at C1
   have h3 : (8 : Int) < p.types.length := by
    unfold JC at hh0
    rw [decide_eq_true hw.1, decide_eq_true hw.2, Bool.true_and, Bool.true_and] at hh0
    have := of_decide_eq_false hh0
    omega
   simp +contextual -dsimp (maxSteps := 2000000) only [↓SD, SU, simprocAttr, D7, Aw, Aa]
   refine Ac _ C1 ?_
   simp +contextual -dsimp (maxSteps := 2000000) only [↓SD, SU, simprocAttr, Aa, h3, Bool.false_and]
  ·have hf : (decide (1 ≤ (p.nodes.length : Int)) && decide ((p.nodes.length : Int) ≤ 600)) = false := by
    rw [Bool.and_eq_false_iff, decide_eq_false_iff_not, decide_eq_false_iff_not]; omega
   rw [hf] at C1
   simp +contextual -dsimp (maxSteps := 2000000) only [↓SD, SU, simprocAttr, D7, Aw, Aa]
   refine Ac _ C1 ?_
   simp +contextual -dsimp (maxSteps := 2000000) only [↓SD, SU, simprocAttr, Bool.false_and]

theorem Oh (n : Node) (hs : n.s.size ≤ 1099511627776) : AH Tryz.prog 33 [av n] (.bool (BC n)) := by
 refine Fs.F rfl (by simp; exact AVal.clean n) (Ap.bool _) ?_
 simp +contextual -dsimp (maxSteps := 2000000) only [↓SD, SU, simprocAttr, Fs, Ba]
 refine Ac _ (DW _ (by omega)) ?_
 simp +contextual -dsimp (maxSteps := 2000000) only [↓SD, SU, simprocAttr]
 (repeat' (first | intro _ | refine And.intro ?_ ?_))
 all_goals simp [BC, *]
theorem Og (q : Pat) (hx : AE.bulk q.nodes ≤ 1099511627776) : AH Tryz.prog 36 [av q] (.bool (!F5 q.nodes)) := by
 refine Fq.F rfl (by simp; exact AVal.clean q) (Ap.bool _) ?_
 simp +contextual -dsimp (maxSteps := 2000000) only [↓SD, SU, simprocAttr, Fq, Ed]
 refine Ac _ (QK q.nodes hx) ?_
 simp +contextual -dsimp (maxSteps := 2000000) only [↓SD, SU, simprocAttr]
theorem Pa {l : List Pat} (hx : AE.bulk l ≤ 1099511627776) {q : Pat} (hn : q ∈ l) : AE.bulk q.nodes ≤ 1099511627776 := by
 have h1 := CY hn
 have h2 : AE.bulk q = AE.bulk q.nodes + 1 := rfl
 omega
def BB (n : Node) : Bool := n.AL.all fun q => F5 q.nodes
theorem GM (p : Program) : Fo p = (K3 BC p && p.nodes.all BB) := rfl
theorem Lb (p : Program) (hx : AE.bulk p ≤ 1099511627776) : AH Tryz.prog 12 [av p] (.bool (Fo p)) := by
 obtain ⟨s1, s2, s3, s4⟩ := Dw hx
 refine Gl.F rfl (by simp; exact AVal.clean p) (Ap.bool _) ?_
 have C1 := Uu BC p 33 [] (by simp) (by intro hp; rfl) (fun n hn => Oh n (Dy s2 hn).2.1) hx
 rw [Aw] at C1
 simp +contextual -dsimp (maxSteps := 2000000) only [↓SD, SU, simprocAttr, Gl, Aw, Aa]
 rw [GM]
 cases hsh : K3 BC p with
 | false =>
  rw [hsh] at C1
  refine Ac _ C1 ?_
  simp +contextual -dsimp (maxSteps := 2000000) only [↓SD, SU, simprocAttr, Bool.false_and]
 | true =>
  rw [hsh] at C1
  refine Ac _ C1 ?_
  simp +contextual -dsimp (maxSteps := 2000000) only [↓SD, SU, simprocAttr, Aa, Bool.true_and]
  refine AB (X := Nat) (fun k => ⟨[(9, .sl (p.nodes.map av)), (10, .int .i64 p.nodes.length), (11, .int .i64 k)], []⟩) (fun k => k ≤ p.nodes.length ∧ (p.nodes.take k).all BB = true) (fun k => p.nodes.length - k) 0 ⟨Nat.zero_le _, rfl⟩ (by simp +contextual -dsimp only [↓SD, SU, simprocAttr]) trivial ?_
  rintro k ⟨hk, hp⟩
  by_cases hlt : k < p.nodes.length
  ·have e := getD_map av p.nodes k .top hlt
   have hm := List.getElem_mem hlt
   obtain ⟨b1, b2, b3, b4⟩ := Dy s2 hm
   have C3 := Jm p.nodes[k].AL 36 [] (fun q => !F5 q.nodes) (by omega) (by simp) (by intro hp; rfl) (fun q hq => Og q (Pa b3 hq))
   have hno : BB p.nodes[k] = false → p.nodes.all BB = false := fun h => A7 _ hlt h
   have hyes : BB p.nodes[k] = true → (p.nodes.take (k + 1)).all BB = true := fun h => by rw [A5 _ hlt hp]; exact h
   have hpe : (p.nodes[k].AL.any fun q => !F5 q.nodes) = !BB p.nodes[k] := by
    unfold BB; rw [List.all_eq_not_any_not, Bool.not_not]
   rw [hpe] at C3
   generalize p.nodes[k] = n at *
   simp +contextual -dsimp (maxSteps := 2000000) only [↓SD, SU, simprocAttr, Aa, hlt, e, Ba]
   intro v
   refine Ac _ C3 ?_
   simp +contextual -dsimp (maxSteps := 2000000) only [↓SD, SU, simprocAttr]
   refine ⟨fun h => by rw [hno h], fun h => ⟨by omega, Ai.le ⟨k + 1, ⟨⟨hlt, hyes h⟩, (by first | omega | (simp only; omega))⟩, rfl⟩ (by simp +contextual -dsimp only [↓SD, SU, simprocAttr, Int.natCast_add]) trivial⟩⟩
  ·obtain rfl : k = p.nodes.length := by omega
   rw [List.take_length] at hp
   simp +contextual -dsimp (maxSteps := 2000000) only [↓SD, SU, simprocAttr, Aa, Nat.lt_irrefl, hp]
end Go.Proofs.YtoffpbehgncakaaGreat
