/-
 ProgramOk OF THE PROGRAM, by abstract texts. Conditions: none.
-/
import Derived.Test.YtppjinmlfcokaaaGreatVJ15
set_option linter.unusedVariables false
set_option linter.unusedSimpArgs false
set_option maxRecDepth 100000
namespace Go.Proofs.YtppjinmlfcokaaaGreat
open Go.RowKit Go.Proofs.YtppjinmlfcokaaaGreat.Av Go.Proofs.YtppjinmlfcokaaaGreat.Ml
open Go.Proofs.YtppjinmlfcokaaaGreat.Av.AVal (av)

def Ld (m : Int) (x : AY) : Bool := !(decide (x.name = bs []) && decide (m ≤ x.var))
theorem Sx {l : List Con} (hx : Ac.bulk l ≤ 4294967296) {c : Con} (hn : c ∈ l) : c.name.size ≤ 4294967296 ∧ Ac.bulk c.arg.items ≤ 4294967296 := by
 have h1 := Au hn
 have h2 : Ac.bulk c = Ac.bulk c.name + Ac.bulk c.has + Ac.bulk c.arg + 1 := rfl
 have h3 : Ac.bulk c.arg = Ac.bulk c.arg.items + 1 := rfl
 have h4 : Ac.bulk c.name = c.name.size + 1 := rfl
 omega
theorem OZ {t : BF} (hx : Ac.bulk t ≤ 4294967296) : t.name.size ≤ 4294967296 ∧ Ac.bulk t.cons ≤ 4294967296 := by
 have h2 : Ac.bulk t = Ac.bulk t.name + Ac.bulk t.params + Ac.bulk t.cons + 1 := rfl
 have h4 : Ac.bulk t.name = t.name.size + 1 := rfl
 omega
theorem Sz (c : Con) (m : Int) : D6 c m = (Q9 c.name && (if c.has then tyB c.arg.items else decide (c.arg.items = [])) && c.arg.items.all (Ld m)) := rfl
def LA (t : BF) : Bool := EC t.name && (decide (0 ≤ t.params) && decide (t.params ≤ 2)) && (decide (1 ≤ (t.cons.length : Int)) && decide ((t.cons.length : Int) ≤ 8))
theorem O0 (t : BF) : FP t = (LA t && t.cons.all fun c => D6 c t.params) := rfl
theorem L6 (n a b : Int) : ∃ r : Bool, r = (decide (a ≤ n) && decide (n ≤ b)) ∧ Ah Tryz.prog 92 [.int .i64 n, .int .i64 a, .int .i64 b] (.bool r) := ⟨_, rfl, EP n a b⟩

set_option maxHeartbeats 2000000 in
theorem Aa8 (t : BF) (hx : Ac.bulk t ≤ 4294967296) : Ah Tryz.prog 98 [av t] (.bool (FP t)) := by
 obtain ⟨hs, hcb⟩ := OZ hx
 refine EH.F rfl (by simp; exact AVal.clean t) (Ad.bool _) ?_
 obtain ⟨name, params, cons⟩ := t
 simp only at hs hcb
 have hl := Ai cons
 have C1 := Fk name (by omega)
 obtain ⟨r2, hr2, C2⟩ := L6 params 0 2
 obtain ⟨r3, hr3, C3⟩ := L6 (cons.length : Int) 1 8
 have hH : LA ⟨name, params, cons⟩ = (EC name && r2 && r3) := by rw [hr2, hr3]; rfl
 rw [O0, hH]
 clear hr2 hr3 hH
 simp only
 generalize EC name = r1 at *
 cases r1
 case false =>
  simp +contextual -dsimp (maxSteps := 2000000) only [↓SD, SU, simprocAttr, EH, BE, Ab]
  refine Aa _ C1 ?_
  simp +contextual -dsimp (maxSteps := 2000000) only [↓SD, SU, simprocAttr, Bool.false_and]
 cases r2
 case false =>
  simp +contextual -dsimp (maxSteps := 2000000) only [↓SD, SU, simprocAttr, EH, BE, Ab]
  refine Aa _ C1 ?_
  simp +contextual -dsimp (maxSteps := 2000000) only [↓SD, SU, simprocAttr]
  refine Aa _ C2 ?_
  simp +contextual -dsimp (maxSteps := 2000000) only [↓SD, SU, simprocAttr, Bool.false_and, Bool.and_false]
 cases r3
 case false =>
  simp +contextual -dsimp (maxSteps := 2000000) only [↓SD, SU, simprocAttr, EH, BE, Ab]
  refine Aa _ C1 ?_
  simp +contextual -dsimp (maxSteps := 2000000) only [↓SD, SU, simprocAttr]
  refine Aa _ C2 ?_
  simp +contextual -dsimp (maxSteps := 2000000) only [↓SD, SU, simprocAttr, Ab]
  refine Aa _ C3 ?_
  simp +contextual -dsimp (maxSteps := 2000000) only [↓SD, SU, simprocAttr, Bool.false_and, Bool.and_false]
 simp +contextual -dsimp (maxSteps := 2000000) only [↓SD, SU, simprocAttr, EH, BE, Ab]
 refine Aa _ C1 ?_
 simp +contextual -dsimp (maxSteps := 2000000) only [↓SD, SU, simprocAttr]
 refine Aa _ C2 ?_
 simp +contextual -dsimp (maxSteps := 2000000) only [↓SD, SU, simprocAttr, Ab]
 refine Aa _ C3 ?_
 simp +contextual -dsimp (maxSteps := 2000000) only [↓SD, SU, simprocAttr, Ab, Bool.true_and, Bool.and_self]
 refine Am (X := Nat) (fun k => ⟨[(1, .obj [.str name, .int .i64 params, .sl (cons.map av)]), (25, .sl (cons.map av)), (26, .int .i64 cons.length), (27, .int .i64 k)], []⟩) (fun k => k ≤ cons.length ∧ (cons.take k).all (fun c => D6 c params) = true) (fun k => cons.length - k) 0 ⟨Nat.zero_le _, rfl⟩ (by simp +contextual -dsimp only [↓SD, SU, simprocAttr]) trivial ?_
 rintro k ⟨hk, hp⟩
 by_cases hlt : k < cons.length
 ·have e := getD_map av cons k .top hlt
  obtain ⟨s1, s2⟩ := Sx hcb (List.getElem_mem hlt)
  have hno : D6 cons[k] params = false → (cons.all fun c => D6 c params) = false := fun h => A7 _ hlt h
  have hyes : D6 cons[k] params = true → ((cons.take (k + 1)).all fun c => D6 c params) = true := fun h => by rw [A6 _ hlt hp]; exact h
  generalize cons[k] = c at *
  obtain ⟨cn, ch, ⟨items⟩⟩ := c
  simp only at s1 s2
  have hil := Ai items
  rw [Sz] at hno hyes
  simp only at hno hyes
  have D1 := MU cn (by omega)
  have D2 := V2 items s2
  generalize Q9 cn = b1 at *
  cases b1
  case false =>
   simp +contextual -dsimp (maxSteps := 2000000) only [↓SD, SU, simprocAttr, Ab, hlt, e, Ck]
   intro v
   refine Aa _ D1 ?_
   simp +contextual -dsimp (maxSteps := 2000000) only [↓SD, SU, simprocAttr]
   rw [hno rfl]
  cases ch
  case false =>
   by_cases hi : items = []
   ·subst hi
    simp +contextual -dsimp (maxSteps := 2000000) only [↓SD, SU, simprocAttr, Ab, hlt, e, Ck]
    intro v
    refine Aa _ D1 ?_
    simp +contextual -dsimp (maxSteps := 2000000) only [↓SD, SU, simprocAttr, Ab]
    refine Am (X := Unit) (fun _ => ⟨[(1, .obj [.str name, .int .i64 params, .sl (cons.map av)]), (25, .sl (cons.map av)), (26, .int .i64 cons.length), (27, .int .i64 k), (60, .int .i64 0), (61, .int .i64 0)], []⟩) (fun _ => True) (fun _ => 0) () trivial (by simp +contextual -dsimp only [↓SD, SU, simprocAttr]) trivial ?_
    intro _ _
    simp +contextual -dsimp (maxSteps := 2000000) only [↓SD, SU, simprocAttr, Ab]
    refine ⟨by omega, Af.le ⟨k + 1, ⟨⟨hlt, hyes (by simp)⟩, (by first | omega | (simp only; omega))⟩, rfl⟩ (by simp +contextual -dsimp only [↓SD, SU, simprocAttr, Int.natCast_add]) trivial⟩
   ·have hi0 : (0 : Int) < items.length := by have := List.length_pos_iff.2 hi; omega
    simp +contextual -dsimp (maxSteps := 2000000) only [↓SD, SU, simprocAttr, Ab, hlt, e, Ck]
    intro v
    refine Aa _ D1 ?_
    simp +contextual -dsimp (maxSteps := 2000000) only [↓SD, SU, simprocAttr, Ab, hi0]
    rw [hno (by simp [hi])]
  generalize tyB items = b2 at *
  cases b2
  case false =>
   simp +contextual -dsimp (maxSteps := 2000000) only [↓SD, SU, simprocAttr, Ab, hlt, e, Ck]
   intro v
   refine Aa _ D1 ?_
   simp +contextual -dsimp (maxSteps := 2000000) only [↓SD, SU, simprocAttr, Ab]
   refine Aa _ D2 ?_
   simp +contextual -dsimp (maxSteps := 2000000) only [↓SD, SU, simprocAttr, Ab]
   rw [hno (by simp)]
  simp +contextual -dsimp (maxSteps := 2000000) only [↓SD, SU, simprocAttr, Ab, hlt, e, Ck]
  intro v
  refine Aa _ D1 ?_
  simp +contextual -dsimp (maxSteps := 2000000) only [↓SD, SU, simprocAttr, Ab]
  refine Aa _ D2 ?_
  simp +contextual -dsimp (maxSteps := 2000000) only [↓SD, SU, simprocAttr, Ab]
  refine Am (X := Nat) (fun j => ⟨[(1, .obj [.str name, .int .i64 params, .sl (cons.map av)]), (25, .sl (cons.map av)), (26, .int .i64 cons.length), (27, .int .i64 k), (59, .sl (items.map av)), (60, .int .i64 items.length), (61, .int .i64 j)], []⟩) (fun j => j ≤ items.length ∧ (items.take j).all (Ld params) = true) (fun j => items.length - j) 0 ⟨Nat.zero_le _, rfl⟩ (by simp +contextual -dsimp only [↓SD, SU, simprocAttr]) trivial ?_
  rintro j ⟨hj, hq⟩
  by_cases hjl : j < items.length
  ·have e2 := getD_map av items j .top hjl
   have hno2 : Ld params items[j] = false → (cons.all fun c => D6 c params) = false := fun h => hno (by simp [A7 _ hjl h])
   have hyes2 : Ld params items[j] = true → (items.take (j + 1)).all (Ld params) = true := fun h => by rw [A6 _ hjl hq]; exact h
   generalize items[j] = x at *
   obtain ⟨vr, nm, ar⟩ := x
   simp +contextual -dsimp (maxSteps := 2000000) only [↓SD, SU, simprocAttr, Ab, hjl, e2, A5]
   intro w
   (repeat' (first | intro _ | refine And.intro ?_ ?_))
   all_goals first
    | omega
    | exact Af.le ⟨j + 1, ⟨⟨hjl, hyes2 (by simp [Ld, *])⟩, (by first | omega | (simp only; omega))⟩, rfl⟩ (by simp +contextual -dsimp only [↓SD, SU, simprocAttr, Int.natCast_add]) trivial
    | (rw [hno2 (by simp [Ld, *])]; done)
    | exact Af.le ⟨j + 1, ⟨⟨hjl, hyes2 (by simp [Ld, *]; omega)⟩, (by first | omega | (simp only; omega))⟩, rfl⟩ (by simp +contextual -dsimp only [↓SD, SU, simprocAttr, Int.natCast_add]) trivial
  ·obtain rfl : j = items.length := by omega
   rw [List.take_length] at hq
   simp +contextual -dsimp (maxSteps := 2000000) only [↓SD, SU, simprocAttr, Ab, Nat.lt_irrefl]
   refine ⟨by omega, Af.le ⟨k + 1, ⟨⟨hlt, hyes (by simp [hq])⟩, (by first | omega | (simp only; omega))⟩, rfl⟩ (by simp +contextual -dsimp only [↓SD, SU, simprocAttr, Int.natCast_add]) trivial⟩
 ·obtain rfl : k = cons.length := by omega
  rw [List.take_length] at hp
  simp +contextual -dsimp (maxSteps := 2000000) only [↓SD, SU, simprocAttr, Ab, Nat.lt_irrefl, hp]

theorem CD {p : Program} (hx : Ac.bulk p ≤ 4294967296) : Ac.bulk p.types ≤ 4294967296 ∧ Ac.bulk p.nodes ≤ 4294967296 ∧ p.types.length ≤ 4294967296 ∧ p.nodes.length ≤ 4294967296 := by
 have h2 : Ac.bulk p = Ac.bulk p.types + Ac.bulk p.nodes + 1 := rfl
 have := Ai p.types
 have := Ai p.nodes
 omega
theorem Vj (p : Program) : Ad (.obj [.sl (p.types.map av), .sl (p.nodes.map av)]) := Ad.obj (by simp; exact ⟨Ak _, Ak _⟩)
theorem UA (p : Program) (i : Nat) (hi : i < p.nodes.length) : Ah Tryz.prog 94 [.int .i64 i, .obj [.sl (p.types.map av), .sl (p.nodes.map av)]] (.sl ((Aq p.nodes i).map av)) := by
 refine Ii.F rfl (by simp; exact ⟨BB _, Vj p⟩) (Ak _) ?_
 have e := getD_map av p.nodes i .top hi
 simp +contextual -dsimp (maxSteps := 2000000) only [↓SD, SU, simprocAttr, Ii, Ab, e, As, hi, Aq, Ey hi]
theorem Uz (t : BF) (hx : Ac.bulk t ≤ 4294967296) : Ah Tryz.prog 97 [av t] (.bool (!FP t)) := by
 refine Ih.F rfl (by simp; exact AVal.clean t) (Ad.bool _) ?_
 have C := Aa8 t hx
 rw [BE] at C
 simp +contextual -dsimp (maxSteps := 2000000) only [↓SD, SU, simprocAttr, Ih, BE]
 refine Aa _ C ?_
 simp +contextual -dsimp (maxSteps := 2000000) only [↓SD, SU, simprocAttr]
def Lu (p : Program) : Bool := (decide (1 ≤ (p.nodes.length : Int)) && decide ((p.nodes.length : Int) ≤ 600)) && decide ((p.types.length : Int) ≤ 8)
theorem Gl (nm : Node → Bool) (p : Program) : GX nm p = (Lu p && Fh (Aq p.nodes) p.nodes.length && p.nodes.all (AE nm p.nodes) && p.types.all FP) := rfl

set_option maxHeartbeats 2000000 in
theorem XM (nm : Node → Bool) (p : Program) (g : FuncId) (caps : List AV) (hpc : ∀ x ∈ caps, Ad x) (hc : ∀ hp, caps.map (AV.B5 hp) = caps) (hg : ∀ n ∈ p.nodes, Ah Tryz.prog g (av n :: caps) (.bool (nm n))) (hx : Ac.bulk p ≤ 4294967296) :
  Ah Tryz.prog 47 [av p, .fn g caps] (.bool (GX nm p)) := by
 obtain ⟨s1, s2, s3, s4⟩ := CD hx
 refine Ft.F rfl (by simp; exact ⟨AVal.clean p, Ad.fn hpc⟩) (Ad.bool _) ?_
 have C1 := EP (p.nodes.length : Int) 1 600
 rw [Gl]
 by_cases hh : Lu p = true
 ·have hh' := hh
  unfold Lu at hh'
  simp only [Bool.and_eq_true, decide_eq_true_eq] at hh'
  obtain ⟨⟨h1, h2⟩, h3⟩ := hh'
  rw [decide_eq_true h1, decide_eq_true h2] at C1
  have h3' : ¬ (8 : Int) < p.types.length := by omega
  have C2 := P9 (Aq p.nodes) p.nodes.length s4 94 [.obj [.sl (p.types.map av), .sl (p.nodes.map av)]] (by simp; exact Vj p) (by intro hp; rfl) (fun i hi => ⟨by
   have := (Eg s2 (List.getElem_mem hi)).1
   rw [Aq, Ey hi]; exact this, UA p i hi⟩)
  simp +contextual -dsimp (maxSteps := 2000000) only [↓SD, SU, simprocAttr, Ft, Ag, Ab]
  refine Aa _ C1 ?_
  simp +contextual -dsimp (maxSteps := 2000000) only [↓SD, SU, simprocAttr, Ab, h3']
  rw [hh]
  cases ht : Fh (Aq p.nodes) p.nodes.length with
  | false =>
   rw [ht] at C2
   refine Aa _ C2 ?_
   simp +contextual -dsimp (maxSteps := 2000000) only [↓SD, SU, simprocAttr, Bool.and_false, Bool.false_and]
  | true =>
   rw [ht] at C2
   refine Aa _ C2 ?_
   simp +contextual -dsimp (maxSteps := 2000000) only [↓SD, SU, simprocAttr, Ab]
   refine Am (X := Nat) (fun k => ⟨[(1, .fn g caps), (2, .obj [.sl (p.types.map av), .sl (p.nodes.map av)]), (25, .sl (p.nodes.map av)), (26, .int .i64 p.nodes.length), (27, .int .i64 k)], []⟩) (fun k => k ≤ p.nodes.length ∧ (p.nodes.take k).all (AE nm p.nodes) = true) (fun k => p.nodes.length - k) 0 ⟨Nat.zero_le _, rfl⟩ (by simp +contextual -dsimp only [↓SD, SU, simprocAttr]) trivial ?_
   rintro k ⟨hk, hp⟩
   by_cases hlt : k < p.nodes.length
   ·have e := getD_map av p.nodes k .top hlt
    have hm := List.getElem_mem hlt
    obtain ⟨b1, b2, b3, b4⟩ := Eg s2 hm
    have C3 := AbB nm p p.nodes[k] g caps hpc hc (hg _ hm) s4 b1 b2 b4 (fun x hx' => by
     have := Ef ht hlt (k := x) (by rw [Aq, Ey hlt]; exact hx')
     omega)
    have hno : AE nm p.nodes p.nodes[k] = false → p.nodes.all (AE nm p.nodes) = false := fun h => A7 _ hlt h
    have hyes : AE nm p.nodes p.nodes[k] = true → (p.nodes.take (k + 1)).all (AE nm p.nodes) = true := fun h => by rw [A6 _ hlt hp]; exact h
    generalize p.nodes[k] = n at *
    rw [As, Ag] at C3
    simp +contextual -dsimp (maxSteps := 2000000) only [↓SD, SU, simprocAttr, Ab, hlt, e, As, hc]
    intro v
    refine Aa _ C3 ?_
    simp +contextual -dsimp (maxSteps := 2000000) only [↓SD, SU, simprocAttr, hc]
    refine ⟨fun h => by rw [hno h]; simp, fun h => ⟨by omega, Af.le ⟨k + 1, ⟨⟨hlt, hyes h⟩, (by first | omega | (simp only; omega))⟩, rfl⟩ (by simp +contextual -dsimp only [↓SD, SU, simprocAttr, Int.natCast_add]) trivial⟩⟩
   ·obtain rfl : k = p.nodes.length := by omega
    rw [List.take_length] at hp
    have C4 := KT p.types 97 [] (fun t => !FP t) (by omega) (by simp) (by intro hp; rfl) (fun t ht' => Uz t (by have := Au ht'; omega))
    simp +contextual -dsimp (maxSteps := 2000000) only [↓SD, SU, simprocAttr, Ab, Nat.lt_irrefl]
    refine Aa _ C4 ?_
    simp +contextual -dsimp (maxSteps := 2000000) only [↓SD, SU, simprocAttr, hp, Bool.true_and, Bool.and_true, Bool.and_self]
    congr 1
    rw [List.all_eq_not_any_not]
 ·have hh0 : Lu p = false := by simpa using hh
  rw [hh0]
  by_cases hw : 1 ≤ (p.nodes.length : Int) ∧ (p.nodes.length : Int) ≤ 600
  ·rw [decide_eq_true hw.1, decide_eq_true hw.2] at C1
   have h3 : (8 : Int) < p.types.length := by
    unfold Lu at hh0
    rw [decide_eq_true hw.1, decide_eq_true hw.2, Bool.true_and, Bool.true_and] at hh0
    have := of_decide_eq_false hh0
    omega
   simp +contextual -dsimp (maxSteps := 2000000) only [↓SD, SU, simprocAttr, Ft, Ag, Ab]
   refine Aa _ C1 ?_
   simp +contextual -dsimp (maxSteps := 2000000) only [↓SD, SU, simprocAttr, Ab, h3, Bool.false_and]
  ·have hf : (decide (1 ≤ (p.nodes.length : Int)) && decide ((p.nodes.length : Int) ≤ 600)) = false := by
    rw [Bool.and_eq_false_iff, decide_eq_false_iff_not, decide_eq_false_iff_not]; omega
   rw [hf] at C1
   simp +contextual -dsimp (maxSteps := 2000000) only [↓SD, SU, simprocAttr, Ft, Ag, Ab]
   refine Aa _ C1 ?_
   simp +contextual -dsimp (maxSteps := 2000000) only [↓SD, SU, simprocAttr, Bool.false_and]

theorem Q1 (n : Node) (hs : n.s.size ≤ 4294967296) : Ah Tryz.prog 48 [av n] (.bool (BC n)) := by
 refine Hc.F rfl (by simp; exact AVal.clean n) (Ad.bool _) ?_
 simp +contextual -dsimp (maxSteps := 2000000) only [↓SD, SU, simprocAttr, Hc, As]
 refine Aa _ (Fk _ (by omega)) ?_
 simp +contextual -dsimp (maxSteps := 2000000) only [↓SD, SU, simprocAttr]
 (repeat' (first | intro _ | refine And.intro ?_ ?_))
 all_goals simp [BC, *]
theorem Q0 (q : Pat) (hx : Ac.bulk q.nodes ≤ 4294967296) : Ah Tryz.prog 51 [av q] (.bool (!Et q.nodes)) := by
 refine Hb.F rfl (by simp; exact AVal.clean q) (Ad.bool _) ?_
 simp +contextual -dsimp (maxSteps := 2000000) only [↓SD, SU, simprocAttr, Hb, B7]
 refine Aa _ (TL q.nodes hx) ?_
 simp +contextual -dsimp (maxSteps := 2000000) only [↓SD, SU, simprocAttr]
theorem RX {l : List Pat} (hx : Ac.bulk l ≤ 4294967296) {q : Pat} (hn : q ∈ l) : Ac.bulk q.nodes ≤ 4294967296 := by
 have h1 := Au hn
 have h2 : Ac.bulk q = Ac.bulk q.nodes + 1 := rfl
 omega
def BN (n : Node) : Bool := n.Ae.all fun q => Et q.nodes
theorem HD (p : Program) : Bv p = (GX BC p && p.nodes.all BN) := rfl
theorem Dy (p : Program) (hx : Ac.bulk p ≤ 4294967296) : Ah Tryz.prog 22 [av p] (.bool (Bv p)) := by
 obtain ⟨s1, s2, s3, s4⟩ := CD hx
 refine Iq.F rfl (by simp; exact AVal.clean p) (Ad.bool _) ?_
 have C1 := XM BC p 48 [] (by simp) (by intro hp; rfl) (fun n hn => Q1 n (Eg s2 hn).2.1) hx
 rw [Ag] at C1
 simp +contextual -dsimp (maxSteps := 2000000) only [↓SD, SU, simprocAttr, Iq, Ag, Ab]
 rw [HD]
 cases hsh : GX BC p with
 | false =>
  rw [hsh] at C1
  refine Aa _ C1 ?_
  simp +contextual -dsimp (maxSteps := 2000000) only [↓SD, SU, simprocAttr, Bool.false_and]
 | true =>
  rw [hsh] at C1
  refine Aa _ C1 ?_
  simp +contextual -dsimp (maxSteps := 2000000) only [↓SD, SU, simprocAttr, Ab, Bool.true_and]
  refine Am (X := Nat) (fun k => ⟨[(9, .sl (p.nodes.map av)), (10, .int .i64 p.nodes.length), (11, .int .i64 k)], []⟩) (fun k => k ≤ p.nodes.length ∧ (p.nodes.take k).all BN = true) (fun k => p.nodes.length - k) 0 ⟨Nat.zero_le _, rfl⟩ (by simp +contextual -dsimp only [↓SD, SU, simprocAttr]) trivial ?_
  rintro k ⟨hk, hp⟩
  by_cases hlt : k < p.nodes.length
  ·have e := getD_map av p.nodes k .top hlt
   have hm := List.getElem_mem hlt
   obtain ⟨b1, b2, b3, b4⟩ := Eg s2 hm
   have C3 := Lf p.nodes[k].Ae 51 [] (fun q => !Et q.nodes) (by omega) (by simp) (by intro hp; rfl) (fun q hq => Q0 q (RX b3 hq))
   have hno : BN p.nodes[k] = false → p.nodes.all BN = false := fun h => A7 _ hlt h
   have hyes : BN p.nodes[k] = true → (p.nodes.take (k + 1)).all BN = true := fun h => by rw [A6 _ hlt hp]; exact h
   have hpe : (p.nodes[k].Ae.any fun q => !Et q.nodes) = !BN p.nodes[k] := by
    unfold BN; rw [List.all_eq_not_any_not, Bool.not_not]
   rw [hpe] at C3
   generalize p.nodes[k] = n at *
   simp +contextual -dsimp (maxSteps := 2000000) only [↓SD, SU, simprocAttr, Ab, hlt, e, As]
   intro v
   refine Aa _ C3 ?_
   simp +contextual -dsimp (maxSteps := 2000000) only [↓SD, SU, simprocAttr]
   refine ⟨fun h => by rw [hno h], fun h => ⟨by omega, Af.le ⟨k + 1, ⟨⟨hlt, hyes h⟩, (by first | omega | (simp only; omega))⟩, rfl⟩ (by simp +contextual -dsimp only [↓SD, SU, simprocAttr, Int.natCast_add]) trivial⟩⟩
  ·obtain rfl : k = p.nodes.length := by omega
   rw [List.take_length] at hp
   simp +contextual -dsimp (maxSteps := 2000000) only [↓SD, SU, simprocAttr, Ab, Nat.lt_irrefl, hp]
end Go.Proofs.YtppjinmlfcokaaaGreat
