/-
 ProgramOk OF THE PROGRAM, by abstract texts. Conditions: none.
-/
import Derived.Test.YtppjinmlfcokaaaGreatJJ25
set_option linter.unusedVariables false
set_option linter.unusedSimpArgs false
set_option maxRecDepth 100000
namespace Go.Proofs.YtppjinmlfcokaaaGreat
open Go.RowKit Go.Proofs.YtppjinmlfcokaaaGreat.Av Go.Proofs.YtppjinmlfcokaaaGreat.Ml
open Go.Proofs.YtppjinmlfcokaaaGreat.Av.AVal (av)

def Ly (m : Int) (x : Bb) : Bool := !(decide (x.name = bs []) && decide (m ≤ x.var))
theorem SA {l : List Con} (hx : Ac.bulk l ≤ 4294967296) {c : Con} (hn : c ∈ l) : c.name.size ≤ 4294967296 ∧ Ac.bulk c.arg.items ≤ 4294967296 := by
 have h1 := AG hn
 have h2 : Ac.bulk c = Ac.bulk c.name + Ac.bulk c.has + Ac.bulk c.arg + 1 := rfl
 have h3 : Ac.bulk c.arg = Ac.bulk c.arg.items + 1 := rfl
 have h4 : Ac.bulk c.name = c.name.size + 1 := rfl
 omega
theorem O8 {t : BK} (hx : Ac.bulk t ≤ 4294967296) : t.name.size ≤ 4294967296 ∧ Ac.bulk t.cons ≤ 4294967296 := by
 have h2 : Ac.bulk t = Ac.bulk t.name + Ac.bulk t.params + Ac.bulk t.cons + 1 := rfl
 have h4 : Ac.bulk t.name = t.name.size + 1 := rfl
 omega
theorem SC (c : Con) (m : Int) : Fa c m = (TZ c.name && (if c.has then tyB c.arg.items else decide (c.arg.items = [])) && c.arg.items.all (Ly m)) := rfl
def LU (t : BK) : Bool := FV t.name && (decide (0 ≤ t.params) && decide (t.params ≤ 2)) && (decide (1 ≤ (t.cons.length : Int)) && decide ((t.cons.length : Int) ≤ 8))
theorem O9 (t : BK) : HX t = (LU t && t.cons.all fun c => Fa c t.params) := rfl
theorem Mo (n a b : Int) : ∃ r : Bool, r = (decide (a ≤ n) && decide (n ≤ b)) ∧ Ak Tryz.prog 92 [.int .i64 n, .int .i64 a, .int .i64 b] (.bool r) := ⟨_, rfl, EF n a b⟩

set_option maxHeartbeats 2000000 in
theorem AaI (t : BK) (hx : Ac.bulk t ≤ 4294967296) : Ak Tryz.prog 98 [av t] (.bool (HX t)) := by
 obtain ⟨hs, hcb⟩ := O8 hx
 refine EB.F rfl (by simp; exact AVal.clean t) (Ae.bool _) ?_
 obtain ⟨name, params, cons⟩ := t
 simp only at hs hcb
 have hl := Ag cons
 have C1 := Fj name (by omega)
 obtain ⟨r2, hr2, C2⟩ := Mo params 0 2
 obtain ⟨r3, hr3, C3⟩ := Mo (cons.length : Int) 1 8
 have hH : LU ⟨name, params, cons⟩ = (FV name && r2 && r3) := by rw [hr2, hr3]; rfl
 rw [O9, hH]
 clear hr2 hr3 hH
 simp only
 generalize FV name = r1 at *
 cases r1
 case false =>
  simp +contextual -dsimp (maxSteps := 2000000) only [↓SD, SU, simprocAttr, EB, BJ, Aa]
  refine Ab _ C1 ?_
  simp +contextual -dsimp (maxSteps := 2000000) only [↓SD, SU, simprocAttr, Bool.false_and]
 cases r2
 case false =>
  simp +contextual -dsimp (maxSteps := 2000000) only [↓SD, SU, simprocAttr, EB, BJ, Aa]
  refine Ab _ C1 ?_
  simp +contextual -dsimp (maxSteps := 2000000) only [↓SD, SU, simprocAttr]
  refine Ab _ C2 ?_
  simp +contextual -dsimp (maxSteps := 2000000) only [↓SD, SU, simprocAttr, Bool.false_and, Bool.and_false]
 cases r3
 case false =>
  simp +contextual -dsimp (maxSteps := 2000000) only [↓SD, SU, simprocAttr, EB, BJ, Aa]
  refine Ab _ C1 ?_
  simp +contextual -dsimp (maxSteps := 2000000) only [↓SD, SU, simprocAttr]
  refine Ab _ C2 ?_
  simp +contextual -dsimp (maxSteps := 2000000) only [↓SD, SU, simprocAttr, Aa]
  refine Ab _ C3 ?_
  simp +contextual -dsimp (maxSteps := 2000000) only [↓SD, SU, simprocAttr, Bool.false_and, Bool.and_false]
 simp +contextual -dsimp (maxSteps := 2000000) only [↓SD, SU, simprocAttr, EB, BJ, Aa]
 refine Ab _ C1 ?_
 simp +contextual -dsimp (maxSteps := 2000000) only [↓SD, SU, simprocAttr]
 refine Ab _ C2 ?_
 simp +contextual -dsimp (maxSteps := 2000000) only [↓SD, SU, simprocAttr, Aa]
 refine Ab _ C3 ?_
 simp +contextual -dsimp (maxSteps := 2000000) only [↓SD, SU, simprocAttr, Aa, Bool.true_and, Bool.and_self]
 refine Am (X := Nat) (fun k => ⟨[(1, .obj [.str name, .int .i64 params, .sl (cons.map av)]), (25, .sl (cons.map av)), (26, .int .i64 cons.length), (27, .int .i64 k)], []⟩) (fun k => k ≤ cons.length ∧ (cons.take k).all (fun c => Fa c params) = true) (fun k => cons.length - k) 0 ⟨Nat.zero_le _, rfl⟩ (by simp +contextual -dsimp only [↓SD, SU, simprocAttr]) trivial ?_
 rintro k ⟨hk, hp⟩
 by_cases hlt : k < cons.length
 ·have e := getD_map av cons k .top hlt
  obtain ⟨s1, s2⟩ := SA hcb (List.getElem_mem hlt)
  have hno : Fa cons[k] params = false → (cons.all fun c => Fa c params) = false := fun h => Ba _ hlt h
  have hyes : Fa cons[k] params = true → ((cons.take (k + 1)).all fun c => Fa c params) = true := fun h => by rw [A9 _ hlt hp]; exact h
  generalize cons[k] = c at *
  obtain ⟨cn, ch, ⟨items⟩⟩ := c
  simp only at s1 s2
  have hil := Ag items
  rw [SC] at hno hyes
  simp only at hno hyes
  have D1 := Nd cn (by omega)
  have D2 := V0 items s2
  generalize TZ cn = b1 at *
  cases b1
  case false =>
   simp +contextual -dsimp (maxSteps := 2000000) only [↓SD, SU, simprocAttr, Aa, hlt, e, Cq]
   intro v
   refine Ab _ D1 ?_
   simp +contextual -dsimp (maxSteps := 2000000) only [↓SD, SU, simprocAttr]
   rw [hno rfl]
  cases ch
  case false =>
   by_cases hi : items = []
   ·subst hi
    simp +contextual -dsimp (maxSteps := 2000000) only [↓SD, SU, simprocAttr, Aa, hlt, e, Cq]
    intro v
    refine Ab _ D1 ?_
    simp +contextual -dsimp (maxSteps := 2000000) only [↓SD, SU, simprocAttr, Aa]
    refine Am (X := Unit) (fun _ => ⟨[(1, .obj [.str name, .int .i64 params, .sl (cons.map av)]), (25, .sl (cons.map av)), (26, .int .i64 cons.length), (27, .int .i64 k), (60, .int .i64 0), (61, .int .i64 0)], []⟩) (fun _ => True) (fun _ => 0) () trivial (by simp +contextual -dsimp only [↓SD, SU, simprocAttr]) trivial ?_
    intro _ _
    simp +contextual -dsimp (maxSteps := 2000000) only [↓SD, SU, simprocAttr, Aa]
    refine ⟨by omega, Af.le ⟨k + 1, ⟨⟨hlt, hyes (by simp)⟩, (by first | omega | (simp only; omega))⟩, rfl⟩ (by simp +contextual -dsimp only [↓SD, SU, simprocAttr, Int.natCast_add]) trivial⟩
   ·have hi0 : (0 : Int) < items.length := by have := List.length_pos_iff.2 hi; omega
    simp +contextual -dsimp (maxSteps := 2000000) only [↓SD, SU, simprocAttr, Aa, hlt, e, Cq]
    intro v
    refine Ab _ D1 ?_
    simp +contextual -dsimp (maxSteps := 2000000) only [↓SD, SU, simprocAttr, Aa, hi0]
    rw [hno (by simp [hi])]
  generalize tyB items = b2 at *
  cases b2
  case false =>
   simp +contextual -dsimp (maxSteps := 2000000) only [↓SD, SU, simprocAttr, Aa, hlt, e, Cq]
   intro v
   refine Ab _ D1 ?_
   simp +contextual -dsimp (maxSteps := 2000000) only [↓SD, SU, simprocAttr, Aa]
   refine Ab _ D2 ?_
   simp +contextual -dsimp (maxSteps := 2000000) only [↓SD, SU, simprocAttr, Aa]
   rw [hno (by simp)]
  simp +contextual -dsimp (maxSteps := 2000000) only [↓SD, SU, simprocAttr, Aa, hlt, e, Cq]
  intro v
  refine Ab _ D1 ?_
  simp +contextual -dsimp (maxSteps := 2000000) only [↓SD, SU, simprocAttr, Aa]
  refine Ab _ D2 ?_
  simp +contextual -dsimp (maxSteps := 2000000) only [↓SD, SU, simprocAttr, Aa]
  refine Am (X := Nat) (fun j => ⟨[(1, .obj [.str name, .int .i64 params, .sl (cons.map av)]), (25, .sl (cons.map av)), (26, .int .i64 cons.length), (27, .int .i64 k), (59, .sl (items.map av)), (60, .int .i64 items.length), (61, .int .i64 j)], []⟩) (fun j => j ≤ items.length ∧ (items.take j).all (Ly params) = true) (fun j => items.length - j) 0 ⟨Nat.zero_le _, rfl⟩ (by simp +contextual -dsimp only [↓SD, SU, simprocAttr]) trivial ?_
  rintro j ⟨hj, hq⟩
  by_cases hjl : j < items.length
  ·have e2 := getD_map av items j .top hjl
   have hno2 : Ly params items[j] = false → (cons.all fun c => Fa c params) = false := fun h => hno (by simp [Ba _ hjl h])
   have hyes2 : Ly params items[j] = true → (items.take (j + 1)).all (Ly params) = true := fun h => by rw [A9 _ hjl hq]; exact h
   generalize items[j] = x at *
   obtain ⟨vr, nm, ar⟩ := x
   simp +contextual -dsimp (maxSteps := 2000000) only [↓SD, SU, simprocAttr, Aa, hjl, e2, AY]
   intro w
   (repeat' (first | intro _ | refine And.intro ?_ ?_))
   all_goals first
    | omega
    | exact Af.le ⟨j + 1, ⟨⟨hjl, hyes2 (by simp [Ly, *])⟩, (by first | omega | (simp only; omega))⟩, rfl⟩ (by simp +contextual -dsimp only [↓SD, SU, simprocAttr, Int.natCast_add]) trivial
    | (rw [hno2 (by simp [Ly, *])]; done)
    | exact Af.le ⟨j + 1, ⟨⟨hjl, hyes2 (by simp [Ly, *]; omega)⟩, (by first | omega | (simp only; omega))⟩, rfl⟩ (by simp +contextual -dsimp only [↓SD, SU, simprocAttr, Int.natCast_add]) trivial
  ·obtain rfl : j = items.length := by omega
   rw [List.take_length] at hq
   simp +contextual -dsimp (maxSteps := 2000000) only [↓SD, SU, simprocAttr, Aa, Nat.lt_irrefl]
   refine ⟨by omega, Af.le ⟨k + 1, ⟨⟨hlt, hyes (by simp [hq])⟩, (by first | omega | (simp only; omega))⟩, rfl⟩ (by simp +contextual -dsimp only [↓SD, SU, simprocAttr, Int.natCast_add]) trivial⟩
 ·obtain rfl : k = cons.length := by omega
  rw [List.take_length] at hp
  simp +contextual -dsimp (maxSteps := 2000000) only [↓SD, SU, simprocAttr, Aa, Nat.lt_irrefl, hp]

theorem Ck {p : Program} (hx : Ac.bulk p ≤ 4294967296) : Ac.bulk p.types ≤ 4294967296 ∧ Ac.bulk p.nodes ≤ 4294967296 ∧ p.types.length ≤ 4294967296 ∧ p.nodes.length ≤ 4294967296 := by
 have h2 : Ac.bulk p = Ac.bulk p.types + Ac.bulk p.nodes + 1 := rfl
 have := Ag p.types
 have := Ag p.nodes
 omega
theorem Vf (p : Program) : Ae (.obj [.sl (p.types.map av), .sl (p.nodes.map av)]) := Ae.obj (by simp; exact ⟨Ao _, Ao _⟩)
theorem Ux (p : Program) (i : Nat) (hi : i < p.nodes.length) : Ak Tryz.prog 94 [.int .i64 i, .obj [.sl (p.types.map av), .sl (p.nodes.map av)]] (.sl ((Bp p.nodes i).map av)) := by
 refine Ip.F rfl (by simp; exact ⟨Bo _, Vf p⟩) (Ao _) ?_
 have e := getD_map av p.nodes i .top hi
 simp +contextual -dsimp (maxSteps := 2000000) only [↓SD, SU, simprocAttr, Ip, Aa, e, Ay, hi, Bp, ES hi]
theorem Uw (t : BK) (hx : Ac.bulk t ≤ 4294967296) : Ak Tryz.prog 97 [av t] (.bool (!HX t)) := by
 refine Io.F rfl (by simp; exact AVal.clean t) (Ae.bool _) ?_
 have C := AaI t hx
 rw [BJ] at C
 simp +contextual -dsimp (maxSteps := 2000000) only [↓SD, SU, simprocAttr, Io, BJ]
 refine Ab _ C ?_
 simp +contextual -dsimp (maxSteps := 2000000) only [↓SD, SU, simprocAttr]
def LP (p : Program) : Bool := (decide (1 ≤ (p.nodes.length : Int)) && decide ((p.nodes.length : Int) ≤ 600)) && decide ((p.types.length : Int) ≤ 8)
theorem Hm (nm : Node → Bool) (p : Program) : JD nm p = (LP p && Fc (Bp p.nodes) p.nodes.length && p.nodes.all (A1 nm p.nodes) && p.types.all HX) := rfl

set_option maxHeartbeats 2000000 in
theorem XK (nm : Node → Bool) (p : Program) (g : FuncId) (caps : List AV) (hpc : ∀ x ∈ caps, Ae x) (hc : ∀ hp, caps.map (AV.B7 hp) = caps) (hg : ∀ n ∈ p.nodes, Ak Tryz.prog g (av n :: caps) (.bool (nm n))) (hx : Ac.bulk p ≤ 4294967296) :
  Ak Tryz.prog 47 [av p, .fn g caps] (.bool (JD nm p)) := by
 obtain ⟨s1, s2, s3, s4⟩ := Ck hx
 refine Fu.F rfl (by simp; exact ⟨AVal.clean p, Ae.fn hpc⟩) (Ae.bool _) ?_
 have C1 := EF (p.nodes.length : Int) 1 600
 rw [Hm]
 by_cases hh : LP p = true
 ·have hh' := hh
  unfold LP at hh'
  simp only [Bool.and_eq_true, decide_eq_true_eq] at hh'
  obtain ⟨⟨h1, h2⟩, h3⟩ := hh'
  rw [decide_eq_true h1, decide_eq_true h2] at C1
  have h3' : ¬ (8 : Int) < p.types.length := by omega
  have C2 := P9 (Bp p.nodes) p.nodes.length s4 94 [.obj [.sl (p.types.map av), .sl (p.nodes.map av)]] (by simp; exact Vf p) (by intro hp; rfl) (fun i hi => ⟨by
   have := (D7 s2 (List.getElem_mem hi)).1
   rw [Bp, ES hi]; exact this, Ux p i hi⟩)
  simp +contextual -dsimp (maxSteps := 2000000) only [↓SD, SU, simprocAttr, Fu, Ad, Aa]
  refine Ab _ C1 ?_
  simp +contextual -dsimp (maxSteps := 2000000) only [↓SD, SU, simprocAttr, Aa, h3']
  rw [hh]
  cases ht : Fc (Bp p.nodes) p.nodes.length with
  | false =>
   rw [ht] at C2
   refine Ab _ C2 ?_
   simp +contextual -dsimp (maxSteps := 2000000) only [↓SD, SU, simprocAttr, Bool.and_false, Bool.false_and]
  | true =>
   rw [ht] at C2
   refine Ab _ C2 ?_
   simp +contextual -dsimp (maxSteps := 2000000) only [↓SD, SU, simprocAttr, Aa]
   refine Am (X := Nat) (fun k => ⟨[(1, .fn g caps), (2, .obj [.sl (p.types.map av), .sl (p.nodes.map av)]), (25, .sl (p.nodes.map av)), (26, .int .i64 p.nodes.length), (27, .int .i64 k)], []⟩) (fun k => k ≤ p.nodes.length ∧ (p.nodes.take k).all (A1 nm p.nodes) = true) (fun k => p.nodes.length - k) 0 ⟨Nat.zero_le _, rfl⟩ (by simp +contextual -dsimp only [↓SD, SU, simprocAttr]) trivial ?_
   rintro k ⟨hk, hp⟩
   by_cases hlt : k < p.nodes.length
   ·have e := getD_map av p.nodes k .top hlt
    have hm := List.getElem_mem hlt
    obtain ⟨b1, b2, b3, b4⟩ := D7 s2 hm
    have C3 := Abe nm p p.nodes[k] g caps hpc hc (hg _ hm) s4 b1 b2 b4 (fun x hx' => by
     have := DM ht hlt (k := x) (by rw [Bp, ES hlt]; exact hx')
     omega)
    have hno : A1 nm p.nodes p.nodes[k] = false → p.nodes.all (A1 nm p.nodes) = false := fun h => Ba _ hlt h
    have hyes : A1 nm p.nodes p.nodes[k] = true → (p.nodes.take (k + 1)).all (A1 nm p.nodes) = true := fun h => by rw [A9 _ hlt hp]; exact h
    generalize p.nodes[k] = n at *
    rw [Ay, Ad] at C3
    simp +contextual -dsimp (maxSteps := 2000000) only [↓SD, SU, simprocAttr, Aa, hlt, e, Ay, hc]
    intro v
    refine Ab _ C3 ?_
    simp +contextual -dsimp (maxSteps := 2000000) only [↓SD, SU, simprocAttr, hc]
    refine ⟨fun h => by rw [hno h]; simp, fun h => ⟨by omega, Af.le ⟨k + 1, ⟨⟨hlt, hyes h⟩, (by first | omega | (simp only; omega))⟩, rfl⟩ (by simp +contextual -dsimp only [↓SD, SU, simprocAttr, Int.natCast_add]) trivial⟩⟩
   ·obtain rfl : k = p.nodes.length := by omega
    rw [List.take_length] at hp
    have C4 := Ld p.types 97 [] (fun t => !HX t) (by omega) (by simp) (by intro hp; rfl) (fun t ht' => Uw t (by have := AG ht'; omega))
    simp +contextual -dsimp (maxSteps := 2000000) only [↓SD, SU, simprocAttr, Aa, Nat.lt_irrefl]
    refine Ab _ C4 ?_
    simp +contextual -dsimp (maxSteps := 2000000) only [↓SD, SU, simprocAttr, hp, Bool.true_and, Bool.and_true, Bool.and_self]
    congr 1
    rw [List.all_eq_not_any_not]
 ·have hh0 : LP p = false := by simpa using hh
  rw [hh0]
  by_cases hw : 1 ≤ (p.nodes.length : Int) ∧ (p.nodes.length : Int) ≤ 600
  ·rw [decide_eq_true hw.1, decide_eq_true hw.2] at C1
   have h3 : (8 : Int) < p.types.length := by
    unfold LP at hh0
    rw [decide_eq_true hw.1, decide_eq_true hw.2, Bool.true_and, Bool.true_and] at hh0
    have := of_decide_eq_false hh0
    omega
   simp +contextual -dsimp (maxSteps := 2000000) only [↓SD, SU, simprocAttr, Fu, Ad, Aa]
   refine Ab _ C1 ?_
   simp +contextual -dsimp (maxSteps := 2000000) only [↓SD, SU, simprocAttr, Aa, h3, Bool.false_and]
  ·have hf : (decide (1 ≤ (p.nodes.length : Int)) && decide ((p.nodes.length : Int) ≤ 600)) = false := by
    rw [Bool.and_eq_false_iff, decide_eq_false_iff_not, decide_eq_false_iff_not]; omega
   rw [hf] at C1
   simp +contextual -dsimp (maxSteps := 2000000) only [↓SD, SU, simprocAttr, Fu, Ad, Aa]
   refine Ab _ C1 ?_
   simp +contextual -dsimp (maxSteps := 2000000) only [↓SD, SU, simprocAttr, Bool.false_and]

theorem Q0 (n : Node) (hs : n.s.size ≤ 4294967296) : Ak Tryz.prog 48 [av n] (.bool (BM n)) := by
 refine G8.F rfl (by simp; exact AVal.clean n) (Ae.bool _) ?_
 simp +contextual -dsimp (maxSteps := 2000000) only [↓SD, SU, simprocAttr, G8, Ay]
 refine Ab _ (Fj _ (by omega)) ?_
 simp +contextual -dsimp (maxSteps := 2000000) only [↓SD, SU, simprocAttr]
 (repeat' (first | intro _ | refine And.intro ?_ ?_))
 all_goals simp [BM, *]
theorem QZ (q : Pat) (hx : Ac.bulk q.nodes ≤ 4294967296) : Ak Tryz.prog 51 [av q] (.bool (!Gk q.nodes)) := by
 refine G7.F rfl (by simp; exact AVal.clean q) (Ae.bool _) ?_
 simp +contextual -dsimp (maxSteps := 2000000) only [↓SD, SU, simprocAttr, G7, Cc]
 refine Ab _ (TM q.nodes hx) ?_
 simp +contextual -dsimp (maxSteps := 2000000) only [↓SD, SU, simprocAttr]
theorem R1 {l : List Pat} (hx : Ac.bulk l ≤ 4294967296) {q : Pat} (hn : q ∈ l) : Ac.bulk q.nodes ≤ 4294967296 := by
 have h1 := AG hn
 have h2 : Ac.bulk q = Ac.bulk q.nodes + 1 := rfl
 omega
def BT (n : Node) : Bool := n.Ai.all fun q => Gk q.nodes
theorem IQ (p : Program) : Db p = (JD BM p && p.nodes.all BT) := rfl
theorem ER (p : Program) (hx : Ac.bulk p ≤ 4294967296) : Ak Tryz.prog 22 [av p] (.bool (Db p)) := by
 obtain ⟨s1, s2, s3, s4⟩ := Ck hx
 refine Iu.F rfl (by simp; exact AVal.clean p) (Ae.bool _) ?_
 have C1 := XK BM p 48 [] (by simp) (by intro hp; rfl) (fun n hn => Q0 n (D7 s2 hn).2.1) hx
 rw [Ad] at C1
 simp +contextual -dsimp (maxSteps := 2000000) only [↓SD, SU, simprocAttr, Iu, Ad, Aa]
 rw [IQ]
 cases hsh : JD BM p with
 | false =>
  rw [hsh] at C1
  refine Ab _ C1 ?_
  simp +contextual -dsimp (maxSteps := 2000000) only [↓SD, SU, simprocAttr, Bool.false_and]
 | true =>
  rw [hsh] at C1
  refine Ab _ C1 ?_
  simp +contextual -dsimp (maxSteps := 2000000) only [↓SD, SU, simprocAttr, Aa, Bool.true_and]
  refine Am (X := Nat) (fun k => ⟨[(9, .sl (p.nodes.map av)), (10, .int .i64 p.nodes.length), (11, .int .i64 k)], []⟩) (fun k => k ≤ p.nodes.length ∧ (p.nodes.take k).all BT = true) (fun k => p.nodes.length - k) 0 ⟨Nat.zero_le _, rfl⟩ (by simp +contextual -dsimp only [↓SD, SU, simprocAttr]) trivial ?_
  rintro k ⟨hk, hp⟩
  by_cases hlt : k < p.nodes.length
  ·have e := getD_map av p.nodes k .top hlt
   have hm := List.getElem_mem hlt
   obtain ⟨b1, b2, b3, b4⟩ := D7 s2 hm
   have C3 := LA p.nodes[k].Ai 51 [] (fun q => !Gk q.nodes) (by omega) (by simp) (by intro hp; rfl) (fun q hq => QZ q (R1 b3 hq))
   have hno : BT p.nodes[k] = false → p.nodes.all BT = false := fun h => Ba _ hlt h
   have hyes : BT p.nodes[k] = true → (p.nodes.take (k + 1)).all BT = true := fun h => by rw [A9 _ hlt hp]; exact h
   have hpe : (p.nodes[k].Ai.any fun q => !Gk q.nodes) = !BT p.nodes[k] := by
    unfold BT; rw [List.all_eq_not_any_not, Bool.not_not]
   rw [hpe] at C3
   generalize p.nodes[k] = n at *
   simp +contextual -dsimp (maxSteps := 2000000) only [↓SD, SU, simprocAttr, Aa, hlt, e, Ay]
   intro v
   refine Ab _ C3 ?_
   simp +contextual -dsimp (maxSteps := 2000000) only [↓SD, SU, simprocAttr]
   refine ⟨fun h => by rw [hno h], fun h => ⟨by omega, Af.le ⟨k + 1, ⟨⟨hlt, hyes h⟩, (by first | omega | (simp only; omega))⟩, rfl⟩ (by simp +contextual -dsimp only [↓SD, SU, simprocAttr, Int.natCast_add]) trivial⟩⟩
  ·obtain rfl : k = p.nodes.length := by omega
   rw [List.take_length] at hp
   simp +contextual -dsimp (maxSteps := 2000000) only [↓SD, SU, simprocAttr, Aa, Nat.lt_irrefl, hp]
end Go.Proofs.YtppjinmlfcokaaaGreat
