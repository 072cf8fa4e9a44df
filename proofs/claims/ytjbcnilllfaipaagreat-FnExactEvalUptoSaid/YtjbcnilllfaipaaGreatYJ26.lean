/-
 ProgramOk OF THE PROGRAM, by abstract texts. Conditions: none.
-/
import Derived.Test.YtjbcnilllfaipaaGreatYJ25
import Derived.Test.YtjbcnilllfaipaaGreatYJ14
set_option linter.unusedVariables false
set_option linter.unusedSimpArgs false
set_option maxRecDepth 100000
namespace Go.Proofs.YtjbcnilllfaipaaGreat
open Go.RowKit Go.Proofs.YtjbcnilllfaipaaGreat.Av Go.Proofs.YtjbcnilllfaipaaGreat.Ml
open Go.Proofs.YtjbcnilllfaipaaGreat.Av.AVal (av)

def KF (m : Int) (x : Bw) : Bool := !(decide (x.name = bs []) && decide (m ≤ x.var))
theorem Rn {l : List Con} (hx : Ad.bulk l ≤ 1099511627776) {c : Con} (hn : c ∈ l) : c.name.size ≤ 1099511627776 ∧ Ad.bulk c.arg.items ≤ 1099511627776 := by
 have h1 := AW hn
 have h2 : Ad.bulk c = Ad.bulk c.name + Ad.bulk c.has + Ad.bulk c.arg + 1 := rfl
 have h3 : Ad.bulk c.arg = Ad.bulk c.arg.items + 1 := rfl
 have h4 : Ad.bulk c.name = c.name.size + 1 := rfl
 omega
theorem N2 {t : BP} (hx : Ad.bulk t ≤ 1099511627776) : t.name.size ≤ 1099511627776 ∧ Ad.bulk t.cons ≤ 1099511627776 := by
 have h2 : Ad.bulk t = Ad.bulk t.name + Ad.bulk t.params + Ad.bulk t.cons + 1 := rfl
 have h4 : Ad.bulk t.name = t.name.size + 1 := rfl
 omega
theorem Ro (c : Con) (m : Int) : EY c m = (SN c.name && (if c.has then tyB c.arg.items else decide (c.arg.items = [])) && c.arg.items.all (KF m)) := rfl
def KW (t : BP) : Bool := F0 t.name && (decide (0 ≤ t.params) && decide (t.params ≤ 2)) && (decide (1 ≤ (t.cons.length : Int)) && decide ((t.cons.length : Int) ≤ 8))
theorem N3 (t : BP) : Hn t = (KW t && t.cons.all fun c => EY c t.params) := rfl
theorem Ln (n a b : Int) : ∃ r : Bool, r = (decide (a ≤ n) && decide (n ≤ b)) ∧ Ap Tryz.prog 85 [.int .i64 n, .int .i64 a, .int .i64 b] (.bool r) := ⟨_, rfl, Em n a b⟩

set_option maxHeartbeats 2000000 in
theorem Y8 (t : BP) (hx : Ad.bulk t ≤ 1099511627776) : Ap Tryz.prog 91 [av t] (.bool (Hn t)) := by
 obtain ⟨hs, hcb⟩ := N2 hx
 refine EC.F rfl (by simp; exact AVal.clean t) (Ac.bool _) ?_
 obtain ⟨name, params, cons⟩ := t
 simp only at hs hcb
 have hl := Ao cons
 have C1 := Fb name (by omega)
 obtain ⟨r2, hr2, C2⟩ := Ln params 0 2
 obtain ⟨r3, hr3, C3⟩ := Ln (cons.length : Int) 1 8
 have hH : KW ⟨name, params, cons⟩ = (F0 name && r2 && r3) := by rw [hr2, hr3]; rfl
 rw [N3, hH]
 clear hr2 hr3 hH
 simp only
 generalize F0 name = r1 at *
 cases r1
 case false =>
  simp +contextual -dsimp (maxSteps := 2000000) only [↓SD, SU, simprocAttr, EC, BZ, Aa]
  refine Ab _ C1 ?_
  simp +contextual -dsimp (maxSteps := 2000000) only [↓SD, SU, simprocAttr, Bool.false_and]
 cases r2
 case false =>
  simp +contextual -dsimp (maxSteps := 2000000) only [↓SD, SU, simprocAttr, EC, BZ, Aa]
  refine Ab _ C1 ?_
  simp +contextual -dsimp (maxSteps := 2000000) only [↓SD, SU, simprocAttr]
  refine Ab _ C2 ?_
  simp +contextual -dsimp (maxSteps := 2000000) only [↓SD, SU, simprocAttr, Bool.false_and, Bool.and_false]
 cases r3
 case false =>
  simp +contextual -dsimp (maxSteps := 2000000) only [↓SD, SU, simprocAttr, EC, BZ, Aa]
  refine Ab _ C1 ?_
  simp +contextual -dsimp (maxSteps := 2000000) only [↓SD, SU, simprocAttr]
  refine Ab _ C2 ?_
  simp +contextual -dsimp (maxSteps := 2000000) only [↓SD, SU, simprocAttr, Aa]
  refine Ab _ C3 ?_
  simp +contextual -dsimp (maxSteps := 2000000) only [↓SD, SU, simprocAttr, Bool.false_and, Bool.and_false]
 simp +contextual -dsimp (maxSteps := 2000000) only [↓SD, SU, simprocAttr, EC, BZ, Aa]
 refine Ab _ C1 ?_
 simp +contextual -dsimp (maxSteps := 2000000) only [↓SD, SU, simprocAttr]
 refine Ab _ C2 ?_
 simp +contextual -dsimp (maxSteps := 2000000) only [↓SD, SU, simprocAttr, Aa]
 refine Ab _ C3 ?_
 simp +contextual -dsimp (maxSteps := 2000000) only [↓SD, SU, simprocAttr, Aa, Bool.true_and, Bool.and_self]
 refine Al (X := Nat) (fun k => ⟨[(1, .obj [.str name, .int .i64 params, .sl (cons.map av)]), (25, .sl (cons.map av)), (26, .int .i64 cons.length), (27, .int .i64 k)], []⟩) (fun k => k ≤ cons.length ∧ (cons.take k).all (fun c => EY c params) = true) (fun k => cons.length - k) 0 ⟨Nat.zero_le _, rfl⟩ (by simp +contextual -dsimp only [↓SD, SU, simprocAttr]) trivial ?_
 rintro k ⟨hk, hp⟩
 by_cases hlt : k < cons.length
 ·have e := getD_map av cons k .top hlt
  obtain ⟨s1, s2⟩ := Rn hcb (List.getElem_mem hlt)
  have hno : EY cons[k] params = false → (cons.all fun c => EY c params) = false := fun h => A6 _ hlt h
  have hyes : EY cons[k] params = true → ((cons.take (k + 1)).all fun c => EY c params) = true := fun h => by rw [A5 _ hlt hp]; exact h
  generalize cons[k] = c at *
  obtain ⟨cn, ch, ⟨items⟩⟩ := c
  simp only at s1 s2
  have hil := Ao items
  rw [Ro] at hno hyes
  simp only at hno hyes
  have D1 := Ma cn (by omega)
  have D2 := Uq items s2
  generalize SN cn = b1 at *
  cases b1
  case false =>
   simp +contextual -dsimp (maxSteps := 2000000) only [↓SD, SU, simprocAttr, Aa, hlt, e, De]
   intro v
   refine Ab _ D1 ?_
   simp +contextual -dsimp (maxSteps := 2000000) only [↓SD, SU, simprocAttr]
   rw [hno rfl]
  cases ch
  case false =>
   by_cases hi : items = []
   ·subst hi
    simp +contextual -dsimp (maxSteps := 2000000) only [↓SD, SU, simprocAttr, Aa, hlt, e, De]
    intro v
    refine Ab _ D1 ?_
    simp +contextual -dsimp (maxSteps := 2000000) only [↓SD, SU, simprocAttr, Aa]
    refine Al (X := Unit) (fun _ => ⟨[(1, .obj [.str name, .int .i64 params, .sl (cons.map av)]), (25, .sl (cons.map av)), (26, .int .i64 cons.length), (27, .int .i64 k), (60, .int .i64 0), (61, .int .i64 0)], []⟩) (fun _ => True) (fun _ => 0) () trivial (by simp +contextual -dsimp only [↓SD, SU, simprocAttr]) trivial ?_
    intro _ _
    simp +contextual -dsimp (maxSteps := 2000000) only [↓SD, SU, simprocAttr, Aa]
    refine ⟨by omega, Af.le ⟨k + 1, ⟨⟨hlt, hyes (by simp)⟩, (by first | omega | (simp only; omega))⟩, rfl⟩ (by simp +contextual -dsimp only [↓SD, SU, simprocAttr, Int.natCast_add]) trivial⟩
   ·have hi0 : (0 : Int) < items.length := by have := List.length_pos_iff.2 hi; omega
    simp +contextual -dsimp (maxSteps := 2000000) only [↓SD, SU, simprocAttr, Aa, hlt, e, De]
    intro v
    refine Ab _ D1 ?_
    simp +contextual -dsimp (maxSteps := 2000000) only [↓SD, SU, simprocAttr, Aa, hi0]
    rw [hno (by simp [hi])]
  generalize tyB items = b2 at *
  cases b2
  case false =>
   simp +contextual -dsimp (maxSteps := 2000000) only [↓SD, SU, simprocAttr, Aa, hlt, e, De]
   intro v
   refine Ab _ D1 ?_
   simp +contextual -dsimp (maxSteps := 2000000) only [↓SD, SU, simprocAttr, Aa]
   refine Ab _ D2 ?_
   simp +contextual -dsimp (maxSteps := 2000000) only [↓SD, SU, simprocAttr, Aa]
   rw [hno (by simp)]
  simp +contextual -dsimp (maxSteps := 2000000) only [↓SD, SU, simprocAttr, Aa, hlt, e, De]
  intro v
  refine Ab _ D1 ?_
  simp +contextual -dsimp (maxSteps := 2000000) only [↓SD, SU, simprocAttr, Aa]
  refine Ab _ D2 ?_
  simp +contextual -dsimp (maxSteps := 2000000) only [↓SD, SU, simprocAttr, Aa]
  refine Al (X := Nat) (fun j => ⟨[(1, .obj [.str name, .int .i64 params, .sl (cons.map av)]), (25, .sl (cons.map av)), (26, .int .i64 cons.length), (27, .int .i64 k), (59, .sl (items.map av)), (60, .int .i64 items.length), (61, .int .i64 j)], []⟩) (fun j => j ≤ items.length ∧ (items.take j).all (KF params) = true) (fun j => items.length - j) 0 ⟨Nat.zero_le _, rfl⟩ (by simp +contextual -dsimp only [↓SD, SU, simprocAttr]) trivial ?_
  rintro j ⟨hj, hq⟩
  by_cases hjl : j < items.length
  ·have e2 := getD_map av items j .top hjl
   have hno2 : KF params items[j] = false → (cons.all fun c => EY c params) = false := fun h => hno (by simp [A6 _ hjl h])
   have hyes2 : KF params items[j] = true → (items.take (j + 1)).all (KF params) = true := fun h => by rw [A5 _ hjl hq]; exact h
   generalize items[j] = x at *
   obtain ⟨vr, nm, ar⟩ := x
   simp +contextual -dsimp (maxSteps := 2000000) only [↓SD, SU, simprocAttr, Aa, hjl, e2, AY]
   intro w
   (repeat' (first | intro _ | refine And.intro ?_ ?_))
   all_goals first
    | omega
    | exact Af.le ⟨j + 1, ⟨⟨hjl, hyes2 (by simp [KF, *])⟩, (by first | omega | (simp only; omega))⟩, rfl⟩ (by simp +contextual -dsimp only [↓SD, SU, simprocAttr, Int.natCast_add]) trivial
    | (rw [hno2 (by simp [KF, *])]; done)
    | exact Af.le ⟨j + 1, ⟨⟨hjl, hyes2 (by simp [KF, *]; omega)⟩, (by first | omega | (simp only; omega))⟩, rfl⟩ (by simp +contextual -dsimp only [↓SD, SU, simprocAttr, Int.natCast_add]) trivial
  ·obtain rfl : j = items.length := by omega
   rw [List.take_length] at hq
   simp +contextual -dsimp (maxSteps := 2000000) only [↓SD, SU, simprocAttr, Aa, Nat.lt_irrefl]
   refine ⟨by omega, Af.le ⟨k + 1, ⟨⟨hlt, hyes (by simp [hq])⟩, (by first | omega | (simp only; omega))⟩, rfl⟩ (by simp +contextual -dsimp only [↓SD, SU, simprocAttr, Int.natCast_add]) trivial⟩
 ·obtain rfl : k = cons.length := by omega
  rw [List.take_length] at hp
  simp +contextual -dsimp (maxSteps := 2000000) only [↓SD, SU, simprocAttr, Aa, Nat.lt_irrefl, hp]

theorem Fs {p : Program} (hx : Ad.bulk p ≤ 1099511627776) : Ad.bulk p.types ≤ 1099511627776 ∧ Ad.bulk p.nodes ≤ 1099511627776 ∧ p.types.length ≤ 1099511627776 ∧ p.nodes.length ≤ 1099511627776 := by
 have h2 : Ad.bulk p = Ad.bulk p.types + Ad.bulk p.nodes + 1 := rfl
 have := Ao p.types
 have := Ao p.nodes
 omega
theorem T5 (p : Program) : Ac (.obj [.sl (p.types.map av), .sl (p.nodes.map av)]) := Ac.obj (by simp; exact ⟨Aq _, Aq _⟩)
theorem Tl (p : Program) (i : Nat) (hi : i < p.nodes.length) : Ap Tryz.prog 87 [.int .i64 i, .obj [.sl (p.types.map av), .sl (p.nodes.map av)]] (.sl ((AF p.nodes i).map av)) := by
 refine HJ.F rfl (by simp; exact ⟨BL _, T5 p⟩) (Aq _) ?_
 have e := getD_map av p.nodes i .top hi
 simp +contextual -dsimp (maxSteps := 2000000) only [↓SD, SU, simprocAttr, HJ, Aa, e, AL, hi, AF, Ef hi]
theorem Tk (t : BP) (hx : Ad.bulk t ≤ 1099511627776) : Ap Tryz.prog 90 [av t] (.bool (!Hn t)) := by
 refine HI.F rfl (by simp; exact AVal.clean t) (Ac.bool _) ?_
 have C := Y8 t hx
 rw [BZ] at C
 simp +contextual -dsimp (maxSteps := 2000000) only [↓SD, SU, simprocAttr, HI, BZ]
 refine Ab _ C ?_
 simp +contextual -dsimp (maxSteps := 2000000) only [↓SD, SU, simprocAttr]
def KT (p : Program) : Bool := (decide (1 ≤ (p.nodes.length : Int)) && decide ((p.nodes.length : Int) ≤ 600)) && decide ((p.types.length : Int) ≤ 8)
theorem GW (nm : Node → Bool) (p : Program) : K0 nm p = (KT p && Fw (AF p.nodes) p.nodes.length && p.nodes.all (AP nm p.nodes) && p.types.all Hn) := rfl

set_option maxHeartbeats 2000000 in
theorem Wc (nm : Node → Bool) (p : Program) (g : FuncId) (caps : List AV) (hpc : ∀ x ∈ caps, Ac x) (hc : ∀ hp, caps.map (AV.AR hp) = caps) (hg : ∀ n ∈ p.nodes, Ap Tryz.prog g (av n :: caps) (.bool (nm n))) (hx : Ad.bulk p ≤ 1099511627776) :
  Ap Tryz.prog 49 [av p, .fn g caps] (.bool (K0 nm p)) := by
 obtain ⟨s1, s2, s3, s4⟩ := Fs hx
 refine Fk.F rfl (by simp; exact ⟨AVal.clean p, Ac.fn hpc⟩) (Ac.bool _) ?_
 have C1 := Em (p.nodes.length : Int) 1 600
 rw [GW]
 by_cases hh : KT p = true
 ·have hh' := hh
  unfold KT at hh'
  simp only [Bool.and_eq_true, decide_eq_true_eq] at hh'
  obtain ⟨⟨h1, h2⟩, h3⟩ := hh'
  rw [decide_eq_true h1, decide_eq_true h2] at C1
  have h3' : ¬ (8 : Int) < p.types.length := by omega
  have C2 := OY (AF p.nodes) p.nodes.length s4 87 [.obj [.sl (p.types.map av), .sl (p.nodes.map av)]] (by simp; exact T5 p) (by intro hp; rfl) (fun i hi => ⟨by
   have := (Du s2 (List.getElem_mem hi)).1
   rw [AF, Ef hi]; exact this, Tl p i hi⟩)
  simp +contextual -dsimp (maxSteps := 2000000) only [↓SD, SU, simprocAttr, Fk, Aj, Aa]
  refine Ab _ C1 ?_
  simp +contextual -dsimp (maxSteps := 2000000) only [↓SD, SU, simprocAttr, Aa, h3']
  rw [hh]
  cases ht : Fw (AF p.nodes) p.nodes.length with
  | false =>
   rw [ht] at C2
   refine Ab _ C2 ?_
   simp +contextual -dsimp (maxSteps := 2000000) only [↓SD, SU, simprocAttr, Bool.and_false, Bool.false_and]
  | true =>
   rw [ht] at C2
   refine Ab _ C2 ?_
   simp +contextual -dsimp (maxSteps := 2000000) only [↓SD, SU, simprocAttr, Aa]
   refine Al (X := Nat) (fun k => ⟨[(1, .fn g caps), (2, .obj [.sl (p.types.map av), .sl (p.nodes.map av)]), (25, .sl (p.nodes.map av)), (26, .int .i64 p.nodes.length), (27, .int .i64 k)], []⟩) (fun k => k ≤ p.nodes.length ∧ (p.nodes.take k).all (AP nm p.nodes) = true) (fun k => p.nodes.length - k) 0 ⟨Nat.zero_le _, rfl⟩ (by simp +contextual -dsimp only [↓SD, SU, simprocAttr]) trivial ?_
   rintro k ⟨hk, hp⟩
   by_cases hlt : k < p.nodes.length
   ·have e := getD_map av p.nodes k .top hlt
    have hm := List.getElem_mem hlt
    obtain ⟨b1, b2, b3, b4⟩ := Du s2 hm
    have C3 := Zx nm p p.nodes[k] g caps hpc hc (hg _ hm) s4 b1 b2 b4 (fun x hx' => by
     have := GJ ht hlt (k := x) (by rw [AF, Ef hlt]; exact hx')
     omega)
    have hno : AP nm p.nodes p.nodes[k] = false → p.nodes.all (AP nm p.nodes) = false := fun h => A6 _ hlt h
    have hyes : AP nm p.nodes p.nodes[k] = true → (p.nodes.take (k + 1)).all (AP nm p.nodes) = true := fun h => by rw [A5 _ hlt hp]; exact h
    generalize p.nodes[k] = n at *
    rw [AL, Aj] at C3
    simp +contextual -dsimp (maxSteps := 2000000) only [↓SD, SU, simprocAttr, Aa, hlt, e, AL, hc]
    intro v
    refine Ab _ C3 ?_
    simp +contextual -dsimp (maxSteps := 2000000) only [↓SD, SU, simprocAttr, hc]
    refine ⟨fun h => by rw [hno h]; simp, fun h => ⟨by omega, Af.le ⟨k + 1, ⟨⟨hlt, hyes h⟩, (by first | omega | (simp only; omega))⟩, rfl⟩ (by simp +contextual -dsimp only [↓SD, SU, simprocAttr, Int.natCast_add]) trivial⟩⟩
   ·obtain rfl : k = p.nodes.length := by omega
    rw [List.take_length] at hp
    have C4 := Ks p.types 90 [] (fun t => !Hn t) (by omega) (by simp) (by intro hp; rfl) (fun t ht' => Tk t (by have := AW ht'; omega))
    simp +contextual -dsimp (maxSteps := 2000000) only [↓SD, SU, simprocAttr, Aa, Nat.lt_irrefl]
    refine Ab _ C4 ?_
    simp +contextual -dsimp (maxSteps := 2000000) only [↓SD, SU, simprocAttr, hp, Bool.true_and, Bool.and_true, Bool.and_self]
    congr 1
    rw [List.all_eq_not_any_not]
 ·have hh0 : KT p = false := by simpa using hh
  rw [hh0]
  by_cases hw : 1 ≤ (p.nodes.length : Int) ∧ (p.nodes.length : Int) ≤ 600
  ·rw [decide_eq_true hw.1, decide_eq_true hw.2] at C1
   have h3 : (8 : Int) < p.types.length := by
    unfold KT at hh0
    rw [decide_eq_true hw.1, decide_eq_true hw.2, Bool.true_and, Bool.true_and] at hh0
    have := of_decide_eq_false hh0
    omega
   simp +contextual -dsimp (maxSteps := 2000000) only [↓SD, SU, simprocAttr, Fk, Aj, Aa]
   refine Ab _ C1 ?_
   simp +contextual -dsimp (maxSteps := 2000000) only [↓SD, SU, simprocAttr, Aa, h3, Bool.false_and]
  ·have hf : (decide (1 ≤ (p.nodes.length : Int)) && decide ((p.nodes.length : Int) ≤ 600)) = false := by
    rw [Bool.and_eq_false_iff, decide_eq_false_iff_not, decide_eq_false_iff_not]; omega
   rw [hf] at C1
   simp +contextual -dsimp (maxSteps := 2000000) only [↓SD, SU, simprocAttr, Fk, Aj, Aa]
   refine Ab _ C1 ?_
   simp +contextual -dsimp (maxSteps := 2000000) only [↓SD, SU, simprocAttr, Bool.false_and]

theorem P0 (n : Node) (hs : n.s.size ≤ 1099511627776) : Ap Tryz.prog 50 [av n] (.bool (BK n)) := by
 refine GG.F rfl (by simp; exact AVal.clean n) (Ac.bool _) ?_
 simp +contextual -dsimp (maxSteps := 2000000) only [↓SD, SU, simprocAttr, GG, AL]
 refine Ab _ (Fb _ (by omega)) ?_
 simp +contextual -dsimp (maxSteps := 2000000) only [↓SD, SU, simprocAttr]
 (repeat' (first | intro _ | refine And.intro ?_ ?_))
 all_goals simp [BK, *]
theorem PZ (q : Pat) (hx : Ad.bulk q.nodes ≤ 1099511627776) : Ap Tryz.prog 53 [av q] (.bool (!Ft q.nodes)) := by
 refine GF.F rfl (by simp; exact AVal.clean q) (Ac.bool _) ?_
 simp +contextual -dsimp (maxSteps := 2000000) only [↓SD, SU, simprocAttr, GF, C9]
 refine Ab _ (Su q.nodes hx) ?_
 simp +contextual -dsimp (maxSteps := 2000000) only [↓SD, SU, simprocAttr]
theorem QS {l : List Pat} (hx : Ad.bulk l ≤ 1099511627776) {q : Pat} (hn : q ∈ l) : Ad.bulk q.nodes ≤ 1099511627776 := by
 have h1 := AW hn
 have h2 : Ad.bulk q = Ad.bulk q.nodes + 1 := rfl
 omega
def BS (n : Node) : Bool := n.As.all fun q => Ft q.nodes
theorem Ie (p : Program) : FJ p = (K0 BK p && p.nodes.all BS) := rfl
theorem MM (p : Program) (hx : Ad.bulk p ≤ 1099511627776) : Ap Tryz.prog 23 [av p] (.bool (FJ p)) := by
 obtain ⟨s1, s2, s3, s4⟩ := Fs hx
 refine HL.F rfl (by simp; exact AVal.clean p) (Ac.bool _) ?_
 have C1 := Wc BK p 50 [] (by simp) (by intro hp; rfl) (fun n hn => P0 n (Du s2 hn).2.1) hx
 rw [Aj] at C1
 simp +contextual -dsimp (maxSteps := 2000000) only [↓SD, SU, simprocAttr, HL, Aj, Aa]
 rw [Ie]
 cases hsh : K0 BK p with
 | false =>
  rw [hsh] at C1
  refine Ab _ C1 ?_
  simp +contextual -dsimp (maxSteps := 2000000) only [↓SD, SU, simprocAttr, Bool.false_and]
 | true =>
  rw [hsh] at C1
  refine Ab _ C1 ?_
  simp +contextual -dsimp (maxSteps := 2000000) only [↓SD, SU, simprocAttr, Aa, Bool.true_and]
  refine Al (X := Nat) (fun k => ⟨[(9, .sl (p.nodes.map av)), (10, .int .i64 p.nodes.length), (11, .int .i64 k)], []⟩) (fun k => k ≤ p.nodes.length ∧ (p.nodes.take k).all BS = true) (fun k => p.nodes.length - k) 0 ⟨Nat.zero_le _, rfl⟩ (by simp +contextual -dsimp only [↓SD, SU, simprocAttr]) trivial ?_
  rintro k ⟨hk, hp⟩
  by_cases hlt : k < p.nodes.length
  ·have e := getD_map av p.nodes k .top hlt
   have hm := List.getElem_mem hlt
   obtain ⟨b1, b2, b3, b4⟩ := Du s2 hm
   have C3 := KI p.nodes[k].As 53 [] (fun q => !Ft q.nodes) (by omega) (by simp) (by intro hp; rfl) (fun q hq => PZ q (QS b3 hq))
   have hno : BS p.nodes[k] = false → p.nodes.all BS = false := fun h => A6 _ hlt h
   have hyes : BS p.nodes[k] = true → (p.nodes.take (k + 1)).all BS = true := fun h => by rw [A5 _ hlt hp]; exact h
   have hpe : (p.nodes[k].As.any fun q => !Ft q.nodes) = !BS p.nodes[k] := by
    unfold BS; rw [List.all_eq_not_any_not, Bool.not_not]
   rw [hpe] at C3
   generalize p.nodes[k] = n at *
   simp +contextual -dsimp (maxSteps := 2000000) only [↓SD, SU, simprocAttr, Aa, hlt, e, AL]
   intro v
   refine Ab _ C3 ?_
   simp +contextual -dsimp (maxSteps := 2000000) only [↓SD, SU, simprocAttr]
   refine ⟨fun h => by rw [hno h], fun h => ⟨by omega, Af.le ⟨k + 1, ⟨⟨hlt, hyes h⟩, (by first | omega | (simp only; omega))⟩, rfl⟩ (by simp +contextual -dsimp only [↓SD, SU, simprocAttr, Int.natCast_add]) trivial⟩⟩
  ·obtain rfl : k = p.nodes.length := by omega
   rw [List.take_length] at hp
   simp +contextual -dsimp (maxSteps := 2000000) only [↓SD, SU, simprocAttr, Aa, Nat.lt_irrefl, hp]
end Go.Proofs.YtjbcnilllfaipaaGreat
set_option linter.unusedVariables false
set_option linter.unusedSimpArgs false
set_option maxRecDepth 100000
namespace Go.Proofs.YtjbcnilllfaipaaGreat
open Go.RowKit Go.Proofs.YtjbcnilllfaipaaGreat.Av Go.Proofs.YtjbcnilllfaipaaGreat.Ml
open Go.Proofs.YtjbcnilllfaipaaGreat.Av.AVal (av)

theorem AdA {nm : Node → Bool} {l : List Node} {n : Node} (h : AP nm l n = true) (hb : Ad.bulk n ≤ 1099511627776) : Aa0 n n.kids.length := by
 unfold AP at h
 split at h
 ·cases h
 rename_i h0
 refine ⟨fun hk => ?_, fun hk => ?_, hb⟩
 ·have ha : AJ n.kind = 0 := by rw [hk]; rfl
  rw [ha] at h0
  omega
 ·simp [hk] at h
  omega
theorem Oo {p : Program} (hx : Ad.bulk p ≤ 1099511627776) (hb : FJ p = true) : 1 ≤ p.nodes.length ∧ p.nodes.length ≤ 600 ∧ Fw (AF p.nodes) p.nodes.length = true ∧ (∀ n ∈ p.nodes, Aa0 n n.kids.length) ∧ (∀ n ∈ p.nodes, ∀ q ∈ n.As, q.nodes ≠ []) := by
 obtain ⟨q1, q2, q3, q4⟩ := Fs hx
 simp only [FJ, K0, Bool.and_eq_true, decide_eq_true_eq, List.all_eq_true] at hb
 obtain ⟨⟨⟨⟨⟨h1, h2⟩, h3⟩, h4⟩, h5⟩, h6⟩ := hb
 refine ⟨by omega, by omega, h3, fun n hn => AdA (h4 n hn) ?_, fun n hn q hq => ?_⟩
 ·have := AW hn; omega
 ·have := h6 n hn q hq
  intro h
  rw [h] at this
  simp [Ft] at this

end Go.Proofs.YtjbcnilllfaipaaGreat
