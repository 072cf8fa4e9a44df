/-
 NODES OF RIGHT PROGRAMS: what the reference's l04Node tells, by abstract texts. Conditions: none.
-/
import Derived.Test.YtjbcnilllfaipaaGreatYJ26
set_option linter.unusedVariables false
set_option linter.unusedSimpArgs false
set_option maxRecDepth 100000
namespace Go.Proofs.YtjbcnilllfaipaaGreat
open Go.RowKit Go.Proofs.YtjbcnilllfaipaaGreat.Av Go.Proofs.YtjbcnilllfaipaaGreat.Ml
open Go.Proofs.YtjbcnilllfaipaaGreat.Av.AVal (av)

def Ba (m : Nat) (k : Int) : Bool := decide (0 ≤ k) && decide (k < m)
def Au (l : List Node) (n : Node) : Bool := n.kids.all (Ba l.length) && AP BK l n && BS n

set_option maxHeartbeats 16000000 in
theorem Wv (p : Program) (n : Node) (hl : p.nodes.length ≤ 1099511627776) (hk : n.kids.length ≤ 1099511627776) (hs : n.s.size ≤ 1099511627776) (hq : n.As.length ≤ 1099511627776) (hqb : Ad.bulk n.As ≤ 1099511627776) :
  Ap Tryz.prog 38 [av p, av n] (.bool (Au p.nodes n)) := by
 refine AM.F rfl (by simp; exact ⟨AVal.clean p, AVal.clean n⟩) (Ac.bool _) ?_
 have CA := Wx n.kind
 by_cases hkk : 1 ≤ n.kind ∧ n.kind ≤ 19
 ·obtain ⟨kind, pos, nn, s, kids, As⟩ := n
  simp only at hk hs hq hkk CA hqb
  by_cases hpre : 0 ≤ pos ∧ (kind ≠ 1 → nn = 0) ∧ 0 ≤ nn ∧ nn ≤ 4611686018427387903
  ·obtain ⟨p1, p2, p3, p4⟩ := hpre
   have p1' : ¬ pos < 0 := by omega
   have p3' : ¬ nn < 0 := by omega
   have p4' : ¬ (4611686018427387903 : Int) < nn := by omega
   have hrun : True := trivial
   rcases kinds hkk with rfl | rfl | rfl | rfl | rfl | rfl | rfl | rfl | rfl | rfl | rfl | rfl | rfl | rfl | rfl | rfl | rfl | rfl | rfl
   case inl =>
    have hA : AJ 1 = 0 := rfl
    rw [hA] at CA
    clear hkk
    simp +contextual -dsimp (maxSteps := 2000000) only [↓SD, SU, simprocAttr, AM, AL, Aj, Aa, p1', p3', p4']
    refine Al (X := Nat) (fun j => ⟨[(2, .obj [.sl (p.types.map av), .sl (p.nodes.map av)]), (3, .obj [.int .i64 1, .int .i64 pos, .int .i64 nn, .str s, .sl (kids.map av), .sl (As.map av)]), (44, .sl (kids.map av)), (45, .int .i64 kids.length), (46, .int .i64 j)], []⟩) (fun j => j ≤ kids.length ∧ (kids.take j).all (Ba p.nodes.length) = true) (fun j => kids.length - j) 0 ⟨Nat.zero_le _, rfl⟩ (by simp +contextual -dsimp only [↓SD, SU, simprocAttr]) trivial ?_
    rintro j ⟨hj, hp⟩
    by_cases hjl : j < kids.length
    ·have e := getD_map av kids j .top hjl
     have hno : Ba p.nodes.length kids[j] = false → Au p.nodes ⟨1, pos, nn, s, kids, As⟩ = false := fun h => by simp [Au, A6 _ hjl h]
     have hyes : Ba p.nodes.length kids[j] = true → (kids.take (j + 1)).all (Ba p.nodes.length) = true := fun h => by rw [A5 _ hjl hp]; exact h
     generalize kids[j] = x at *
     simp +contextual -dsimp (maxSteps := 2000000) only [↓SD, SU, simprocAttr, Aa, hjl, e, Bo]
     (repeat' (first | intro _ | refine And.intro ?_ ?_))
     all_goals first
      | omega
      | (rw [hno (by simp [Ba]; omega)]; done)
      | exact Af.le ⟨j + 1, ⟨⟨hjl, hyes (by simp [Ba]; omega)⟩, (by first | omega | (simp only; omega))⟩, rfl⟩ (by simp +contextual -dsimp only [↓SD, SU, simprocAttr, Int.natCast_add]) trivial
    ·obtain rfl : j = kids.length := by omega
     rw [List.take_length] at hp
     rcases As with _ | ⟨q0, qs⟩ <;>
     ((try simp only [List.length_cons] at hq)
      simp +contextual -dsimp (maxSteps := 2000000) only [↓SD, SU, simprocAttr, Aa, Nat.lt_irrefl, List.length_map]
      (repeat' (first | intro _ | refine And.intro ?_ ?_))
      all_goals first | omega | skip
      all_goals first | (refine Ab _ (AZ s (by omega)) ?_; simp +contextual -dsimp (maxSteps := 2000000) only [↓SD, SU, simprocAttr, *, Aa]; (repeat' (first | intro _ | refine And.intro ?_ ?_))) | (refine Ab _ (Ch s) ?_; simp +contextual -dsimp (maxSteps := 2000000) only [↓SD, SU, simprocAttr, *, Aa]; (repeat' (first | intro _ | refine And.intro ?_ ?_))) | skip
      all_goals first | omega | skip
      all_goals first | (refine Ab _ CA ?_; simp +contextual -dsimp (maxSteps := 2000000) only [↓SD, SU, simprocAttr, *, Aa]; (repeat' (first | intro _ | refine And.intro ?_ ?_))) | skip
      all_goals first | omega | (simp [Au, AP, BS, BK, AG, AE, *]; done) | (have kne : kids ≠ [] := (fun h => by subst h; simp at *); simp [Au, AP, hA, kne]; done) | (simp [Au, AP, BS, BK, AG, AE, *]; omega) | trace_state)
   case inr.inl =>
    obtain rfl : nn = 0 := p2 (by decide)
    clear p2 p3' p4'
    have hA : AJ 2 = 0 := rfl
    rw [hA] at CA
    clear hkk
    simp +contextual -dsimp (maxSteps := 2000000) only [↓SD, SU, simprocAttr, AM, AL, Aj, Aa, p1']
    refine Al (X := Nat) (fun j => ⟨[(2, .obj [.sl (p.types.map av), .sl (p.nodes.map av)]), (3, .obj [.int .i64 2, .int .i64 pos, .int .i64 0, .str s, .sl (kids.map av), .sl (As.map av)]), (44, .sl (kids.map av)), (45, .int .i64 kids.length), (46, .int .i64 j)], []⟩) (fun j => j ≤ kids.length ∧ (kids.take j).all (Ba p.nodes.length) = true) (fun j => kids.length - j) 0 ⟨Nat.zero_le _, rfl⟩ (by simp +contextual -dsimp only [↓SD, SU, simprocAttr]) trivial ?_
    rintro j ⟨hj, hp⟩
    by_cases hjl : j < kids.length
    ·have e := getD_map av kids j .top hjl
     have hno : Ba p.nodes.length kids[j] = false → Au p.nodes ⟨2, pos, 0, s, kids, As⟩ = false := fun h => by simp [Au, A6 _ hjl h]
     have hyes : Ba p.nodes.length kids[j] = true → (kids.take (j + 1)).all (Ba p.nodes.length) = true := fun h => by rw [A5 _ hjl hp]; exact h
     generalize kids[j] = x at *
     simp +contextual -dsimp (maxSteps := 2000000) only [↓SD, SU, simprocAttr, Aa, hjl, e, Bo]
     (repeat' (first | intro _ | refine And.intro ?_ ?_))
     all_goals first
      | omega
      | (rw [hno (by simp [Ba]; omega)]; done)
      | exact Af.le ⟨j + 1, ⟨⟨hjl, hyes (by simp [Ba]; omega)⟩, (by first | omega | (simp only; omega))⟩, rfl⟩ (by simp +contextual -dsimp only [↓SD, SU, simprocAttr, Int.natCast_add]) trivial
    ·obtain rfl : j = kids.length := by omega
     rw [List.take_length] at hp
     rcases As with _ | ⟨q0, qs⟩ <;>
     ((try simp only [List.length_cons] at hq)
      simp +contextual -dsimp (maxSteps := 2000000) only [↓SD, SU, simprocAttr, Aa, Nat.lt_irrefl, List.length_map]
      (repeat' (first | intro _ | refine And.intro ?_ ?_))
      all_goals first | omega | skip
      all_goals first | (refine Ab _ (AZ s (by omega)) ?_; simp +contextual -dsimp (maxSteps := 2000000) only [↓SD, SU, simprocAttr, *, Aa]; (repeat' (first | intro _ | refine And.intro ?_ ?_))) | (refine Ab _ (Ch s) ?_; simp +contextual -dsimp (maxSteps := 2000000) only [↓SD, SU, simprocAttr, *, Aa]; (repeat' (first | intro _ | refine And.intro ?_ ?_))) | skip
      all_goals first | omega | skip
      all_goals first | (refine Ab _ CA ?_; simp +contextual -dsimp (maxSteps := 2000000) only [↓SD, SU, simprocAttr, *, Aa]; (repeat' (first | intro _ | refine And.intro ?_ ?_))) | skip
      all_goals first | omega | (simp [Au, AP, BS, BK, AG, AE, *]; done) | (have kne : kids ≠ [] := (fun h => by subst h; simp at *); simp [Au, AP, hA, kne]; done) | (simp [Au, AP, BS, BK, AG, AE, *]; omega) | trace_state)
   case inr.inr.inl =>
    obtain rfl : nn = 0 := p2 (by decide)
    clear p2 p3' p4'
    have hA : AJ 3 = 0 := rfl
    rw [hA] at CA
    clear hkk
    simp +contextual -dsimp (maxSteps := 2000000) only [↓SD, SU, simprocAttr, AM, AL, Aj, Aa, p1']
    refine Al (X := Nat) (fun j => ⟨[(2, .obj [.sl (p.types.map av), .sl (p.nodes.map av)]), (3, .obj [.int .i64 3, .int .i64 pos, .int .i64 0, .str s, .sl (kids.map av), .sl (As.map av)]), (44, .sl (kids.map av)), (45, .int .i64 kids.length), (46, .int .i64 j)], []⟩) (fun j => j ≤ kids.length ∧ (kids.take j).all (Ba p.nodes.length) = true) (fun j => kids.length - j) 0 ⟨Nat.zero_le _, rfl⟩ (by simp +contextual -dsimp only [↓SD, SU, simprocAttr]) trivial ?_
    rintro j ⟨hj, hp⟩
    by_cases hjl : j < kids.length
    ·have e := getD_map av kids j .top hjl
     have hno : Ba p.nodes.length kids[j] = false → Au p.nodes ⟨3, pos, 0, s, kids, As⟩ = false := fun h => by simp [Au, A6 _ hjl h]
     have hyes : Ba p.nodes.length kids[j] = true → (kids.take (j + 1)).all (Ba p.nodes.length) = true := fun h => by rw [A5 _ hjl hp]; exact h
     generalize kids[j] = x at *
     simp +contextual -dsimp (maxSteps := 2000000) only [↓SD, SU, simprocAttr, Aa, hjl, e, Bo]
     (repeat' (first | intro _ | refine And.intro ?_ ?_))
     all_goals first
      | omega
      | (rw [hno (by simp [Ba]; omega)]; done)
      | exact Af.le ⟨j + 1, ⟨⟨hjl, hyes (by simp [Ba]; omega)⟩, (by first | omega | (simp only; omega))⟩, rfl⟩ (by simp +contextual -dsimp only [↓SD, SU, simprocAttr, Int.natCast_add]) trivial
    ·obtain rfl : j = kids.length := by omega
     rw [List.take_length] at hp
     rcases As with _ | ⟨q0, qs⟩ <;>
     ((try simp only [List.length_cons] at hq)
      simp +contextual -dsimp (maxSteps := 2000000) only [↓SD, SU, simprocAttr, Aa, Nat.lt_irrefl, List.length_map]
      (repeat' (first | intro _ | refine And.intro ?_ ?_))
      all_goals first | omega | skip
      all_goals first | (refine Ab _ (AZ s (by omega)) ?_; simp +contextual -dsimp (maxSteps := 2000000) only [↓SD, SU, simprocAttr, *, Aa]; (repeat' (first | intro _ | refine And.intro ?_ ?_))) | (refine Ab _ (Ch s) ?_; simp +contextual -dsimp (maxSteps := 2000000) only [↓SD, SU, simprocAttr, *, Aa]; (repeat' (first | intro _ | refine And.intro ?_ ?_))) | skip
      all_goals first | omega | skip
      all_goals first | (refine Ab _ CA ?_; simp +contextual -dsimp (maxSteps := 2000000) only [↓SD, SU, simprocAttr, *, Aa]; (repeat' (first | intro _ | refine And.intro ?_ ?_))) | skip
      all_goals first | omega | (simp [Au, AP, BS, BK, AG, AE, *]; done) | (have kne : kids ≠ [] := (fun h => by subst h; simp at *); simp [Au, AP, hA, kne]; done) | (simp [Au, AP, BS, BK, AG, AE, *]; omega) | trace_state)
   case inr.inr.inr.inl =>
    obtain rfl : nn = 0 := p2 (by decide)
    clear p2 p3' p4'
    have hA : AJ 4 = -1 := rfl
    rw [hA] at CA
    clear hkk
    simp +contextual -dsimp (maxSteps := 2000000) only [↓SD, SU, simprocAttr, AM, AL, Aj, Aa, p1']
    refine Al (X := Nat) (fun j => ⟨[(2, .obj [.sl (p.types.map av), .sl (p.nodes.map av)]), (3, .obj [.int .i64 4, .int .i64 pos, .int .i64 0, .str s, .sl (kids.map av), .sl (As.map av)]), (44, .sl (kids.map av)), (45, .int .i64 kids.length), (46, .int .i64 j)], []⟩) (fun j => j ≤ kids.length ∧ (kids.take j).all (Ba p.nodes.length) = true) (fun j => kids.length - j) 0 ⟨Nat.zero_le _, rfl⟩ (by simp +contextual -dsimp only [↓SD, SU, simprocAttr]) trivial ?_
    rintro j ⟨hj, hp⟩
    by_cases hjl : j < kids.length
    ·have e := getD_map av kids j .top hjl
     have hno : Ba p.nodes.length kids[j] = false → Au p.nodes ⟨4, pos, 0, s, kids, As⟩ = false := fun h => by simp [Au, A6 _ hjl h]
     have hyes : Ba p.nodes.length kids[j] = true → (kids.take (j + 1)).all (Ba p.nodes.length) = true := fun h => by rw [A5 _ hjl hp]; exact h
     generalize kids[j] = x at *
     simp +contextual -dsimp (maxSteps := 2000000) only [↓SD, SU, simprocAttr, Aa, hjl, e, Bo]
     (repeat' (first | intro _ | refine And.intro ?_ ?_))
     all_goals first
      | omega
      | (rw [hno (by simp [Ba]; omega)]; done)
      | exact Af.le ⟨j + 1, ⟨⟨hjl, hyes (by simp [Ba]; omega)⟩, (by first | omega | (simp only; omega))⟩, rfl⟩ (by simp +contextual -dsimp only [↓SD, SU, simprocAttr, Int.natCast_add]) trivial
    ·obtain rfl : j = kids.length := by omega
     rw [List.take_length] at hp
     have hin : ∀ k ∈ kids, 0 ≤ k ∧ k < p.nodes.length := fun k hk' => by
      have := List.all_eq_true.1 hp k hk'
      simpa [Ba] using this
     clear hjl hj
     rcases kids with _ | ⟨k0, _ | ⟨k1, ks⟩⟩
     case cons.nil =>
      obtain ⟨g0, g1⟩ := hin k0 (by simp)
      have g2 : k0.toNat < p.nodes.length := by omega
      have e := KE p.nodes default g2
      rw [AL] at e
      rcases As with _ | ⟨q0, qs⟩ <;>
      (simp +contextual -dsimp (maxSteps := 2000000) only [↓SD, SU, simprocAttr, Aa, Nat.lt_irrefl, Bo, g0, g1, g2, e]
       (repeat' (first | intro _ | refine And.intro ?_ ?_))
       all_goals first | omega | skip
       all_goals first | (refine Ab _ (FA _ _ _ (by omega)) ?_; simp +contextual -dsimp (maxSteps := 2000000) only [↓SD, SU, simprocAttr, *, Aa]; (repeat' (first | intro _ | refine And.intro ?_ ?_))) | skip
       all_goals first | omega | (simp [Au, AP, BS, BK, AG, AE, *]; done) | (simp [Au, AP, BS, BK, AG, AE, *]; omega) | trace_state)
     all_goals
      rcases As with _ | ⟨q0, qs⟩ <;>
      (simp +contextual -dsimp (maxSteps := 2000000) only [↓SD, SU, simprocAttr, Aa, Nat.lt_irrefl, Bo]
       (repeat' (first | intro _ | refine And.intro ?_ ?_))
       all_goals first | omega | skip
       all_goals first | (refine Ab _ (FA _ _ _ (by omega)) ?_; simp +contextual -dsimp (maxSteps := 2000000) only [↓SD, SU, simprocAttr, *, Aa]; (repeat' (first | intro _ | refine And.intro ?_ ?_))) | skip
       all_goals first | omega | (simp [Au, AP, BS, BK, AG, AE, *]; done) | (simp [Au, AP, BS, BK, AG, AE, *]; omega) | trace_state)
   case inr.inr.inr.inr.inl =>
    obtain rfl : nn = 0 := p2 (by decide)
    clear p2 p3' p4'
    have hA : AJ 5 = 1 := rfl
    rw [hA] at CA
    clear hkk
    simp +contextual -dsimp (maxSteps := 2000000) only [↓SD, SU, simprocAttr, AM, AL, Aj, Aa, p1']
    refine Al (X := Nat) (fun j => ⟨[(2, .obj [.sl (p.types.map av), .sl (p.nodes.map av)]), (3, .obj [.int .i64 5, .int .i64 pos, .int .i64 0, .str s, .sl (kids.map av), .sl (As.map av)]), (44, .sl (kids.map av)), (45, .int .i64 kids.length), (46, .int .i64 j)], []⟩) (fun j => j ≤ kids.length ∧ (kids.take j).all (Ba p.nodes.length) = true) (fun j => kids.length - j) 0 ⟨Nat.zero_le _, rfl⟩ (by simp +contextual -dsimp only [↓SD, SU, simprocAttr]) trivial ?_
    rintro j ⟨hj, hp⟩
    by_cases hjl : j < kids.length
    ·have e := getD_map av kids j .top hjl
     have hno : Ba p.nodes.length kids[j] = false → Au p.nodes ⟨5, pos, 0, s, kids, As⟩ = false := fun h => by simp [Au, A6 _ hjl h]
     have hyes : Ba p.nodes.length kids[j] = true → (kids.take (j + 1)).all (Ba p.nodes.length) = true := fun h => by rw [A5 _ hjl hp]; exact h
     generalize kids[j] = x at *
     simp +contextual -dsimp (maxSteps := 2000000) only [↓SD, SU, simprocAttr, Aa, hjl, e, Bo]
     (repeat' (first | intro _ | refine And.intro ?_ ?_))
     all_goals first
      | omega
      | (rw [hno (by simp [Ba]; omega)]; done)
      | exact Af.le ⟨j + 1, ⟨⟨hjl, hyes (by simp [Ba]; omega)⟩, (by first | omega | (simp only; omega))⟩, rfl⟩ (by simp +contextual -dsimp only [↓SD, SU, simprocAttr, Int.natCast_add]) trivial
    ·obtain rfl : j = kids.length := by omega
     rw [List.take_length] at hp
     rcases As with _ | ⟨q0, qs⟩ <;>
     ((try simp only [List.length_cons] at hq)
      simp +contextual -dsimp (maxSteps := 2000000) only [↓SD, SU, simprocAttr, Aa, Nat.lt_irrefl, List.length_map]
      (repeat' (first | intro _ | refine And.intro ?_ ?_))
      all_goals first | omega | skip
      all_goals first | (refine Ab _ (AZ s (by omega)) ?_; simp +contextual -dsimp (maxSteps := 2000000) only [↓SD, SU, simprocAttr, *, Aa]; (repeat' (first | intro _ | refine And.intro ?_ ?_))) | (refine Ab _ (Ch s) ?_; simp +contextual -dsimp (maxSteps := 2000000) only [↓SD, SU, simprocAttr, *, Aa]; (repeat' (first | intro _ | refine And.intro ?_ ?_))) | skip
      all_goals first | omega | skip
      all_goals first | (refine Ab _ CA ?_; simp +contextual -dsimp (maxSteps := 2000000) only [↓SD, SU, simprocAttr, *, Aa]; (repeat' (first | intro _ | refine And.intro ?_ ?_))) | skip
      all_goals first | omega | (simp [Au, AP, BS, BK, AG, AE, *]; done) | (have kne : kids ≠ [] := (fun h => by subst h; simp at *); simp [Au, AP, hA, kne]; done) | (simp [Au, AP, BS, BK, AG, AE, *]; omega) | trace_state)
   case inr.inr.inr.inr.inr.inl =>
    obtain rfl : nn = 0 := p2 (by decide)
    clear p2 p3' p4'
    have hA : AJ 6 = 2 := rfl
    rw [hA] at CA
    clear hkk
    simp +contextual -dsimp (maxSteps := 2000000) only [↓SD, SU, simprocAttr, AM, AL, Aj, Aa, p1']
    refine Al (X := Nat) (fun j => ⟨[(2, .obj [.sl (p.types.map av), .sl (p.nodes.map av)]), (3, .obj [.int .i64 6, .int .i64 pos, .int .i64 0, .str s, .sl (kids.map av), .sl (As.map av)]), (44, .sl (kids.map av)), (45, .int .i64 kids.length), (46, .int .i64 j)], []⟩) (fun j => j ≤ kids.length ∧ (kids.take j).all (Ba p.nodes.length) = true) (fun j => kids.length - j) 0 ⟨Nat.zero_le _, rfl⟩ (by simp +contextual -dsimp only [↓SD, SU, simprocAttr]) trivial ?_
    rintro j ⟨hj, hp⟩
    by_cases hjl : j < kids.length
    ·have e := getD_map av kids j .top hjl
     have hno : Ba p.nodes.length kids[j] = false → Au p.nodes ⟨6, pos, 0, s, kids, As⟩ = false := fun h => by simp [Au, A6 _ hjl h]
     have hyes : Ba p.nodes.length kids[j] = true → (kids.take (j + 1)).all (Ba p.nodes.length) = true := fun h => by rw [A5 _ hjl hp]; exact h
     generalize kids[j] = x at *
     simp +contextual -dsimp (maxSteps := 2000000) only [↓SD, SU, simprocAttr, Aa, hjl, e, Bo]
     (repeat' (first | intro _ | refine And.intro ?_ ?_))
     all_goals first
      | omega
      | (rw [hno (by simp [Ba]; omega)]; done)
      | exact Af.le ⟨j + 1, ⟨⟨hjl, hyes (by simp [Ba]; omega)⟩, (by first | omega | (simp only; omega))⟩, rfl⟩ (by simp +contextual -dsimp only [↓SD, SU, simprocAttr, Int.natCast_add]) trivial
    ·obtain rfl : j = kids.length := by omega
     rw [List.take_length] at hp
     rcases As with _ | ⟨q0, qs⟩ <;>
     ((try simp only [List.length_cons] at hq)
      simp +contextual -dsimp (maxSteps := 2000000) only [↓SD, SU, simprocAttr, Aa, Nat.lt_irrefl, List.length_map]
      (repeat' (first | intro _ | refine And.intro ?_ ?_))
      all_goals first | omega | skip
      all_goals first | (refine Ab _ (AZ s (by omega)) ?_; simp +contextual -dsimp (maxSteps := 2000000) only [↓SD, SU, simprocAttr, *, Aa]; (repeat' (first | intro _ | refine And.intro ?_ ?_))) | (refine Ab _ (Ch s) ?_; simp +contextual -dsimp (maxSteps := 2000000) only [↓SD, SU, simprocAttr, *, Aa]; (repeat' (first | intro _ | refine And.intro ?_ ?_))) | skip
      all_goals first | omega | skip
      all_goals first | (refine Ab _ CA ?_; simp +contextual -dsimp (maxSteps := 2000000) only [↓SD, SU, simprocAttr, *, Aa]; (repeat' (first | intro _ | refine And.intro ?_ ?_))) | skip
      all_goals first | omega | (simp [Au, AP, BS, BK, AG, AE, *]; done) | (have kne : kids ≠ [] := (fun h => by subst h; simp at *); simp [Au, AP, hA, kne]; done) | (simp [Au, AP, BS, BK, AG, AE, *]; omega) | trace_state)
   case inr.inr.inr.inr.inr.inr.inl =>
    obtain rfl : nn = 0 := p2 (by decide)
    clear p2 p3' p4'
    have hA : AJ 7 = 2 := rfl
    rw [hA] at CA
    clear hkk
    simp +contextual -dsimp (maxSteps := 2000000) only [↓SD, SU, simprocAttr, AM, AL, Aj, Aa, p1']
    refine Al (X := Nat) (fun j => ⟨[(2, .obj [.sl (p.types.map av), .sl (p.nodes.map av)]), (3, .obj [.int .i64 7, .int .i64 pos, .int .i64 0, .str s, .sl (kids.map av), .sl (As.map av)]), (44, .sl (kids.map av)), (45, .int .i64 kids.length), (46, .int .i64 j)], []⟩) (fun j => j ≤ kids.length ∧ (kids.take j).all (Ba p.nodes.length) = true) (fun j => kids.length - j) 0 ⟨Nat.zero_le _, rfl⟩ (by simp +contextual -dsimp only [↓SD, SU, simprocAttr]) trivial ?_
    rintro j ⟨hj, hp⟩
    by_cases hjl : j < kids.length
    ·have e := getD_map av kids j .top hjl
     have hno : Ba p.nodes.length kids[j] = false → Au p.nodes ⟨7, pos, 0, s, kids, As⟩ = false := fun h => by simp [Au, A6 _ hjl h]
     have hyes : Ba p.nodes.length kids[j] = true → (kids.take (j + 1)).all (Ba p.nodes.length) = true := fun h => by rw [A5 _ hjl hp]; exact h
     generalize kids[j] = x at *
     simp +contextual -dsimp (maxSteps := 2000000) only [↓SD, SU, simprocAttr, Aa, hjl, e, Bo]
     (repeat' (first | intro _ | refine And.intro ?_ ?_))
     all_goals first
      | omega
      | (rw [hno (by simp [Ba]; omega)]; done)
      | exact Af.le ⟨j + 1, ⟨⟨hjl, hyes (by simp [Ba]; omega)⟩, (by first | omega | (simp only; omega))⟩, rfl⟩ (by simp +contextual -dsimp only [↓SD, SU, simprocAttr, Int.natCast_add]) trivial
    ·obtain rfl : j = kids.length := by omega
     rw [List.take_length] at hp
     rcases As with _ | ⟨q0, qs⟩ <;>
     ((try simp only [List.length_cons] at hq)
      simp +contextual -dsimp (maxSteps := 2000000) only [↓SD, SU, simprocAttr, Aa, Nat.lt_irrefl, List.length_map]
      (repeat' (first | intro _ | refine And.intro ?_ ?_))
      all_goals first | omega | skip
      all_goals first | (refine Ab _ (AZ s (by omega)) ?_; simp +contextual -dsimp (maxSteps := 2000000) only [↓SD, SU, simprocAttr, *, Aa]; (repeat' (first | intro _ | refine And.intro ?_ ?_))) | (refine Ab _ (Ch s) ?_; simp +contextual -dsimp (maxSteps := 2000000) only [↓SD, SU, simprocAttr, *, Aa]; (repeat' (first | intro _ | refine And.intro ?_ ?_))) | skip
      all_goals first | omega | skip
      all_goals first | (refine Ab _ CA ?_; simp +contextual -dsimp (maxSteps := 2000000) only [↓SD, SU, simprocAttr, *, Aa]; (repeat' (first | intro _ | refine And.intro ?_ ?_))) | skip
      all_goals first | omega | (simp [Au, AP, BS, BK, AG, AE, *]; done) | (have kne : kids ≠ [] := (fun h => by subst h; simp at *); simp [Au, AP, hA, kne]; done) | (simp [Au, AP, BS, BK, AG, AE, *]; omega) | trace_state)
   case inr.inr.inr.inr.inr.inr.inr.inl =>
    obtain rfl : nn = 0 := p2 (by decide)
    clear p2 p3' p4'
    have hA : AJ 8 = 2 := rfl
    rw [hA] at CA
    clear hkk
    simp +contextual -dsimp (maxSteps := 2000000) only [↓SD, SU, simprocAttr, AM, AL, Aj, Aa, p1']
    refine Al (X := Nat) (fun j => ⟨[(2, .obj [.sl (p.types.map av), .sl (p.nodes.map av)]), (3, .obj [.int .i64 8, .int .i64 pos, .int .i64 0, .str s, .sl (kids.map av), .sl (As.map av)]), (44, .sl (kids.map av)), (45, .int .i64 kids.length), (46, .int .i64 j)], []⟩) (fun j => j ≤ kids.length ∧ (kids.take j).all (Ba p.nodes.length) = true) (fun j => kids.length - j) 0 ⟨Nat.zero_le _, rfl⟩ (by simp +contextual -dsimp only [↓SD, SU, simprocAttr]) trivial ?_
    rintro j ⟨hj, hp⟩
    by_cases hjl : j < kids.length
    ·have e := getD_map av kids j .top hjl
     have hno : Ba p.nodes.length kids[j] = false → Au p.nodes ⟨8, pos, 0, s, kids, As⟩ = false := fun h => by simp [Au, A6 _ hjl h]
     have hyes : Ba p.nodes.length kids[j] = true → (kids.take (j + 1)).all (Ba p.nodes.length) = true := fun h => by rw [A5 _ hjl hp]; exact h
     generalize kids[j] = x at *
     simp +contextual -dsimp (maxSteps := 2000000) only [↓SD, SU, simprocAttr, Aa, hjl, e, Bo]
     (repeat' (first | intro _ | refine And.intro ?_ ?_))
     all_goals first
      | omega
      | (rw [hno (by simp [Ba]; omega)]; done)
      | exact Af.le ⟨j + 1, ⟨⟨hjl, hyes (by simp [Ba]; omega)⟩, (by first | omega | (simp only; omega))⟩, rfl⟩ (by simp +contextual -dsimp only [↓SD, SU, simprocAttr, Int.natCast_add]) trivial
    ·obtain rfl : j = kids.length := by omega
     rw [List.take_length] at hp
     have hin : ∀ k ∈ kids, 0 ≤ k ∧ k < p.nodes.length := fun k hk' => by
      have := List.all_eq_true.1 hp k hk'
      simpa [Ba] using this
     clear hjl hj
     have CN := AZ s (by omega)
     cases hb : F0 s <;> rw [hb] at CN <;>
     rcases kids with _ | ⟨k0, _ | ⟨k1, _ | ⟨k2, ks⟩⟩⟩
     case false.cons.cons.nil | true.cons.cons.nil =>
      obtain ⟨g0, g1⟩ := hin k0 (by simp)
      have g2 : k0.toNat < p.nodes.length := by omega
      have e := KE p.nodes default g2
      rw [AL] at e
      have hf : AE p.nodes [k0, k1] 5 = decide ((p.nodes.getD k0.toNat default).kind = 5) := by
       simp [AE, g0, g1]
      generalize p.nodes.getD k0.toNat default = Z at *
      rcases As with _ | ⟨q0, qs⟩ <;>
      (simp +contextual -dsimp (maxSteps := 2000000) only [↓SD, SU, simprocAttr, Aa, Nat.lt_irrefl, Bo, g0, g1, g2, e]
       refine Ab _ CN ?_
       simp +contextual -dsimp (maxSteps := 2000000) only [↓SD, SU, simprocAttr, Aa, Nat.lt_irrefl, Bo, g0, g1, g2, e]
       (repeat' (first | intro _ | refine And.intro ?_ ?_))
       all_goals first | omega | skip
       all_goals first | (refine Ab _ CA ?_; simp +contextual -dsimp (maxSteps := 2000000) only [↓SD, SU, simprocAttr, *, Aa]; (repeat' (first | intro _ | refine And.intro ?_ ?_))) | skip
       all_goals first | omega | (simp [Au, AP, BS, BK, *]; done) | (simp [Au, AP, BS, BK, AG, AE, *]; omega) | trace_state)
     case false.cons.cons.cons | true.cons.cons.cons =>
      have q2 : ¬ ((ks.length + 1 + 1 + 1 : Nat) : Int) = 2 := by omega
      rcases As with _ | ⟨q0, qs⟩ <;>
      (simp +contextual -dsimp (maxSteps := 2000000) only [↓SD, SU, simprocAttr, Aa, Nat.lt_irrefl, Bo, q2]
       refine Ab _ CN ?_
       simp +contextual -dsimp (maxSteps := 2000000) only [↓SD, SU, simprocAttr, Aa, Nat.lt_irrefl, Bo, q2]
       (repeat' (first | intro _ | refine And.intro ?_ ?_))
       all_goals first | omega | skip
       all_goals first | (refine Ab _ CA ?_; simp +contextual -dsimp (maxSteps := 2000000) only [↓SD, SU, simprocAttr, *, Aa]; (repeat' (first | intro _ | refine And.intro ?_ ?_))) | skip
       all_goals first | omega | (simp [Au, AP, BS, BK, AG, AE, *]; done) | (simp [Au, AP, BS, BK, AG, AE, *]; omega) | trace_state)
     all_goals
      rcases As with _ | ⟨q0, qs⟩ <;>
      (simp +contextual -dsimp (maxSteps := 2000000) only [↓SD, SU, simprocAttr, Aa, Nat.lt_irrefl, Bo]
       refine Ab _ CN ?_
       simp +contextual -dsimp (maxSteps := 2000000) only [↓SD, SU, simprocAttr, Aa, Nat.lt_irrefl, Bo]
       (repeat' (first | intro _ | refine And.intro ?_ ?_))
       all_goals first | omega | skip
       all_goals first | (refine Ab _ CA ?_; simp +contextual -dsimp (maxSteps := 2000000) only [↓SD, SU, simprocAttr, *, Aa]; (repeat' (first | intro _ | refine And.intro ?_ ?_))) | skip
       all_goals first | omega | (simp [Au, AP, BS, BK, AG, AE, *]; done) | (simp [Au, AP, BS, BK, AG, AE, *]; omega) | trace_state)
   case inr.inr.inr.inr.inr.inr.inr.inr.inl =>
    obtain rfl : nn = 0 := p2 (by decide)
    clear p2 p3' p4'
    have hA : AJ 9 = 3 := rfl
    rw [hA] at CA
    clear hkk
    simp +contextual -dsimp (maxSteps := 2000000) only [↓SD, SU, simprocAttr, AM, AL, Aj, Aa, p1']
    refine Al (X := Nat) (fun j => ⟨[(2, .obj [.sl (p.types.map av), .sl (p.nodes.map av)]), (3, .obj [.int .i64 9, .int .i64 pos, .int .i64 0, .str s, .sl (kids.map av), .sl (As.map av)]), (44, .sl (kids.map av)), (45, .int .i64 kids.length), (46, .int .i64 j)], []⟩) (fun j => j ≤ kids.length ∧ (kids.take j).all (Ba p.nodes.length) = true) (fun j => kids.length - j) 0 ⟨Nat.zero_le _, rfl⟩ (by simp +contextual -dsimp only [↓SD, SU, simprocAttr]) trivial ?_
    rintro j ⟨hj, hp⟩
    by_cases hjl : j < kids.length
    ·have e := getD_map av kids j .top hjl
     have hno : Ba p.nodes.length kids[j] = false → Au p.nodes ⟨9, pos, 0, s, kids, As⟩ = false := fun h => by simp [Au, A6 _ hjl h]
     have hyes : Ba p.nodes.length kids[j] = true → (kids.take (j + 1)).all (Ba p.nodes.length) = true := fun h => by rw [A5 _ hjl hp]; exact h
     generalize kids[j] = x at *
     simp +contextual -dsimp (maxSteps := 2000000) only [↓SD, SU, simprocAttr, Aa, hjl, e, Bo]
     (repeat' (first | intro _ | refine And.intro ?_ ?_))
     all_goals first
      | omega
      | (rw [hno (by simp [Ba]; omega)]; done)
      | exact Af.le ⟨j + 1, ⟨⟨hjl, hyes (by simp [Ba]; omega)⟩, (by first | omega | (simp only; omega))⟩, rfl⟩ (by simp +contextual -dsimp only [↓SD, SU, simprocAttr, Int.natCast_add]) trivial
    ·obtain rfl : j = kids.length := by omega
     rw [List.take_length] at hp
     rcases As with _ | ⟨q0, qs⟩ <;>
     ((try simp only [List.length_cons] at hq)
      simp +contextual -dsimp (maxSteps := 2000000) only [↓SD, SU, simprocAttr, Aa, Nat.lt_irrefl, List.length_map]
      (repeat' (first | intro _ | refine And.intro ?_ ?_))
      all_goals first | omega | skip
      all_goals first | (refine Ab _ (AZ s (by omega)) ?_; simp +contextual -dsimp (maxSteps := 2000000) only [↓SD, SU, simprocAttr, *, Aa]; (repeat' (first | intro _ | refine And.intro ?_ ?_))) | (refine Ab _ (Ch s) ?_; simp +contextual -dsimp (maxSteps := 2000000) only [↓SD, SU, simprocAttr, *, Aa]; (repeat' (first | intro _ | refine And.intro ?_ ?_))) | skip
      all_goals first | omega | skip
      all_goals first | (refine Ab _ CA ?_; simp +contextual -dsimp (maxSteps := 2000000) only [↓SD, SU, simprocAttr, *, Aa]; (repeat' (first | intro _ | refine And.intro ?_ ?_))) | skip
      all_goals first | omega | (simp [Au, AP, BS, BK, AG, AE, *]; done) | (have kne : kids ≠ [] := (fun h => by subst h; simp at *); simp [Au, AP, hA, kne]; done) | (simp [Au, AP, BS, BK, AG, AE, *]; omega) | trace_state)
   case inr.inr.inr.inr.inr.inr.inr.inr.inr.inl =>
    obtain rfl : nn = 0 := p2 (by decide)
    clear p2 p3' p4'
    have hA : AJ 10 = 2 := rfl
    rw [hA] at CA
    clear hkk
    simp +contextual -dsimp (maxSteps := 2000000) only [↓SD, SU, simprocAttr, AM, AL, Aj, Aa, p1']
    refine Al (X := Nat) (fun j => ⟨[(2, .obj [.sl (p.types.map av), .sl (p.nodes.map av)]), (3, .obj [.int .i64 10, .int .i64 pos, .int .i64 0, .str s, .sl (kids.map av), .sl (As.map av)]), (44, .sl (kids.map av)), (45, .int .i64 kids.length), (46, .int .i64 j)], []⟩) (fun j => j ≤ kids.length ∧ (kids.take j).all (Ba p.nodes.length) = true) (fun j => kids.length - j) 0 ⟨Nat.zero_le _, rfl⟩ (by simp +contextual -dsimp only [↓SD, SU, simprocAttr]) trivial ?_
    rintro j ⟨hj, hp⟩
    by_cases hjl : j < kids.length
    ·have e := getD_map av kids j .top hjl
     have hno : Ba p.nodes.length kids[j] = false → Au p.nodes ⟨10, pos, 0, s, kids, As⟩ = false := fun h => by simp [Au, A6 _ hjl h]
     have hyes : Ba p.nodes.length kids[j] = true → (kids.take (j + 1)).all (Ba p.nodes.length) = true := fun h => by rw [A5 _ hjl hp]; exact h
     generalize kids[j] = x at *
     simp +contextual -dsimp (maxSteps := 2000000) only [↓SD, SU, simprocAttr, Aa, hjl, e, Bo]
     (repeat' (first | intro _ | refine And.intro ?_ ?_))
     all_goals first
      | omega
      | (rw [hno (by simp [Ba]; omega)]; done)
      | exact Af.le ⟨j + 1, ⟨⟨hjl, hyes (by simp [Ba]; omega)⟩, (by first | omega | (simp only; omega))⟩, rfl⟩ (by simp +contextual -dsimp only [↓SD, SU, simprocAttr, Int.natCast_add]) trivial
    ·obtain rfl : j = kids.length := by omega
     rw [List.take_length] at hp
     rcases As with _ | ⟨q0, qs⟩ <;>
     ((try simp only [List.length_cons] at hq)
      simp +contextual -dsimp (maxSteps := 2000000) only [↓SD, SU, simprocAttr, Aa, Nat.lt_irrefl, List.length_map]
      (repeat' (first | intro _ | refine And.intro ?_ ?_))
      all_goals first | omega | skip
      all_goals first | (refine Ab _ (AZ s (by omega)) ?_; simp +contextual -dsimp (maxSteps := 2000000) only [↓SD, SU, simprocAttr, *, Aa]; (repeat' (first | intro _ | refine And.intro ?_ ?_))) | (refine Ab _ (Ch s) ?_; simp +contextual -dsimp (maxSteps := 2000000) only [↓SD, SU, simprocAttr, *, Aa]; (repeat' (first | intro _ | refine And.intro ?_ ?_))) | skip
      all_goals first | omega | skip
      all_goals first | (refine Ab _ CA ?_; simp +contextual -dsimp (maxSteps := 2000000) only [↓SD, SU, simprocAttr, *, Aa]; (repeat' (first | intro _ | refine And.intro ?_ ?_))) | skip
      all_goals first | omega | (simp [Au, AP, BS, BK, AG, AE, *]; done) | (have kne : kids ≠ [] := (fun h => by subst h; simp at *); simp [Au, AP, hA, kne]; done) | (simp [Au, AP, BS, BK, AG, AE, *]; omega) | trace_state)
   case inr.inr.inr.inr.inr.inr.inr.inr.inr.inr.inl =>
    obtain rfl : nn = 0 := p2 (by decide)
    clear p2 p3' p4'
    have hA : AJ 11 = 2 := rfl
    rw [hA] at CA
    clear hkk
    simp +contextual -dsimp (maxSteps := 2000000) only [↓SD, SU, simprocAttr, AM, AL, Aj, Aa, p1']
    refine Al (X := Nat) (fun j => ⟨[(2, .obj [.sl (p.types.map av), .sl (p.nodes.map av)]), (3, .obj [.int .i64 11, .int .i64 pos, .int .i64 0, .str s, .sl (kids.map av), .sl (As.map av)]), (44, .sl (kids.map av)), (45, .int .i64 kids.length), (46, .int .i64 j)], []⟩) (fun j => j ≤ kids.length ∧ (kids.take j).all (Ba p.nodes.length) = true) (fun j => kids.length - j) 0 ⟨Nat.zero_le _, rfl⟩ (by simp +contextual -dsimp only [↓SD, SU, simprocAttr]) trivial ?_
    rintro j ⟨hj, hp⟩
    by_cases hjl : j < kids.length
    ·have e := getD_map av kids j .top hjl
     have hno : Ba p.nodes.length kids[j] = false → Au p.nodes ⟨11, pos, 0, s, kids, As⟩ = false := fun h => by simp [Au, A6 _ hjl h]
     have hyes : Ba p.nodes.length kids[j] = true → (kids.take (j + 1)).all (Ba p.nodes.length) = true := fun h => by rw [A5 _ hjl hp]; exact h
     generalize kids[j] = x at *
     simp +contextual -dsimp (maxSteps := 2000000) only [↓SD, SU, simprocAttr, Aa, hjl, e, Bo]
     (repeat' (first | intro _ | refine And.intro ?_ ?_))
     all_goals first
      | omega
      | (rw [hno (by simp [Ba]; omega)]; done)
      | exact Af.le ⟨j + 1, ⟨⟨hjl, hyes (by simp [Ba]; omega)⟩, (by first | omega | (simp only; omega))⟩, rfl⟩ (by simp +contextual -dsimp only [↓SD, SU, simprocAttr, Int.natCast_add]) trivial
    ·obtain rfl : j = kids.length := by omega
     rw [List.take_length] at hp
     rcases As with _ | ⟨q0, qs⟩ <;>
     ((try simp only [List.length_cons] at hq)
      simp +contextual -dsimp (maxSteps := 2000000) only [↓SD, SU, simprocAttr, Aa, Nat.lt_irrefl, List.length_map]
      (repeat' (first | intro _ | refine And.intro ?_ ?_))
      all_goals first | omega | skip
      all_goals first | (refine Ab _ (AZ s (by omega)) ?_; simp +contextual -dsimp (maxSteps := 2000000) only [↓SD, SU, simprocAttr, *, Aa]; (repeat' (first | intro _ | refine And.intro ?_ ?_))) | (refine Ab _ (Ch s) ?_; simp +contextual -dsimp (maxSteps := 2000000) only [↓SD, SU, simprocAttr, *, Aa]; (repeat' (first | intro _ | refine And.intro ?_ ?_))) | skip
      all_goals first | omega | skip
      all_goals first | (refine Ab _ CA ?_; simp +contextual -dsimp (maxSteps := 2000000) only [↓SD, SU, simprocAttr, *, Aa]; (repeat' (first | intro _ | refine And.intro ?_ ?_))) | skip
      all_goals first | omega | (simp [Au, AP, BS, BK, AG, AE, *]; done) | (have kne : kids ≠ [] := (fun h => by subst h; simp at *); simp [Au, AP, hA, kne]; done) | (simp [Au, AP, BS, BK, AG, AE, *]; omega) | trace_state)
   case inr.inr.inr.inr.inr.inr.inr.inr.inr.inr.inr.inl =>
    obtain rfl : nn = 0 := p2 (by decide)
    clear p2 p3' p4'
    have hA : AJ 12 = 0 := rfl
    rw [hA] at CA
    clear hkk
    simp +contextual -dsimp (maxSteps := 2000000) only [↓SD, SU, simprocAttr, AM, AL, Aj, Aa, p1']
    refine Al (X := Nat) (fun j => ⟨[(2, .obj [.sl (p.types.map av), .sl (p.nodes.map av)]), (3, .obj [.int .i64 12, .int .i64 pos, .int .i64 0, .str s, .sl (kids.map av), .sl (As.map av)]), (44, .sl (kids.map av)), (45, .int .i64 kids.length), (46, .int .i64 j)], []⟩) (fun j => j ≤ kids.length ∧ (kids.take j).all (Ba p.nodes.length) = true) (fun j => kids.length - j) 0 ⟨Nat.zero_le _, rfl⟩ (by simp +contextual -dsimp only [↓SD, SU, simprocAttr]) trivial ?_
    rintro j ⟨hj, hp⟩
    by_cases hjl : j < kids.length
    ·have e := getD_map av kids j .top hjl
     have hno : Ba p.nodes.length kids[j] = false → Au p.nodes ⟨12, pos, 0, s, kids, As⟩ = false := fun h => by simp [Au, A6 _ hjl h]
     have hyes : Ba p.nodes.length kids[j] = true → (kids.take (j + 1)).all (Ba p.nodes.length) = true := fun h => by rw [A5 _ hjl hp]; exact h
     generalize kids[j] = x at *
     simp +contextual -dsimp (maxSteps := 2000000) only [↓SD, SU, simprocAttr, Aa, hjl, e, Bo]
     (repeat' (first | intro _ | refine And.intro ?_ ?_))
     all_goals first
      | omega
      | (rw [hno (by simp [Ba]; omega)]; done)
      | exact Af.le ⟨j + 1, ⟨⟨hjl, hyes (by simp [Ba]; omega)⟩, (by first | omega | (simp only; omega))⟩, rfl⟩ (by simp +contextual -dsimp only [↓SD, SU, simprocAttr, Int.natCast_add]) trivial
    ·obtain rfl : j = kids.length := by omega
     rw [List.take_length] at hp
     rcases As with _ | ⟨q0, qs⟩ <;>
     ((try simp only [List.length_cons] at hq)
      simp +contextual -dsimp (maxSteps := 2000000) only [↓SD, SU, simprocAttr, Aa, Nat.lt_irrefl, List.length_map]
      (repeat' (first | intro _ | refine And.intro ?_ ?_))
      all_goals first | omega | skip
      all_goals first | (refine Ab _ (AZ s (by omega)) ?_; simp +contextual -dsimp (maxSteps := 2000000) only [↓SD, SU, simprocAttr, *, Aa]; (repeat' (first | intro _ | refine And.intro ?_ ?_))) | (refine Ab _ (Ch s) ?_; simp +contextual -dsimp (maxSteps := 2000000) only [↓SD, SU, simprocAttr, *, Aa]; (repeat' (first | intro _ | refine And.intro ?_ ?_))) | skip
      all_goals first | omega | skip
      all_goals first | (refine Ab _ CA ?_; simp +contextual -dsimp (maxSteps := 2000000) only [↓SD, SU, simprocAttr, *, Aa]; (repeat' (first | intro _ | refine And.intro ?_ ?_))) | skip
      all_goals first | omega | (simp [Au, AP, BS, BK, AG, AE, *]; done) | (have kne : kids ≠ [] := (fun h => by subst h; simp at *); simp [Au, AP, hA, kne]; done) | (simp [Au, AP, BS, BK, AG, AE, *]; omega) | trace_state)
   case inr.inr.inr.inr.inr.inr.inr.inr.inr.inr.inr.inr.inl =>
    obtain rfl : nn = 0 := p2 (by decide)
    clear p2 p3' p4'
    have hA : AJ 13 = -1 := rfl
    rw [hA] at CA
    clear hkk
    simp +contextual -dsimp (maxSteps := 2000000) only [↓SD, SU, simprocAttr, AM, AL, Aj, Aa, p1']
    refine Al (X := Nat) (fun j => ⟨[(2, .obj [.sl (p.types.map av), .sl (p.nodes.map av)]), (3, .obj [.int .i64 13, .int .i64 pos, .int .i64 0, .str s, .sl (kids.map av), .sl (As.map av)]), (44, .sl (kids.map av)), (45, .int .i64 kids.length), (46, .int .i64 j)], []⟩) (fun j => j ≤ kids.length ∧ (kids.take j).all (Ba p.nodes.length) = true) (fun j => kids.length - j) 0 ⟨Nat.zero_le _, rfl⟩ (by simp +contextual -dsimp only [↓SD, SU, simprocAttr]) trivial ?_
    rintro j ⟨hj, hp⟩
    by_cases hjl : j < kids.length
    ·have e := getD_map av kids j .top hjl
     have hno : Ba p.nodes.length kids[j] = false → Au p.nodes ⟨13, pos, 0, s, kids, As⟩ = false := fun h => by simp [Au, A6 _ hjl h]
     have hyes : Ba p.nodes.length kids[j] = true → (kids.take (j + 1)).all (Ba p.nodes.length) = true := fun h => by rw [A5 _ hjl hp]; exact h
     generalize kids[j] = x at *
     simp +contextual -dsimp (maxSteps := 2000000) only [↓SD, SU, simprocAttr, Aa, hjl, e, Bo]
     (repeat' (first | intro _ | refine And.intro ?_ ?_))
     all_goals first
      | omega
      | (rw [hno (by simp [Ba]; omega)]; done)
      | exact Af.le ⟨j + 1, ⟨⟨hjl, hyes (by simp [Ba]; omega)⟩, (by first | omega | (simp only; omega))⟩, rfl⟩ (by simp +contextual -dsimp only [↓SD, SU, simprocAttr, Int.natCast_add]) trivial
    ·obtain rfl : j = kids.length := by omega
     rw [List.take_length] at hp
     by_cases hse : s = bs []
     ·subst hse
      simp +contextual -dsimp (maxSteps := 2000000) only [↓SD, SU, simprocAttr, Aa, Nat.lt_irrefl]
      refine Al (X := Nat) (fun j => ⟨[(3, .obj [.int .i64 13, .int .i64 pos, .int .i64 0, .str (bs []), .sl (kids.map av), .sl (As.map av)]), (158, .sl (As.map av)), (159, .int .i64 As.length), (160, .int .i64 j)], []⟩) (fun j => j ≤ As.length ∧ (As.take j).all (fun q => Ft q.nodes) = true) (fun j => As.length - j) 0 ⟨Nat.zero_le _, rfl⟩ (by simp +contextual -dsimp only [↓SD, SU, simprocAttr]) trivial ?_
      rintro i ⟨hi, hq2⟩
      by_cases hil : i < As.length
      ·have e := getD_map av As i .top hil
       have CP := R4 As[i].nodes (QS hqb (List.getElem_mem hil))
       have hno : Ft As[i].nodes = false → Au p.nodes ⟨13, pos, 0, bs [], kids, As⟩ = false := fun h => by
        have : BS ⟨13, pos, 0, bs [], kids, As⟩ = false := A6 (fun q : Pat => Ft q.nodes) hil h
        simp [Au, this]
       have hyes : Ft As[i].nodes = true → (As.take (i + 1)).all (fun q => Ft q.nodes) = true := fun h => by rw [A5 _ hil hq2]; exact h
       generalize As[i] = q at *
       simp +contextual -dsimp (maxSteps := 2000000) only [↓SD, SU, simprocAttr, Aa, hil, e, C9]
       intro v
       refine Ab _ CP ?_
       simp +contextual -dsimp (maxSteps := 2000000) only [↓SD, SU, simprocAttr]
       refine ⟨fun h => by rw [hno h], fun h => ⟨by omega, Af.le ⟨i + 1, ⟨⟨hil, hyes h⟩, (by first | omega | (simp only; omega))⟩, rfl⟩ (by simp +contextual -dsimp only [↓SD, SU, simprocAttr, Int.natCast_add]) trivial⟩⟩
      ·obtain rfl : i = As.length := by omega
       rw [List.take_length] at hq2
       have hpb : BS ⟨13, pos, 0, bs [], kids, As⟩ = true := hq2
       have hres : Au p.nodes ⟨13, pos, 0, bs [], kids, As⟩ = (decide (1 ≤ (As.length : Int)) && decide ((kids.length : Int) = As.length + 1)) := by
        unfold Au
        rw [hp, hpb]
        simp [AP, hA, p1]
       rw [hres]
       simp +contextual -dsimp (maxSteps := 2000000) only [↓SD, SU, simprocAttr, Aa, Nat.lt_irrefl]
       (repeat' (first | intro _ | refine And.intro ?_ ?_))
       all_goals first | omega | skip
       ·congr 1
        rw [Bool.eq_iff_iff]
        simp only [Bool.and_eq_true, decide_eq_true_eq]
        omega
       ·congr 1
        symm
        rw [Bool.and_eq_false_iff, decide_eq_false_iff_not, decide_eq_false_iff_not]
        omega
     ·simp +contextual -dsimp (maxSteps := 2000000) only [↓SD, SU, simprocAttr, Aa, Nat.lt_irrefl, hse]
      simp [Au, AP, hA, hse]
   case inr.inr.inr.inr.inr.inr.inr.inr.inr.inr.inr.inr.inr.inl =>
    obtain rfl : nn = 0 := p2 (by decide)
    clear p2 p3' p4'
    have hA : AJ 14 = 1 := rfl
    rw [hA] at CA
    clear hkk
    simp +contextual -dsimp (maxSteps := 2000000) only [↓SD, SU, simprocAttr, AM, AL, Aj, Aa, p1']
    refine Al (X := Nat) (fun j => ⟨[(2, .obj [.sl (p.types.map av), .sl (p.nodes.map av)]), (3, .obj [.int .i64 14, .int .i64 pos, .int .i64 0, .str s, .sl (kids.map av), .sl (As.map av)]), (44, .sl (kids.map av)), (45, .int .i64 kids.length), (46, .int .i64 j)], []⟩) (fun j => j ≤ kids.length ∧ (kids.take j).all (Ba p.nodes.length) = true) (fun j => kids.length - j) 0 ⟨Nat.zero_le _, rfl⟩ (by simp +contextual -dsimp only [↓SD, SU, simprocAttr]) trivial ?_
    rintro j ⟨hj, hp⟩
    by_cases hjl : j < kids.length
    ·have e := getD_map av kids j .top hjl
     have hno : Ba p.nodes.length kids[j] = false → Au p.nodes ⟨14, pos, 0, s, kids, As⟩ = false := fun h => by simp [Au, A6 _ hjl h]
     have hyes : Ba p.nodes.length kids[j] = true → (kids.take (j + 1)).all (Ba p.nodes.length) = true := fun h => by rw [A5 _ hjl hp]; exact h
     generalize kids[j] = x at *
     simp +contextual -dsimp (maxSteps := 2000000) only [↓SD, SU, simprocAttr, Aa, hjl, e, Bo]
     (repeat' (first | intro _ | refine And.intro ?_ ?_))
     all_goals first
      | omega
      | (rw [hno (by simp [Ba]; omega)]; done)
      | exact Af.le ⟨j + 1, ⟨⟨hjl, hyes (by simp [Ba]; omega)⟩, (by first | omega | (simp only; omega))⟩, rfl⟩ (by simp +contextual -dsimp only [↓SD, SU, simprocAttr, Int.natCast_add]) trivial
    ·obtain rfl : j = kids.length := by omega
     rw [List.take_length] at hp
     rcases As with _ | ⟨q0, qs⟩ <;>
     ((try simp only [List.length_cons] at hq)
      simp +contextual -dsimp (maxSteps := 2000000) only [↓SD, SU, simprocAttr, Aa, Nat.lt_irrefl, List.length_map]
      (repeat' (first | intro _ | refine And.intro ?_ ?_))
      all_goals first | omega | skip
      all_goals first | (refine Ab _ (AZ s (by omega)) ?_; simp +contextual -dsimp (maxSteps := 2000000) only [↓SD, SU, simprocAttr, *, Aa]; (repeat' (first | intro _ | refine And.intro ?_ ?_))) | (refine Ab _ (Ch s) ?_; simp +contextual -dsimp (maxSteps := 2000000) only [↓SD, SU, simprocAttr, *, Aa]; (repeat' (first | intro _ | refine And.intro ?_ ?_))) | skip
      all_goals first | omega | skip
      all_goals first | (refine Ab _ CA ?_; simp +contextual -dsimp (maxSteps := 2000000) only [↓SD, SU, simprocAttr, *, Aa]; (repeat' (first | intro _ | refine And.intro ?_ ?_))) | skip
      all_goals first | omega | (simp [Au, AP, BS, BK, AG, AE, *]; done) | (have kne : kids ≠ [] := (fun h => by subst h; simp at *); simp [Au, AP, hA, kne]; done) | (simp [Au, AP, BS, BK, AG, AE, *]; omega) | trace_state)
   case inr.inr.inr.inr.inr.inr.inr.inr.inr.inr.inr.inr.inr.inr.inl =>
    obtain rfl : nn = 0 := p2 (by decide)
    clear p2 p3' p4'
    have hA : AJ 15 = 2 := rfl
    rw [hA] at CA
    clear hkk
    simp +contextual -dsimp (maxSteps := 2000000) only [↓SD, SU, simprocAttr, AM, AL, Aj, Aa, p1']
    refine Al (X := Nat) (fun j => ⟨[(2, .obj [.sl (p.types.map av), .sl (p.nodes.map av)]), (3, .obj [.int .i64 15, .int .i64 pos, .int .i64 0, .str s, .sl (kids.map av), .sl (As.map av)]), (44, .sl (kids.map av)), (45, .int .i64 kids.length), (46, .int .i64 j)], []⟩) (fun j => j ≤ kids.length ∧ (kids.take j).all (Ba p.nodes.length) = true) (fun j => kids.length - j) 0 ⟨Nat.zero_le _, rfl⟩ (by simp +contextual -dsimp only [↓SD, SU, simprocAttr]) trivial ?_
    rintro j ⟨hj, hp⟩
    by_cases hjl : j < kids.length
    ·have e := getD_map av kids j .top hjl
     have hno : Ba p.nodes.length kids[j] = false → Au p.nodes ⟨15, pos, 0, s, kids, As⟩ = false := fun h => by simp [Au, A6 _ hjl h]
     have hyes : Ba p.nodes.length kids[j] = true → (kids.take (j + 1)).all (Ba p.nodes.length) = true := fun h => by rw [A5 _ hjl hp]; exact h
     generalize kids[j] = x at *
     simp +contextual -dsimp (maxSteps := 2000000) only [↓SD, SU, simprocAttr, Aa, hjl, e, Bo]
     (repeat' (first | intro _ | refine And.intro ?_ ?_))
     all_goals first
      | omega
      | (rw [hno (by simp [Ba]; omega)]; done)
      | exact Af.le ⟨j + 1, ⟨⟨hjl, hyes (by simp [Ba]; omega)⟩, (by first | omega | (simp only; omega))⟩, rfl⟩ (by simp +contextual -dsimp only [↓SD, SU, simprocAttr, Int.natCast_add]) trivial
    ·obtain rfl : j = kids.length := by omega
     rw [List.take_length] at hp
     rcases As with _ | ⟨q0, qs⟩ <;>
     ((try simp only [List.length_cons] at hq)
      simp +contextual -dsimp (maxSteps := 2000000) only [↓SD, SU, simprocAttr, Aa, Nat.lt_irrefl, List.length_map]
      (repeat' (first | intro _ | refine And.intro ?_ ?_))
      all_goals first | omega | skip
      all_goals first | (refine Ab _ (AZ s (by omega)) ?_; simp +contextual -dsimp (maxSteps := 2000000) only [↓SD, SU, simprocAttr, *, Aa]; (repeat' (first | intro _ | refine And.intro ?_ ?_))) | (refine Ab _ (Ch s) ?_; simp +contextual -dsimp (maxSteps := 2000000) only [↓SD, SU, simprocAttr, *, Aa]; (repeat' (first | intro _ | refine And.intro ?_ ?_))) | skip
      all_goals first | omega | skip
      all_goals first | (refine Ab _ CA ?_; simp +contextual -dsimp (maxSteps := 2000000) only [↓SD, SU, simprocAttr, *, Aa]; (repeat' (first | intro _ | refine And.intro ?_ ?_))) | skip
      all_goals first | omega | (simp [Au, AP, BS, BK, AG, AE, *]; done) | (have kne : kids ≠ [] := (fun h => by subst h; simp at *); simp [Au, AP, hA, kne]; done) | (simp [Au, AP, BS, BK, AG, AE, *]; omega) | trace_state)
   case inr.inr.inr.inr.inr.inr.inr.inr.inr.inr.inr.inr.inr.inr.inr.inl =>
    obtain rfl : nn = 0 := p2 (by decide)
    clear p2 p3' p4'
    have hA : AJ 16 = 1 := rfl
    rw [hA] at CA
    clear hkk
    simp +contextual -dsimp (maxSteps := 2000000) only [↓SD, SU, simprocAttr, AM, AL, Aj, Aa, p1']
    refine Al (X := Nat) (fun j => ⟨[(2, .obj [.sl (p.types.map av), .sl (p.nodes.map av)]), (3, .obj [.int .i64 16, .int .i64 pos, .int .i64 0, .str s, .sl (kids.map av), .sl (As.map av)]), (44, .sl (kids.map av)), (45, .int .i64 kids.length), (46, .int .i64 j)], []⟩) (fun j => j ≤ kids.length ∧ (kids.take j).all (Ba p.nodes.length) = true) (fun j => kids.length - j) 0 ⟨Nat.zero_le _, rfl⟩ (by simp +contextual -dsimp only [↓SD, SU, simprocAttr]) trivial ?_
    rintro j ⟨hj, hp⟩
    by_cases hjl : j < kids.length
    ·have e := getD_map av kids j .top hjl
     have hno : Ba p.nodes.length kids[j] = false → Au p.nodes ⟨16, pos, 0, s, kids, As⟩ = false := fun h => by simp [Au, A6 _ hjl h]
     have hyes : Ba p.nodes.length kids[j] = true → (kids.take (j + 1)).all (Ba p.nodes.length) = true := fun h => by rw [A5 _ hjl hp]; exact h
     generalize kids[j] = x at *
     simp +contextual -dsimp (maxSteps := 2000000) only [↓SD, SU, simprocAttr, Aa, hjl, e, Bo]
     (repeat' (first | intro _ | refine And.intro ?_ ?_))
     all_goals first
      | omega
      | (rw [hno (by simp [Ba]; omega)]; done)
      | exact Af.le ⟨j + 1, ⟨⟨hjl, hyes (by simp [Ba]; omega)⟩, (by first | omega | (simp only; omega))⟩, rfl⟩ (by simp +contextual -dsimp only [↓SD, SU, simprocAttr, Int.natCast_add]) trivial
    ·obtain rfl : j = kids.length := by omega
     rw [List.take_length] at hp
     rcases As with _ | ⟨q0, qs⟩ <;>
     ((try simp only [List.length_cons] at hq)
      simp +contextual -dsimp (maxSteps := 2000000) only [↓SD, SU, simprocAttr, Aa, Nat.lt_irrefl, List.length_map]
      (repeat' (first | intro _ | refine And.intro ?_ ?_))
      all_goals first | omega | skip
      all_goals first | (refine Ab _ (AZ s (by omega)) ?_; simp +contextual -dsimp (maxSteps := 2000000) only [↓SD, SU, simprocAttr, *, Aa]; (repeat' (first | intro _ | refine And.intro ?_ ?_))) | (refine Ab _ (Ch s) ?_; simp +contextual -dsimp (maxSteps := 2000000) only [↓SD, SU, simprocAttr, *, Aa]; (repeat' (first | intro _ | refine And.intro ?_ ?_))) | skip
      all_goals first | omega | skip
      all_goals first | (refine Ab _ CA ?_; simp +contextual -dsimp (maxSteps := 2000000) only [↓SD, SU, simprocAttr, *, Aa]; (repeat' (first | intro _ | refine And.intro ?_ ?_))) | skip
      all_goals first | omega | (simp [Au, AP, BS, BK, AG, AE, *]; done) | (have kne : kids ≠ [] := (fun h => by subst h; simp at *); simp [Au, AP, hA, kne]; done) | (simp [Au, AP, BS, BK, AG, AE, *]; omega) | trace_state)
   case inr.inr.inr.inr.inr.inr.inr.inr.inr.inr.inr.inr.inr.inr.inr.inr.inl =>
    obtain rfl : nn = 0 := p2 (by decide)
    clear p2 p3' p4'
    have hA : AJ 17 = 1 := rfl
    rw [hA] at CA
    clear hkk
    simp +contextual -dsimp (maxSteps := 2000000) only [↓SD, SU, simprocAttr, AM, AL, Aj, Aa, p1']
    refine Al (X := Nat) (fun j => ⟨[(2, .obj [.sl (p.types.map av), .sl (p.nodes.map av)]), (3, .obj [.int .i64 17, .int .i64 pos, .int .i64 0, .str s, .sl (kids.map av), .sl (As.map av)]), (44, .sl (kids.map av)), (45, .int .i64 kids.length), (46, .int .i64 j)], []⟩) (fun j => j ≤ kids.length ∧ (kids.take j).all (Ba p.nodes.length) = true) (fun j => kids.length - j) 0 ⟨Nat.zero_le _, rfl⟩ (by simp +contextual -dsimp only [↓SD, SU, simprocAttr]) trivial ?_
    rintro j ⟨hj, hp⟩
    by_cases hjl : j < kids.length
    ·have e := getD_map av kids j .top hjl
     have hno : Ba p.nodes.length kids[j] = false → Au p.nodes ⟨17, pos, 0, s, kids, As⟩ = false := fun h => by simp [Au, A6 _ hjl h]
     have hyes : Ba p.nodes.length kids[j] = true → (kids.take (j + 1)).all (Ba p.nodes.length) = true := fun h => by rw [A5 _ hjl hp]; exact h
     generalize kids[j] = x at *
     simp +contextual -dsimp (maxSteps := 2000000) only [↓SD, SU, simprocAttr, Aa, hjl, e, Bo]
     (repeat' (first | intro _ | refine And.intro ?_ ?_))
     all_goals first
      | omega
      | (rw [hno (by simp [Ba]; omega)]; done)
      | exact Af.le ⟨j + 1, ⟨⟨hjl, hyes (by simp [Ba]; omega)⟩, (by first | omega | (simp only; omega))⟩, rfl⟩ (by simp +contextual -dsimp only [↓SD, SU, simprocAttr, Int.natCast_add]) trivial
    ·obtain rfl : j = kids.length := by omega
     rw [List.take_length] at hp
     rcases As with _ | ⟨q0, qs⟩ <;>
     ((try simp only [List.length_cons] at hq)
      simp +contextual -dsimp (maxSteps := 2000000) only [↓SD, SU, simprocAttr, Aa, Nat.lt_irrefl, List.length_map]
      (repeat' (first | intro _ | refine And.intro ?_ ?_))
      all_goals first | omega | skip
      all_goals first | (refine Ab _ (AZ s (by omega)) ?_; simp +contextual -dsimp (maxSteps := 2000000) only [↓SD, SU, simprocAttr, *, Aa]; (repeat' (first | intro _ | refine And.intro ?_ ?_))) | (refine Ab _ (Ch s) ?_; simp +contextual -dsimp (maxSteps := 2000000) only [↓SD, SU, simprocAttr, *, Aa]; (repeat' (first | intro _ | refine And.intro ?_ ?_))) | skip
      all_goals first | omega | skip
      all_goals first | (refine Ab _ CA ?_; simp +contextual -dsimp (maxSteps := 2000000) only [↓SD, SU, simprocAttr, *, Aa]; (repeat' (first | intro _ | refine And.intro ?_ ?_))) | skip
      all_goals first | omega | (simp [Au, AP, BS, BK, AG, AE, *]; done) | (have kne : kids ≠ [] := (fun h => by subst h; simp at *); simp [Au, AP, hA, kne]; done) | (simp [Au, AP, BS, BK, AG, AE, *]; omega) | trace_state)
   case inr.inr.inr.inr.inr.inr.inr.inr.inr.inr.inr.inr.inr.inr.inr.inr.inr.inl =>
    obtain rfl : nn = 0 := p2 (by decide)
    clear p2 p3' p4'
    have hA : AJ 18 = 2 := rfl
    rw [hA] at CA
    clear hkk
    simp +contextual -dsimp (maxSteps := 2000000) only [↓SD, SU, simprocAttr, AM, AL, Aj, Aa, p1']
    refine Al (X := Nat) (fun j => ⟨[(2, .obj [.sl (p.types.map av), .sl (p.nodes.map av)]), (3, .obj [.int .i64 18, .int .i64 pos, .int .i64 0, .str s, .sl (kids.map av), .sl (As.map av)]), (44, .sl (kids.map av)), (45, .int .i64 kids.length), (46, .int .i64 j)], []⟩) (fun j => j ≤ kids.length ∧ (kids.take j).all (Ba p.nodes.length) = true) (fun j => kids.length - j) 0 ⟨Nat.zero_le _, rfl⟩ (by simp +contextual -dsimp only [↓SD, SU, simprocAttr]) trivial ?_
    rintro j ⟨hj, hp⟩
    by_cases hjl : j < kids.length
    ·have e := getD_map av kids j .top hjl
     have hno : Ba p.nodes.length kids[j] = false → Au p.nodes ⟨18, pos, 0, s, kids, As⟩ = false := fun h => by simp [Au, A6 _ hjl h]
     have hyes : Ba p.nodes.length kids[j] = true → (kids.take (j + 1)).all (Ba p.nodes.length) = true := fun h => by rw [A5 _ hjl hp]; exact h
     generalize kids[j] = x at *
     simp +contextual -dsimp (maxSteps := 2000000) only [↓SD, SU, simprocAttr, Aa, hjl, e, Bo]
     (repeat' (first | intro _ | refine And.intro ?_ ?_))
     all_goals first
      | omega
      | (rw [hno (by simp [Ba]; omega)]; done)
      | exact Af.le ⟨j + 1, ⟨⟨hjl, hyes (by simp [Ba]; omega)⟩, (by first | omega | (simp only; omega))⟩, rfl⟩ (by simp +contextual -dsimp only [↓SD, SU, simprocAttr, Int.natCast_add]) trivial
    ·obtain rfl : j = kids.length := by omega
     rw [List.take_length] at hp
     rcases As with _ | ⟨q0, qs⟩ <;>
     ((try simp only [List.length_cons] at hq)
      simp +contextual -dsimp (maxSteps := 2000000) only [↓SD, SU, simprocAttr, Aa, Nat.lt_irrefl, List.length_map]
      (repeat' (first | intro _ | refine And.intro ?_ ?_))
      all_goals first | omega | skip
      all_goals first | (refine Ab _ (AZ s (by omega)) ?_; simp +contextual -dsimp (maxSteps := 2000000) only [↓SD, SU, simprocAttr, *, Aa]; (repeat' (first | intro _ | refine And.intro ?_ ?_))) | (refine Ab _ (Ch s) ?_; simp +contextual -dsimp (maxSteps := 2000000) only [↓SD, SU, simprocAttr, *, Aa]; (repeat' (first | intro _ | refine And.intro ?_ ?_))) | skip
      all_goals first | omega | skip
      all_goals first | (refine Ab _ CA ?_; simp +contextual -dsimp (maxSteps := 2000000) only [↓SD, SU, simprocAttr, *, Aa]; (repeat' (first | intro _ | refine And.intro ?_ ?_))) | skip
      all_goals first | omega | (simp [Au, AP, BS, BK, AG, AE, *]; done) | (have kne : kids ≠ [] := (fun h => by subst h; simp at *); simp [Au, AP, hA, kne]; done) | (simp [Au, AP, BS, BK, AG, AE, *]; omega) | trace_state)
   case inr.inr.inr.inr.inr.inr.inr.inr.inr.inr.inr.inr.inr.inr.inr.inr.inr.inr =>
    obtain rfl : nn = 0 := p2 (by decide)
    clear p2 p3' p4'
    have hA : AJ 19 = 2 := rfl
    rw [hA] at CA
    clear hkk
    simp +contextual -dsimp (maxSteps := 2000000) only [↓SD, SU, simprocAttr, AM, AL, Aj, Aa, p1']
    refine Al (X := Nat) (fun j => ⟨[(2, .obj [.sl (p.types.map av), .sl (p.nodes.map av)]), (3, .obj [.int .i64 19, .int .i64 pos, .int .i64 0, .str s, .sl (kids.map av), .sl (As.map av)]), (44, .sl (kids.map av)), (45, .int .i64 kids.length), (46, .int .i64 j)], []⟩) (fun j => j ≤ kids.length ∧ (kids.take j).all (Ba p.nodes.length) = true) (fun j => kids.length - j) 0 ⟨Nat.zero_le _, rfl⟩ (by simp +contextual -dsimp only [↓SD, SU, simprocAttr]) trivial ?_
    rintro j ⟨hj, hp⟩
    by_cases hjl : j < kids.length
    ·have e := getD_map av kids j .top hjl
     have hno : Ba p.nodes.length kids[j] = false → Au p.nodes ⟨19, pos, 0, s, kids, As⟩ = false := fun h => by simp [Au, A6 _ hjl h]
     have hyes : Ba p.nodes.length kids[j] = true → (kids.take (j + 1)).all (Ba p.nodes.length) = true := fun h => by rw [A5 _ hjl hp]; exact h
     generalize kids[j] = x at *
     simp +contextual -dsimp (maxSteps := 2000000) only [↓SD, SU, simprocAttr, Aa, hjl, e, Bo]
     (repeat' (first | intro _ | refine And.intro ?_ ?_))
     all_goals first
      | omega
      | (rw [hno (by simp [Ba]; omega)]; done)
      | exact Af.le ⟨j + 1, ⟨⟨hjl, hyes (by simp [Ba]; omega)⟩, (by first | omega | (simp only; omega))⟩, rfl⟩ (by simp +contextual -dsimp only [↓SD, SU, simprocAttr, Int.natCast_add]) trivial
    ·obtain rfl : j = kids.length := by omega
     rw [List.take_length] at hp
     rcases As with _ | ⟨q0, qs⟩ <;>
     ((try simp only [List.length_cons] at hq)
      simp +contextual -dsimp (maxSteps := 2000000) only [↓SD, SU, simprocAttr, Aa, Nat.lt_irrefl, List.length_map]
      (repeat' (first | intro _ | refine And.intro ?_ ?_))
      all_goals first | omega | skip
      all_goals first | (refine Ab _ (AZ s (by omega)) ?_; simp +contextual -dsimp (maxSteps := 2000000) only [↓SD, SU, simprocAttr, *, Aa]; (repeat' (first | intro _ | refine And.intro ?_ ?_))) | (refine Ab _ (Ch s) ?_; simp +contextual -dsimp (maxSteps := 2000000) only [↓SD, SU, simprocAttr, *, Aa]; (repeat' (first | intro _ | refine And.intro ?_ ?_))) | skip
      all_goals first | omega | skip
      all_goals first | (refine Ab _ CA ?_; simp +contextual -dsimp (maxSteps := 2000000) only [↓SD, SU, simprocAttr, *, Aa]; (repeat' (first | intro _ | refine And.intro ?_ ?_))) | skip
      all_goals first | omega | (simp [Au, AP, BS, BK, AG, AE, *]; done) | (have kne : kids ≠ [] := (fun h => by subst h; simp at *); simp [Au, AP, hA, kne]; done) | (simp [Au, AP, BS, BK, AG, AE, *]; omega) | trace_state)
  ·have hbad : Au p.nodes ⟨kind, pos, nn, s, kids, As⟩ = false := by
    cases hn : AP BK p.nodes ⟨kind, pos, nn, s, kids, As⟩ with
    | false => simp [Au, hn]
    | true =>
     exfalso
     apply hpre
     unfold AP at hn
     split at hn
     ·cases hn
     ·rename_i h
      simp only [not_or, ne_eq, not_and, Decidable.not_not] at h
      obtain ⟨h1, h2, h3, h4⟩ := h
      split at hn
      ·rename_i hk1
       simp only [Bool.and_eq_true, decide_eq_true_eq] at hn
       refine ⟨by omega, fun h => absurd hk1 h, hn.1.1, hn.1.2⟩
      ·rename_i hk1
       try simp only at hk1 h4 h1
       by_cases hk3 : kind = 3
       ·rw [if_neg (by simp only; omega), if_pos (by simp only; omega)] at hn
        simp only [BK, Bool.and_eq_true, decide_eq_true_eq] at hn
        refine ⟨by omega, fun _ => hn.2, by omega, by omega⟩
       ·have := h4 hk1 hk3
        refine ⟨by omega, fun _ => this, by omega, by omega⟩
   rw [hbad]
   simp +contextual -dsimp (maxSteps := 2000000) only [↓SD, SU, simprocAttr, AM, AL, Aj, Aa]
   (repeat' (first | intro _ | refine And.intro ?_ ?_))
   all_goals first | rfl | (exfalso; omega) | trace_state
 ·obtain ⟨kind, pos, nn, s, kids, As⟩ := n
  simp only at hkk
  have hbad : Au p.nodes ⟨kind, pos, nn, s, kids, As⟩ = false := by
   have c1 : ¬ kind = 1 := by omega
   have c2 : ¬ kind = 2 := by omega
   have c3 : ¬ kind = 3 := by omega
   have c4 : ¬ kind = 4 := by omega
   have c5 : ¬ kind = 5 := by omega
   have c6 : ¬ kind = 6 := by omega
   have c7 : ¬ kind = 7 := by omega
   have c8 : ¬ kind = 8 := by omega
   have c9 : ¬ kind = 9 := by omega
   have c10 : ¬ kind = 10 := by omega
   have c11 : ¬ kind = 11 := by omega
   have c12 : ¬ kind = 12 := by omega
   have c13 : ¬ kind = 13 := by omega
   have c14 : ¬ kind = 14 := by omega
   have c15 : ¬ kind = 15 := by omega
   have c16 : ¬ kind = 16 := by omega
   have c17 : ¬ kind = 17 := by omega
   have c18 : ¬ kind = 18 := by omega
   have c19 : ¬ kind = 19 := by omega
   have hn : AP BK p.nodes ⟨kind, pos, nn, s, kids, As⟩ = false := by simp [AP, c1, c2, c3, c4, c5, c6, c7, c8, c9, c10, c11, c12, c13, c14, c15, c16, c17, c18, c19]
   simp [Au, hn]
  rw [hbad]
  by_cases h1 : kind < 1
  ·simp +contextual -dsimp (maxSteps := 2000000) only [↓SD, SU, simprocAttr, AM, AL, Aj, Aa, h1]
  ·have h2 : (19 : Int) < kind := by omega
   simp +contextual -dsimp (maxSteps := 2000000) only [↓SD, SU, simprocAttr, AM, AL, Aj, Aa, h1, h2]
end Go.Proofs.YtjbcnilllfaipaaGreat
