/-
  ProgramOk OF THE PROGRAM, by abstract texts. Conditions: none.
-/
import Derived.Test.YtpomnlejlgojaaaGreatPgmW1
import Derived.Test.YtpomnlejlgojaaaGreatSPat
import Derived.Test.YtpomnlejlgojaaaGreatSType
set_option linter.unusedVariables false
set_option linter.unusedSimpArgs false
set_option maxRecDepth 100000
namespace Go.Proofs.YtpomnlejlgojaaaGreat
open Go.RowKit Go.Proofs.YtpomnlejlgojaaaGreat.Av Go.Proofs.YtpomnlejlgojaaaGreat.Ml
open Go.Proofs.YtpomnlejlgojaaaGreat.Av.AVal (av)

/-- an item's variable is one of m -/
def varB (m : Int) (x : TyItem) : Bool := !(decide (x.name = bs []) && decide (m ≤ x.var))
theorem con_small {l : List Con} (hx : Bulk.bulk l ≤ 1048576) {c : Con} (hn : c ∈ l) : c.name.size ≤ 1048576 ∧ Bulk.bulk c.arg.items ≤ 1048576 := by
  have h1 := bulk_mem hn
  have h2 : Bulk.bulk c = Bulk.bulk c.name + Bulk.bulk c.has + Bulk.bulk c.arg + 1 := rfl
  have h3 : Bulk.bulk c.arg = Bulk.bulk c.arg.items + 1 := rfl
  have h4 : Bulk.bulk c.name = c.name.size + 1 := rfl
  omega
theorem type_small {t : TypeD} (hx : Bulk.bulk t ≤ 1048576) : t.name.size ≤ 1048576 ∧ Bulk.bulk t.cons ≤ 1048576 := by
  have h2 : Bulk.bulk t = Bulk.bulk t.name + Bulk.bulk t.params + Bulk.bulk t.cons + 1 := rfl
  have h4 : Bulk.bulk t.name = t.name.size + 1 := rfl
  omega
theorem conOkB_as (c : Con) (m : Int) : conOkB c m = (conB c.name && (if c.has then tyB c.arg.items else decide (c.arg.items = [])) && c.arg.items.all (varB m)) := rfl
def typeHB (t : TypeD) : Bool := nameB t.name && (decide (0 ≤ t.params) && decide (t.params ≤ 2)) && (decide (1 ≤ (t.cons.length : Int)) && decide ((t.cons.length : Int) ≤ 8))
theorem typeB_as (t : TypeD) : typeB t = (typeHB t && t.cons.all fun c => conOkB c t.params) := rfl
theorem within_cases (n a b : Int) : ∃ r : Bool, r = (decide (a ≤ n) && decide (n ≤ b)) ∧ CallsF Tryz.prog 48 [.int .i64 n, .int .i64 a, .int .i64 b] (.bool r) := ⟨_, rfl, within_ok n a b⟩

set_option maxHeartbeats 2000000 in
theorem typeOk_ok (t : TypeD) (hx : Bulk.bulk t ≤ 1048576) : CallsF Tryz.prog 153 [av t] (.bool (typeB t)) := by
  obtain ⟨hs, hcb⟩ := type_small hx
  refine fun_impl_typeOk rfl (by simp; exact AVal.clean t) (AvPure.bool _) ?_
  obtain ⟨name, params, cons⟩ := t
  simp only at hs hcb
  have hl := bulk_length cons
  have C1 := implNameOk_ok name (by omega)
  obtain ⟨r2, hr2, C2⟩ := within_cases params 0 2
  obtain ⟨r3, hr3, C3⟩ := within_cases (cons.length : Int) 1 8
  have hH : typeHB ⟨name, params, cons⟩ = (nameB name && r2 && r3) := by rw [hr2, hr3]; rfl
  rw [typeB_as, hH]
  clear hr2 hr3 hH
  simp only
  generalize nameB name = r1 at *
  cases r1
  case false =>
    simp +contextual -dsimp (maxSteps := 2000000) only [↓SD, SU, SB, Nat.reduceAdd, Nat.reduceBEq, Nat.reduceEqDiff, Nat.reduceLeDiff, Nat.reduceLT, Nat.reduceSub, ↓reduceIte, forall_const, implies_true, ne_eq, reduceCtorEq, Int.reduceToNat, forall_eq, ir_impl_typeOk, rs_impl_typeOk, av_TypeD, map_len]
    refine aCallK_of _ C1 ?_
    simp +contextual -dsimp (maxSteps := 2000000) only [↓SD, SU, SB, Nat.reduceAdd, Nat.reduceBEq, Nat.reduceEqDiff, Nat.reduceLeDiff, Nat.reduceLT, Nat.reduceSub, ↓reduceIte, forall_const, implies_true, ne_eq, reduceCtorEq, Int.reduceToNat, forall_eq, Bool.false_and]
  cases r2
  case false =>
    simp +contextual -dsimp (maxSteps := 2000000) only [↓SD, SU, SB, Nat.reduceAdd, Nat.reduceBEq, Nat.reduceEqDiff, Nat.reduceLeDiff, Nat.reduceLT, Nat.reduceSub, ↓reduceIte, forall_const, implies_true, ne_eq, reduceCtorEq, Int.reduceToNat, forall_eq, ir_impl_typeOk, rs_impl_typeOk, av_TypeD, map_len]
    refine aCallK_of _ C1 ?_
    simp +contextual -dsimp (maxSteps := 2000000) only [↓SD, SU, SB, Nat.reduceAdd, Nat.reduceBEq, Nat.reduceEqDiff, Nat.reduceLeDiff, Nat.reduceLT, Nat.reduceSub, ↓reduceIte, forall_const, implies_true, ne_eq, reduceCtorEq, Int.reduceToNat, forall_eq]
    refine aCallK_of _ C2 ?_
    simp +contextual -dsimp (maxSteps := 2000000) only [↓SD, SU, SB, Nat.reduceAdd, Nat.reduceBEq, Nat.reduceEqDiff, Nat.reduceLeDiff, Nat.reduceLT, Nat.reduceSub, ↓reduceIte, forall_const, implies_true, ne_eq, reduceCtorEq, Int.reduceToNat, forall_eq, Bool.false_and, Bool.and_false]
  cases r3
  case false =>
    simp +contextual -dsimp (maxSteps := 2000000) only [↓SD, SU, SB, Nat.reduceAdd, Nat.reduceBEq, Nat.reduceEqDiff, Nat.reduceLeDiff, Nat.reduceLT, Nat.reduceSub, ↓reduceIte, forall_const, implies_true, ne_eq, reduceCtorEq, Int.reduceToNat, forall_eq, ir_impl_typeOk, rs_impl_typeOk, av_TypeD, map_len]
    refine aCallK_of _ C1 ?_
    simp +contextual -dsimp (maxSteps := 2000000) only [↓SD, SU, SB, Nat.reduceAdd, Nat.reduceBEq, Nat.reduceEqDiff, Nat.reduceLeDiff, Nat.reduceLT, Nat.reduceSub, ↓reduceIte, forall_const, implies_true, ne_eq, reduceCtorEq, Int.reduceToNat, forall_eq]
    refine aCallK_of _ C2 ?_
    simp +contextual -dsimp (maxSteps := 2000000) only [↓SD, SU, SB, Nat.reduceAdd, Nat.reduceBEq, Nat.reduceEqDiff, Nat.reduceLeDiff, Nat.reduceLT, Nat.reduceSub, ↓reduceIte, forall_const, implies_true, ne_eq, reduceCtorEq, Int.reduceToNat, forall_eq, map_len]
    refine aCallK_of _ C3 ?_
    simp +contextual -dsimp (maxSteps := 2000000) only [↓SD, SU, SB, Nat.reduceAdd, Nat.reduceBEq, Nat.reduceEqDiff, Nat.reduceLeDiff, Nat.reduceLT, Nat.reduceSub, ↓reduceIte, forall_const, implies_true, ne_eq, reduceCtorEq, Int.reduceToNat, forall_eq, Bool.false_and, Bool.and_false]
  simp +contextual -dsimp (maxSteps := 2000000) only [↓SD, SU, SB, Nat.reduceAdd, Nat.reduceBEq, Nat.reduceEqDiff, Nat.reduceLeDiff, Nat.reduceLT, Nat.reduceSub, ↓reduceIte, forall_const, implies_true, ne_eq, reduceCtorEq, Int.reduceToNat, forall_eq, ir_impl_typeOk, rs_impl_typeOk, av_TypeD, map_len]
  refine aCallK_of _ C1 ?_
  simp +contextual -dsimp (maxSteps := 2000000) only [↓SD, SU, SB, Nat.reduceAdd, Nat.reduceBEq, Nat.reduceEqDiff, Nat.reduceLeDiff, Nat.reduceLT, Nat.reduceSub, ↓reduceIte, forall_const, implies_true, ne_eq, reduceCtorEq, Int.reduceToNat, forall_eq]
  refine aCallK_of _ C2 ?_
  simp +contextual -dsimp (maxSteps := 2000000) only [↓SD, SU, SB, Nat.reduceAdd, Nat.reduceBEq, Nat.reduceEqDiff, Nat.reduceLeDiff, Nat.reduceLT, Nat.reduceSub, ↓reduceIte, forall_const, implies_true, ne_eq, reduceCtorEq, Int.reduceToNat, forall_eq, map_len]
  refine aCallK_of _ C3 ?_
  simp +contextual -dsimp (maxSteps := 2000000) only [↓SD, SU, SB, Nat.reduceAdd, Nat.reduceBEq, Nat.reduceEqDiff, Nat.reduceLeDiff, Nat.reduceLT, Nat.reduceSub, ↓reduceIte, forall_const, implies_true, ne_eq, reduceCtorEq, Int.reduceToNat, forall_eq, map_len, Bool.true_and, Bool.and_self]
  refine aLoop_of (X := Nat) (fun k => ⟨[(1, .obj [.str name, .int .i64 params, .sl (cons.map av)]), (25, .sl (cons.map av)), (26, .int .i64 cons.length), (27, .int .i64 k)], []⟩) (fun k => k ≤ cons.length ∧ (cons.take k).all (fun c => conOkB c params) = true) (fun k => cons.length - k) 0 ⟨Nat.zero_le _, rfl⟩ (by simp +contextual -dsimp (maxSteps := 2000000) only [↓SD, SU, SB, Nat.reduceAdd, Nat.reduceBEq, Nat.reduceEqDiff, Nat.reduceLeDiff, Nat.reduceLT, Nat.reduceSub, ↓reduceIte, forall_const, implies_true, ne_eq, reduceCtorEq, Int.reduceToNat, forall_eq]) trivial ?_
  rintro k ⟨hk, hp⟩
  by_cases hlt : k < cons.length
  · have e := getD_map av cons k .top hlt
    obtain ⟨s1, s2⟩ := con_small hcb (List.getElem_mem hlt)
    have hno : conOkB cons[k] params = false → (cons.all fun c => conOkB c params) = false := fun h => all_false' _ hlt h
    have hyes : conOkB cons[k] params = true → ((cons.take (k + 1)).all fun c => conOkB c params) = true := fun h => by rw [all_take' _ hlt hp]; exact h
    generalize cons[k] = c at *
    obtain ⟨cn, ch, ⟨items⟩⟩ := c
    simp only at s1 s2
    have hil := bulk_length items
    rw [conOkB_as] at hno hyes
    simp only at hno hyes
    have D1 := implConOk_ok cn (by omega)
    have D2 := implTyOk_ok items s2
    generalize conB cn = b1 at *
    cases b1
    case false =>
      simp +contextual -dsimp (maxSteps := 2000000) only [↓SD, SU, SB, Nat.reduceAdd, Nat.reduceBEq, Nat.reduceEqDiff, Nat.reduceLeDiff, Nat.reduceLT, Nat.reduceSub, ↓reduceIte, forall_const, implies_true, ne_eq, reduceCtorEq, Int.reduceToNat, forall_eq, map_len, hlt, e, av_Con]
      intro v
      refine aCallK_of _ D1 ?_
      simp +contextual -dsimp (maxSteps := 2000000) only [↓SD, SU, SB, Nat.reduceAdd, Nat.reduceBEq, Nat.reduceEqDiff, Nat.reduceLeDiff, Nat.reduceLT, Nat.reduceSub, ↓reduceIte, forall_const, implies_true, ne_eq, reduceCtorEq, Int.reduceToNat, forall_eq]
      rw [hno rfl]
    cases ch
    case false =>
      by_cases hi : items = []
      · subst hi
        simp +contextual -dsimp (maxSteps := 2000000) only [↓SD, SU, SB, Nat.reduceAdd, Nat.reduceBEq, Nat.reduceEqDiff, Nat.reduceLeDiff, Nat.reduceLT, Nat.reduceSub, ↓reduceIte, forall_const, implies_true, ne_eq, reduceCtorEq, Int.reduceToNat, forall_eq, map_len, hlt, e, av_Con]
        intro v
        refine aCallK_of _ D1 ?_
        simp +contextual -dsimp (maxSteps := 2000000) only [↓SD, SU, SB, Nat.reduceAdd, Nat.reduceBEq, Nat.reduceEqDiff, Nat.reduceLeDiff, Nat.reduceLT, Nat.reduceSub, ↓reduceIte, forall_const, implies_true, ne_eq, reduceCtorEq, Int.reduceToNat, forall_eq, Int.reduceEq, Int.reduceLT, Int.reduceLE, Int.reduceNeg, Int.reduceAdd, Int.reduceSub, map_len]
        refine aLoop_of (X := Unit) (fun _ => ⟨[(1, .obj [.str name, .int .i64 params, .sl (cons.map av)]), (25, .sl (cons.map av)), (26, .int .i64 cons.length), (27, .int .i64 k), (60, .int .i64 0), (61, .int .i64 0)], []⟩) (fun _ => True) (fun _ => 0) () trivial (by simp +contextual -dsimp (maxSteps := 2000000) only [↓SD, SU, SB, Nat.reduceAdd, Nat.reduceBEq, Nat.reduceEqDiff, Nat.reduceLeDiff, Nat.reduceLT, Nat.reduceSub, ↓reduceIte, forall_const, implies_true, ne_eq, reduceCtorEq, Int.reduceToNat, forall_eq]) trivial ?_
        intro _ _
        simp +contextual -dsimp (maxSteps := 2000000) only [↓SD, SU, SB, Nat.reduceAdd, Nat.reduceBEq, Nat.reduceEqDiff, Nat.reduceLeDiff, Nat.reduceLT, Nat.reduceSub, ↓reduceIte, forall_const, implies_true, ne_eq, reduceCtorEq, Int.reduceToNat, forall_eq, Int.reduceEq, Int.reduceLT, Int.reduceLE, Int.reduceNeg, Int.reduceAdd, Int.reduceSub, map_len]
        refine ⟨by omega, Goes.le ⟨k + 1, ⟨⟨hlt, hyes (by simp)⟩, (by first | omega | (simp only; omega))⟩, rfl⟩ (by simp +contextual -dsimp (maxSteps := 2000000) only [↓SD, SU, SB, Nat.reduceAdd, Nat.reduceBEq, Nat.reduceEqDiff, Nat.reduceLeDiff, Nat.reduceLT, Nat.reduceSub, ↓reduceIte, forall_const, implies_true, ne_eq, reduceCtorEq, Int.reduceToNat, forall_eq, Int.natCast_add]) trivial⟩
      · have hi0 : (0 : Int) < items.length := by have := List.length_pos_iff.2 hi; omega
        simp +contextual -dsimp (maxSteps := 2000000) only [↓SD, SU, SB, Nat.reduceAdd, Nat.reduceBEq, Nat.reduceEqDiff, Nat.reduceLeDiff, Nat.reduceLT, Nat.reduceSub, ↓reduceIte, forall_const, implies_true, ne_eq, reduceCtorEq, Int.reduceToNat, forall_eq, map_len, hlt, e, av_Con]
        intro v
        refine aCallK_of _ D1 ?_
        simp +contextual -dsimp (maxSteps := 2000000) only [↓SD, SU, SB, Nat.reduceAdd, Nat.reduceBEq, Nat.reduceEqDiff, Nat.reduceLeDiff, Nat.reduceLT, Nat.reduceSub, ↓reduceIte, forall_const, implies_true, ne_eq, reduceCtorEq, Int.reduceToNat, forall_eq, map_len, hi0]
        rw [hno (by simp [hi])]
    generalize tyB items = b2 at *
    cases b2
    case false =>
      simp +contextual -dsimp (maxSteps := 2000000) only [↓SD, SU, SB, Nat.reduceAdd, Nat.reduceBEq, Nat.reduceEqDiff, Nat.reduceLeDiff, Nat.reduceLT, Nat.reduceSub, ↓reduceIte, forall_const, implies_true, ne_eq, reduceCtorEq, Int.reduceToNat, forall_eq, map_len, hlt, e, av_Con]
      intro v
      refine aCallK_of _ D1 ?_
      simp +contextual -dsimp (maxSteps := 2000000) only [↓SD, SU, SB, Nat.reduceAdd, Nat.reduceBEq, Nat.reduceEqDiff, Nat.reduceLeDiff, Nat.reduceLT, Nat.reduceSub, ↓reduceIte, forall_const, implies_true, ne_eq, reduceCtorEq, Int.reduceToNat, forall_eq, map_len]
      refine aCallK_of _ D2 ?_
      simp +contextual -dsimp (maxSteps := 2000000) only [↓SD, SU, SB, Nat.reduceAdd, Nat.reduceBEq, Nat.reduceEqDiff, Nat.reduceLeDiff, Nat.reduceLT, Nat.reduceSub, ↓reduceIte, forall_const, implies_true, ne_eq, reduceCtorEq, Int.reduceToNat, forall_eq, map_len]
      rw [hno (by simp)]
    simp +contextual -dsimp (maxSteps := 2000000) only [↓SD, SU, SB, Nat.reduceAdd, Nat.reduceBEq, Nat.reduceEqDiff, Nat.reduceLeDiff, Nat.reduceLT, Nat.reduceSub, ↓reduceIte, forall_const, implies_true, ne_eq, reduceCtorEq, Int.reduceToNat, forall_eq, map_len, hlt, e, av_Con]
    intro v
    refine aCallK_of _ D1 ?_
    simp +contextual -dsimp (maxSteps := 2000000) only [↓SD, SU, SB, Nat.reduceAdd, Nat.reduceBEq, Nat.reduceEqDiff, Nat.reduceLeDiff, Nat.reduceLT, Nat.reduceSub, ↓reduceIte, forall_const, implies_true, ne_eq, reduceCtorEq, Int.reduceToNat, forall_eq, map_len]
    refine aCallK_of _ D2 ?_
    simp +contextual -dsimp (maxSteps := 2000000) only [↓SD, SU, SB, Nat.reduceAdd, Nat.reduceBEq, Nat.reduceEqDiff, Nat.reduceLeDiff, Nat.reduceLT, Nat.reduceSub, ↓reduceIte, forall_const, implies_true, ne_eq, reduceCtorEq, Int.reduceToNat, forall_eq, map_len]
    refine aLoop_of (X := Nat) (fun j => ⟨[(1, .obj [.str name, .int .i64 params, .sl (cons.map av)]), (25, .sl (cons.map av)), (26, .int .i64 cons.length), (27, .int .i64 k), (59, .sl (items.map av)), (60, .int .i64 items.length), (61, .int .i64 j)], []⟩) (fun j => j ≤ items.length ∧ (items.take j).all (varB params) = true) (fun j => items.length - j) 0 ⟨Nat.zero_le _, rfl⟩ (by simp +contextual -dsimp (maxSteps := 2000000) only [↓SD, SU, SB, Nat.reduceAdd, Nat.reduceBEq, Nat.reduceEqDiff, Nat.reduceLeDiff, Nat.reduceLT, Nat.reduceSub, ↓reduceIte, forall_const, implies_true, ne_eq, reduceCtorEq, Int.reduceToNat, forall_eq]) trivial ?_
    rintro j ⟨hj, hq⟩
    by_cases hjl : j < items.length
    · have e2 := getD_map av items j .top hjl
      have hno2 : varB params items[j] = false → (cons.all fun c => conOkB c params) = false := fun h => hno (by simp [all_false' _ hjl h])
      have hyes2 : varB params items[j] = true → (items.take (j + 1)).all (varB params) = true := fun h => by rw [all_take' _ hjl hq]; exact h
      generalize items[j] = x at *
      obtain ⟨vr, nm, ar⟩ := x
      simp +contextual -dsimp (maxSteps := 2000000) only [↓SD, SU, SB, Nat.reduceAdd, Nat.reduceBEq, Nat.reduceEqDiff, Nat.reduceLeDiff, Nat.reduceLT, Nat.reduceSub, ↓reduceIte, forall_const, implies_true, ne_eq, reduceCtorEq, Int.reduceToNat, forall_eq, map_len, hjl, e2, av_TyItem]
      intro w
      (repeat' (first | intro _ | refine And.intro ?_ ?_))
      all_goals first
        | omega
        | exact Goes.le ⟨j + 1, ⟨⟨hjl, hyes2 (by simp [varB, *])⟩, (by first | omega | (simp only; omega))⟩, rfl⟩ (by simp +contextual -dsimp (maxSteps := 2000000) only [↓SD, SU, SB, Nat.reduceAdd, Nat.reduceBEq, Nat.reduceEqDiff, Nat.reduceLeDiff, Nat.reduceLT, Nat.reduceSub, ↓reduceIte, forall_const, implies_true, ne_eq, reduceCtorEq, Int.reduceToNat, forall_eq, Int.natCast_add]) trivial
        | (rw [hno2 (by simp [varB, *])]; done)
        | exact Goes.le ⟨j + 1, ⟨⟨hjl, hyes2 (by simp [varB, *]; omega)⟩, (by first | omega | (simp only; omega))⟩, rfl⟩ (by simp +contextual -dsimp (maxSteps := 2000000) only [↓SD, SU, SB, Nat.reduceAdd, Nat.reduceBEq, Nat.reduceEqDiff, Nat.reduceLeDiff, Nat.reduceLT, Nat.reduceSub, ↓reduceIte, forall_const, implies_true, ne_eq, reduceCtorEq, Int.reduceToNat, forall_eq, Int.natCast_add]) trivial
    · obtain rfl : j = items.length := by omega
      rw [List.take_length] at hq
      simp +contextual -dsimp (maxSteps := 2000000) only [↓SD, SU, SB, Nat.reduceAdd, Nat.reduceBEq, Nat.reduceEqDiff, Nat.reduceLeDiff, Nat.reduceLT, Nat.reduceSub, ↓reduceIte, forall_const, implies_true, ne_eq, reduceCtorEq, Int.reduceToNat, forall_eq, map_len, Nat.lt_irrefl]
      refine ⟨by omega, Goes.le ⟨k + 1, ⟨⟨hlt, hyes (by simp [hq])⟩, (by first | omega | (simp only; omega))⟩, rfl⟩ (by simp +contextual -dsimp (maxSteps := 2000000) only [↓SD, SU, SB, Nat.reduceAdd, Nat.reduceBEq, Nat.reduceEqDiff, Nat.reduceLeDiff, Nat.reduceLT, Nat.reduceSub, ↓reduceIte, forall_const, implies_true, ne_eq, reduceCtorEq, Int.reduceToNat, forall_eq, Int.natCast_add]) trivial⟩
  · obtain rfl : k = cons.length := by omega
    rw [List.take_length] at hp
    simp +contextual -dsimp (maxSteps := 2000000) only [↓SD, SU, SB, Nat.reduceAdd, Nat.reduceBEq, Nat.reduceEqDiff, Nat.reduceLeDiff, Nat.reduceLT, Nat.reduceSub, ↓reduceIte, forall_const, implies_true, ne_eq, reduceCtorEq, Int.reduceToNat, forall_eq, map_len, Nat.lt_irrefl, hp]

theorem prog_small {p : Program} (hx : Bulk.bulk p ≤ 1048576) : Bulk.bulk p.types ≤ 1048576 ∧ Bulk.bulk p.nodes ≤ 1048576 ∧ p.types.length ≤ 1048576 ∧ p.nodes.length ≤ 1048576 := by
  have h2 : Bulk.bulk p = Bulk.bulk p.types + Bulk.bulk p.nodes + 1 := rfl
  have := bulk_length p.types
  have := bulk_length p.nodes
  omega
theorem progPure (p : Program) : AvPure (.obj [.sl (p.types.map av), .sl (p.nodes.map av)]) := AvPure.obj (by simp; exact ⟨lav_clean _, lav_clean _⟩)
theorem shapeOk1_ok (p : Program) (i : Nat) (hi : i < p.nodes.length) : CallsF Tryz.prog 149 [.int .i64 i, .obj [.sl (p.types.map av), .sl (p.nodes.map av)]] (.sl ((nkids p.nodes i).map av)) := by
  refine fun_impl_shapeOk_1 rfl (by simp; exact ⟨pint _, progPure p⟩) (lav_clean _) ?_
  have e := getD_map av p.nodes i .top hi
  simp +contextual -dsimp (maxSteps := 2000000) only [↓SD, SU, SB, Nat.reduceAdd, Nat.reduceBEq, Nat.reduceEqDiff, Nat.reduceLeDiff, Nat.reduceLT, Nat.reduceSub, ↓reduceIte, forall_const, implies_true, ne_eq, reduceCtorEq, Int.reduceToNat, forall_eq, ir_impl_shapeOk_1, rs_impl_shapeOk_1, map_len, e, av_Node, hi, nkids, getD_at hi]
theorem shapeOk2_ok (t : TypeD) (hx : Bulk.bulk t ≤ 1048576) : CallsF Tryz.prog 152 [av t] (.bool (!typeB t)) := by
  refine fun_impl_shapeOk_2 rfl (by simp; exact AVal.clean t) (AvPure.bool _) ?_
  have C := typeOk_ok t hx
  rw [av_TypeD] at C
  simp +contextual -dsimp (maxSteps := 2000000) only [↓SD, SU, SB, Nat.reduceAdd, Nat.reduceBEq, Nat.reduceEqDiff, Nat.reduceLeDiff, Nat.reduceLT, Nat.reduceSub, ↓reduceIte, forall_const, implies_true, ne_eq, reduceCtorEq, Int.reduceToNat, forall_eq, ir_impl_shapeOk_2, rs_impl_shapeOk_2, av_TypeD]
  refine aCallK_of _ C ?_
  simp +contextual -dsimp (maxSteps := 2000000) only [↓SD, SU, SB, Nat.reduceAdd, Nat.reduceBEq, Nat.reduceEqDiff, Nat.reduceLeDiff, Nat.reduceLT, Nat.reduceSub, ↓reduceIte, forall_const, implies_true, ne_eq, reduceCtorEq, Int.reduceToNat, forall_eq]
def headP (p : Program) : Bool := (decide (1 ≤ (p.nodes.length : Int)) && decide ((p.nodes.length : Int) ≤ 600)) && decide ((p.types.length : Int) ≤ 8)
theorem shapeP_as (nm : Node → Bool) (p : Program) : shapeP nm p = (headP p && treeB (nkids p.nodes) p.nodes.length && p.nodes.all (nodeB nm p.nodes) && p.types.all typeB) := rfl

set_option maxHeartbeats 2000000 in
theorem shapeOk_ok (nm : Node → Bool) (p : Program) (g : FuncId) (caps : List AV) (hpc : ∀ x ∈ caps, AvPure x) (hc : ∀ hp, caps.map (AV.pur1 hp) = caps) (hg : ∀ n ∈ p.nodes, CallsF Tryz.prog g (av n :: caps) (.bool (nm n))) (hx : Bulk.bulk p ≤ 1048576) :
    CallsF Tryz.prog 86 [av p, .fn g caps] (.bool (shapeP nm p)) := by
  obtain ⟨s1, s2, s3, s4⟩ := prog_small hx
  refine fun_impl_shapeOk rfl (by simp; exact ⟨AVal.clean p, AvPure.fn hpc⟩) (AvPure.bool _) ?_
  have C1 := within_ok (p.nodes.length : Int) 1 600
  rw [shapeP_as]
  by_cases hh : headP p = true
  · have hh' := hh
    unfold headP at hh'
    simp only [Bool.and_eq_true, decide_eq_true_eq] at hh'
    obtain ⟨⟨h1, h2⟩, h3⟩ := hh'
    rw [decide_eq_true h1, decide_eq_true h2] at C1
    have h3' : ¬ (8 : Int) < p.types.length := by omega
    have C2 := inOrder_ok (nkids p.nodes) p.nodes.length s4 149 [.obj [.sl (p.types.map av), .sl (p.nodes.map av)]] (by simp; exact progPure p) (by intro hp; rfl) (fun i hi => ⟨by
      have := (node_small s2 (List.getElem_mem hi)).1
      rw [nkids, getD_at hi]; exact this, shapeOk1_ok p i hi⟩)
    simp +contextual -dsimp (maxSteps := 2000000) only [↓SD, SU, SB, Nat.reduceAdd, Nat.reduceBEq, Nat.reduceEqDiff, Nat.reduceLeDiff, Nat.reduceLT, Nat.reduceSub, ↓reduceIte, forall_const, implies_true, ne_eq, reduceCtorEq, Int.reduceToNat, forall_eq, ir_impl_shapeOk, rs_impl_shapeOk, av_Program, map_len]
    refine aCallK_of _ C1 ?_
    simp +contextual -dsimp (maxSteps := 2000000) only [↓SD, SU, SB, Nat.reduceAdd, Nat.reduceBEq, Nat.reduceEqDiff, Nat.reduceLeDiff, Nat.reduceLT, Nat.reduceSub, ↓reduceIte, forall_const, implies_true, ne_eq, reduceCtorEq, Int.reduceToNat, forall_eq, map_len, h3']
    rw [hh]
    cases ht : treeB (nkids p.nodes) p.nodes.length with
    | false =>
      rw [ht] at C2
      refine aCallK_of _ C2 ?_
      simp +contextual -dsimp (maxSteps := 2000000) only [↓SD, SU, SB, Nat.reduceAdd, Nat.reduceBEq, Nat.reduceEqDiff, Nat.reduceLeDiff, Nat.reduceLT, Nat.reduceSub, ↓reduceIte, forall_const, implies_true, ne_eq, reduceCtorEq, Int.reduceToNat, forall_eq, Bool.and_false, Bool.false_and]
    | true =>
      rw [ht] at C2
      refine aCallK_of _ C2 ?_
      simp +contextual -dsimp (maxSteps := 2000000) only [↓SD, SU, SB, Nat.reduceAdd, Nat.reduceBEq, Nat.reduceEqDiff, Nat.reduceLeDiff, Nat.reduceLT, Nat.reduceSub, ↓reduceIte, forall_const, implies_true, ne_eq, reduceCtorEq, Int.reduceToNat, forall_eq, map_len]
      refine aLoop_of (X := Nat) (fun k => ⟨[(1, .fn g caps), (2, .obj [.sl (p.types.map av), .sl (p.nodes.map av)]), (25, .sl (p.nodes.map av)), (26, .int .i64 p.nodes.length), (27, .int .i64 k)], []⟩) (fun k => k ≤ p.nodes.length ∧ (p.nodes.take k).all (nodeB nm p.nodes) = true) (fun k => p.nodes.length - k) 0 ⟨Nat.zero_le _, rfl⟩ (by simp +contextual -dsimp (maxSteps := 2000000) only [↓SD, SU, SB, Nat.reduceAdd, Nat.reduceBEq, Nat.reduceEqDiff, Nat.reduceLeDiff, Nat.reduceLT, Nat.reduceSub, ↓reduceIte, forall_const, implies_true, ne_eq, reduceCtorEq, Int.reduceToNat, forall_eq]) trivial ?_
      rintro k ⟨hk, hp⟩
      by_cases hlt : k < p.nodes.length
      · have e := getD_map av p.nodes k .top hlt
        have hm := List.getElem_mem hlt
        obtain ⟨b1, b2, b3, b4⟩ := node_small s2 hm
        have C3 := nodeOk_ok nm p p.nodes[k] g caps hpc hc (hg _ hm) s4 b1 b2 b4 (fun x hx' => by
          have := tree_in ht hlt (k := x) (by rw [nkids, getD_at hlt]; exact hx')
          omega)
        have hno : nodeB nm p.nodes p.nodes[k] = false → p.nodes.all (nodeB nm p.nodes) = false := fun h => all_false' _ hlt h
        have hyes : nodeB nm p.nodes p.nodes[k] = true → (p.nodes.take (k + 1)).all (nodeB nm p.nodes) = true := fun h => by rw [all_take' _ hlt hp]; exact h
        generalize p.nodes[k] = n at *
        rw [av_Node, av_Program] at C3
        simp +contextual -dsimp (maxSteps := 2000000) only [↓SD, SU, SB, Nat.reduceAdd, Nat.reduceBEq, Nat.reduceEqDiff, Nat.reduceLeDiff, Nat.reduceLT, Nat.reduceSub, ↓reduceIte, forall_const, implies_true, ne_eq, reduceCtorEq, Int.reduceToNat, forall_eq, map_len, hlt, e, av_Node, hc]
        intro v
        refine aCallK_of _ C3 ?_
        simp +contextual -dsimp (maxSteps := 2000000) only [↓SD, SU, SB, Nat.reduceAdd, Nat.reduceBEq, Nat.reduceEqDiff, Nat.reduceLeDiff, Nat.reduceLT, Nat.reduceSub, ↓reduceIte, forall_const, implies_true, ne_eq, reduceCtorEq, Int.reduceToNat, forall_eq, hc]
        refine ⟨fun h => by rw [hno h]; simp, fun h => ⟨by omega, Goes.le ⟨k + 1, ⟨⟨hlt, hyes h⟩, (by first | omega | (simp only; omega))⟩, rfl⟩ (by simp +contextual -dsimp (maxSteps := 2000000) only [↓SD, SU, SB, Nat.reduceAdd, Nat.reduceBEq, Nat.reduceEqDiff, Nat.reduceLeDiff, Nat.reduceLT, Nat.reduceSub, ↓reduceIte, forall_const, implies_true, ne_eq, reduceCtorEq, Int.reduceToNat, forall_eq, Int.natCast_add]) trivial⟩⟩
      · obtain rfl : k = p.nodes.length := by omega
        rw [List.take_length] at hp
        have C4 := ContainsFunc_Type_ok p.types 152 [] (fun t => !typeB t) (by omega) (by simp) (by intro hp; rfl) (fun t ht' => shapeOk2_ok t (by have := bulk_mem ht'; omega))
        simp +contextual -dsimp (maxSteps := 2000000) only [↓SD, SU, SB, Nat.reduceAdd, Nat.reduceBEq, Nat.reduceEqDiff, Nat.reduceLeDiff, Nat.reduceLT, Nat.reduceSub, ↓reduceIte, forall_const, implies_true, ne_eq, reduceCtorEq, Int.reduceToNat, forall_eq, map_len, Nat.lt_irrefl]
        refine aCallK_of _ C4 ?_
        simp +contextual -dsimp (maxSteps := 2000000) only [↓SD, SU, SB, Nat.reduceAdd, Nat.reduceBEq, Nat.reduceEqDiff, Nat.reduceLeDiff, Nat.reduceLT, Nat.reduceSub, ↓reduceIte, forall_const, implies_true, ne_eq, reduceCtorEq, Int.reduceToNat, forall_eq, hp, Bool.true_and, Bool.and_true, Bool.and_self]
        congr 1
        rw [List.all_eq_not_any_not]
  · have hh0 : headP p = false := by simpa using hh
    rw [hh0]
    by_cases hw : 1 ≤ (p.nodes.length : Int) ∧ (p.nodes.length : Int) ≤ 600
    · rw [decide_eq_true hw.1, decide_eq_true hw.2] at C1
      have h3 : (8 : Int) < p.types.length := by
        unfold headP at hh0
        rw [decide_eq_true hw.1, decide_eq_true hw.2, Bool.true_and, Bool.true_and] at hh0
        have := of_decide_eq_false hh0
        omega
      simp +contextual -dsimp (maxSteps := 2000000) only [↓SD, SU, SB, Nat.reduceAdd, Nat.reduceBEq, Nat.reduceEqDiff, Nat.reduceLeDiff, Nat.reduceLT, Nat.reduceSub, ↓reduceIte, forall_const, implies_true, ne_eq, reduceCtorEq, Int.reduceToNat, forall_eq, ir_impl_shapeOk, rs_impl_shapeOk, av_Program, map_len]
      refine aCallK_of _ C1 ?_
      simp +contextual -dsimp (maxSteps := 2000000) only [↓SD, SU, SB, Nat.reduceAdd, Nat.reduceBEq, Nat.reduceEqDiff, Nat.reduceLeDiff, Nat.reduceLT, Nat.reduceSub, ↓reduceIte, forall_const, implies_true, ne_eq, reduceCtorEq, Int.reduceToNat, forall_eq, map_len, h3, Bool.false_and]
    · have hf : (decide (1 ≤ (p.nodes.length : Int)) && decide ((p.nodes.length : Int) ≤ 600)) = false := by
        rw [Bool.and_eq_false_iff, decide_eq_false_iff_not, decide_eq_false_iff_not]; omega
      rw [hf] at C1
      simp +contextual -dsimp (maxSteps := 2000000) only [↓SD, SU, SB, Nat.reduceAdd, Nat.reduceBEq, Nat.reduceEqDiff, Nat.reduceLeDiff, Nat.reduceLT, Nat.reduceSub, ↓reduceIte, forall_const, implies_true, ne_eq, reduceCtorEq, Int.reduceToNat, forall_eq, ir_impl_shapeOk, rs_impl_shapeOk, av_Program, map_len]
      refine aCallK_of _ C1 ?_
      simp +contextual -dsimp (maxSteps := 2000000) only [↓SD, SU, SB, Nat.reduceAdd, Nat.reduceBEq, Nat.reduceEqDiff, Nat.reduceLeDiff, Nat.reduceLT, Nat.reduceSub, ↓reduceIte, forall_const, implies_true, ne_eq, reduceCtorEq, Int.reduceToNat, forall_eq, Bool.false_and]

theorem programOk1_ok (n : Node) (hs : n.s.size ≤ 1048576) : CallsF Tryz.prog 87 [av n] (.bool (nameN n)) := by
  refine fun_impl_ProgramOk_1 rfl (by simp; exact AVal.clean n) (AvPure.bool _) ?_
  simp +contextual -dsimp (maxSteps := 2000000) only [↓SD, SU, SB, Nat.reduceAdd, Nat.reduceBEq, Nat.reduceEqDiff, Nat.reduceLeDiff, Nat.reduceLT, Nat.reduceSub, ↓reduceIte, forall_const, implies_true, ne_eq, reduceCtorEq, Int.reduceToNat, forall_eq, ir_impl_ProgramOk_1, rs_impl_ProgramOk_1, av_Node]
  refine aCallK_of _ (implNameOk_ok _ (by omega)) ?_
  simp +contextual -dsimp (maxSteps := 2000000) only [↓SD, SU, SB, Nat.reduceAdd, Nat.reduceBEq, Nat.reduceEqDiff, Nat.reduceLeDiff, Nat.reduceLT, Nat.reduceSub, ↓reduceIte, forall_const, implies_true, ne_eq, reduceCtorEq, Int.reduceToNat, forall_eq]
  (repeat' (first | intro _ | refine And.intro ?_ ?_))
  all_goals simp [nameN, *]
theorem programOk2_ok (q : Pat) (hx : Bulk.bulk q.nodes ≤ 1048576) : CallsF Tryz.prog 90 [av q] (.bool (!patB q.nodes)) := by
  refine fun_impl_ProgramOk_2 rfl (by simp; exact AVal.clean q) (AvPure.bool _) ?_
  simp +contextual -dsimp (maxSteps := 2000000) only [↓SD, SU, SB, Nat.reduceAdd, Nat.reduceBEq, Nat.reduceEqDiff, Nat.reduceLeDiff, Nat.reduceLT, Nat.reduceSub, ↓reduceIte, forall_const, implies_true, ne_eq, reduceCtorEq, Int.reduceToNat, forall_eq, ir_impl_ProgramOk_2, rs_impl_ProgramOk_2, av_Pat]
  refine aCallK_of _ (implPatOk_ok q.nodes hx) ?_
  simp +contextual -dsimp (maxSteps := 2000000) only [↓SD, SU, SB, Nat.reduceAdd, Nat.reduceBEq, Nat.reduceEqDiff, Nat.reduceLeDiff, Nat.reduceLT, Nat.reduceSub, ↓reduceIte, forall_const, implies_true, ne_eq, reduceCtorEq, Int.reduceToNat, forall_eq]
theorem pat_small {l : List Pat} (hx : Bulk.bulk l ≤ 1048576) {q : Pat} (hn : q ∈ l) : Bulk.bulk q.nodes ≤ 1048576 := by
  have h1 := bulk_mem hn
  have h2 : Bulk.bulk q = Bulk.bulk q.nodes + 1 := rfl
  omega
def patsB (n : Node) : Bool := n.pats.all fun q => patB q.nodes
theorem progB_as (p : Program) : progB p = (shapeP nameN p && p.nodes.all patsB) := rfl
theorem implProgramOk_ok (p : Program) (hx : Bulk.bulk p ≤ 1048576) : CallsF Tryz.prog 47 [av p] (.bool (progB p)) := by
  obtain ⟨s1, s2, s3, s4⟩ := prog_small hx
  refine fun_impl_ProgramOk rfl (by simp; exact AVal.clean p) (AvPure.bool _) ?_
  have C1 := shapeOk_ok nameN p 87 [] (by simp) (by intro hp; rfl) (fun n hn => programOk1_ok n (node_small s2 hn).2.1) hx
  rw [av_Program] at C1
  simp +contextual -dsimp (maxSteps := 2000000) only [↓SD, SU, SB, Nat.reduceAdd, Nat.reduceBEq, Nat.reduceEqDiff, Nat.reduceLeDiff, Nat.reduceLT, Nat.reduceSub, ↓reduceIte, forall_const, implies_true, ne_eq, reduceCtorEq, Int.reduceToNat, forall_eq, ir_impl_ProgramOk, rs_impl_ProgramOk, av_Program, map_len]
  rw [progB_as]
  cases hsh : shapeP nameN p with
  | false =>
    rw [hsh] at C1
    refine aCallK_of _ C1 ?_
    simp +contextual -dsimp (maxSteps := 2000000) only [↓SD, SU, SB, Nat.reduceAdd, Nat.reduceBEq, Nat.reduceEqDiff, Nat.reduceLeDiff, Nat.reduceLT, Nat.reduceSub, ↓reduceIte, forall_const, implies_true, ne_eq, reduceCtorEq, Int.reduceToNat, forall_eq, Bool.false_and]
  | true =>
    rw [hsh] at C1
    refine aCallK_of _ C1 ?_
    simp +contextual -dsimp (maxSteps := 2000000) only [↓SD, SU, SB, Nat.reduceAdd, Nat.reduceBEq, Nat.reduceEqDiff, Nat.reduceLeDiff, Nat.reduceLT, Nat.reduceSub, ↓reduceIte, forall_const, implies_true, ne_eq, reduceCtorEq, Int.reduceToNat, forall_eq, map_len, Bool.true_and]
    refine aLoop_of (X := Nat) (fun k => ⟨[(9, .sl (p.nodes.map av)), (10, .int .i64 p.nodes.length), (11, .int .i64 k)], []⟩) (fun k => k ≤ p.nodes.length ∧ (p.nodes.take k).all patsB = true) (fun k => p.nodes.length - k) 0 ⟨Nat.zero_le _, rfl⟩ (by simp +contextual -dsimp (maxSteps := 2000000) only [↓SD, SU, SB, Nat.reduceAdd, Nat.reduceBEq, Nat.reduceEqDiff, Nat.reduceLeDiff, Nat.reduceLT, Nat.reduceSub, ↓reduceIte, forall_const, implies_true, ne_eq, reduceCtorEq, Int.reduceToNat, forall_eq]) trivial ?_
    rintro k ⟨hk, hp⟩
    by_cases hlt : k < p.nodes.length
    · have e := getD_map av p.nodes k .top hlt
      have hm := List.getElem_mem hlt
      obtain ⟨b1, b2, b3, b4⟩ := node_small s2 hm
      have C3 := ContainsFunc_Pat_ok p.nodes[k].pats 90 [] (fun q => !patB q.nodes) (by omega) (by simp) (by intro hp; rfl) (fun q hq => programOk2_ok q (pat_small b3 hq))
      have hno : patsB p.nodes[k] = false → p.nodes.all patsB = false := fun h => all_false' _ hlt h
      have hyes : patsB p.nodes[k] = true → (p.nodes.take (k + 1)).all patsB = true := fun h => by rw [all_take' _ hlt hp]; exact h
      have hpe : (p.nodes[k].pats.any fun q => !patB q.nodes) = !patsB p.nodes[k] := by
        unfold patsB; rw [List.all_eq_not_any_not, Bool.not_not]
      rw [hpe] at C3
      generalize p.nodes[k] = n at *
      simp +contextual -dsimp (maxSteps := 2000000) only [↓SD, SU, SB, Nat.reduceAdd, Nat.reduceBEq, Nat.reduceEqDiff, Nat.reduceLeDiff, Nat.reduceLT, Nat.reduceSub, ↓reduceIte, forall_const, implies_true, ne_eq, reduceCtorEq, Int.reduceToNat, forall_eq, map_len, hlt, e, av_Node]
      intro v
      refine aCallK_of _ C3 ?_
      simp +contextual -dsimp (maxSteps := 2000000) only [↓SD, SU, SB, Nat.reduceAdd, Nat.reduceBEq, Nat.reduceEqDiff, Nat.reduceLeDiff, Nat.reduceLT, Nat.reduceSub, ↓reduceIte, forall_const, implies_true, ne_eq, reduceCtorEq, Int.reduceToNat, forall_eq]
      refine ⟨fun h => by rw [hno h], fun h => ⟨by omega, Goes.le ⟨k + 1, ⟨⟨hlt, hyes h⟩, (by first | omega | (simp only; omega))⟩, rfl⟩ (by simp +contextual -dsimp (maxSteps := 2000000) only [↓SD, SU, SB, Nat.reduceAdd, Nat.reduceBEq, Nat.reduceEqDiff, Nat.reduceLeDiff, Nat.reduceLT, Nat.reduceSub, ↓reduceIte, forall_const, implies_true, ne_eq, reduceCtorEq, Int.reduceToNat, forall_eq, Int.natCast_add]) trivial⟩⟩
    · obtain rfl : k = p.nodes.length := by omega
      rw [List.take_length] at hp
      simp +contextual -dsimp (maxSteps := 2000000) only [↓SD, SU, SB, Nat.reduceAdd, Nat.reduceBEq, Nat.reduceEqDiff, Nat.reduceLeDiff, Nat.reduceLT, Nat.reduceSub, ↓reduceIte, forall_const, implies_true, ne_eq, reduceCtorEq, Int.reduceToNat, forall_eq, map_len, Nat.lt_irrefl, hp]
end Go.Proofs.YtpomnlejlgojaaaGreat
