/-
  GoesOn, Targets: the program's and the reference's, each by what it returns. Conditions: the argument reads as the given data.
-/
import Derived.Test.YtbgphlpiknnajaaRows
import Derived.Test.YtbgphlpiknnajaaDIns
import Derived.Test.YtbgphlpiknnajaaTInt
set_option linter.unusedVariables false
set_option maxRecDepth 100000
namespace Go.Proofs.Ytbgphlpiknnajaa
open Go.RowKit Go.Proofs.Ytbgphlpiknnajaa.Ml

def GoesOn (x : Ins) : Bool := x.op != 12 && x.op != 11 && x.op != 17 && x.op != 21

theorem spec_GoesOn {w : World} {cs : List Value} {x : Ins} (h : RV w cs x) :
    Calls Try.prog 13 #[.agg cs.toArray] w fun e w' => e = .returned (.bool (GoesOn x)) ∧ Below w.heap.size w w' := by
  obtain ⟨rfl, _⟩ := Ins.form h
  unfold GoesOn
  go_enter Try.func13, Try.ntmps13
  go_wp2
  all_goals go_ret
  all_goals exact ⟨retB (by simp [*]), belA (bel0 _) (Nat.le_refl _) _⟩
theorem impl_GoesOn {w : World} {cs : List Value} {x : Ins} (h : RV w cs x) :
    Calls Try.prog 15 #[.agg cs.toArray] w fun e w' => e = .returned (.bool (GoesOn x)) ∧ Below w.heap.size w w' := by
  obtain ⟨rfl, _⟩ := Ins.form h
  unfold GoesOn
  go_enter Try.func15, Try.ntmps15
  go_wp2
  all_goals go_ret
  all_goals exact ⟨retB (by simp [*]), belA (bel0 _) (Nat.le_refl _) _⟩

def leads (op : Int) : Bool := op == 8 || op == 9 || op == 12 || op == 13 || op == 18
def Targets (x : Ins) : List Int := if leads x.op then [x.a] else if x.op = 20 then [x.b] else []

theorem impl_leads {w : World} (op : Int) : Calls Try.prog 39 #[.int .i64 op] w fun e w' => e = .returned (.bool (leads op)) ∧ w = w' := by
  unfold leads
  go_enter Try.func39, Try.ntmps39
  go_wp2
  all_goals go_ret
  all_goals exact ⟨retB (by simp [*]), rfl⟩

theorem spec_Targets {w : World} {cs : List Value} {x : Ins} (h : RV w cs x) :
    Calls Try.prog 20 #[.agg cs.toArray] w fun e w' => (∃ f v', e = .returned v' ∧ OwnSl f w' v' (Targets x) ∧ New w f) ∧ Below w.heap.size w w' := by
  obtain ⟨rfl, q0, q1, q2, _⟩ := Ins.form h
  have b0 := belA (bel0 w) (Nat.le_refl _) (Obj.cells #[.int .i64 x.op, .int .i64 x.a, .int .i64 x.b, .string x.s] 26)
  by_cases hl : leads x.op = true
  · have ht : Targets x = [x.a] := by simp [Targets, hl]
    rw [ht]
    have o1 := own_ints_lit (w.alloc (Obj.cells #[.int .i64 x.op, .int .i64 x.a, .int .i64 x.b, .string x.s] 26)) 3 [x.a] (by simp; exact q1) (by simp [maxLen])
    simp only [World.size_alloc] at o1
    have b1 := belA b0 (Nat.le_refl _) (Obj.cells #[.int .i64 x.a] 3)
    unfold leads at hl
    simp only [Bool.or_eq_true, beq_iff_eq] at hl
    clear ht
    rcases hl with (((hl | hl) | hl) | hl) | hl
    all_goals
      rw [hl] at o1 b0 b1 ⊢
      go_enter Try.func20, Try.ntmps20
      go_wp2_with fail
      go_ret
      exact ⟨⟨_, _, rfl, o1, by simp [New]⟩, b1⟩
  · have hl' : ¬ x.op = 8 ∧ ¬ x.op = 9 ∧ ¬ x.op = 12 ∧ ¬ x.op = 13 ∧ ¬ x.op = 18 := by
      unfold leads at hl
      simpa [and_assoc] using hl
    by_cases ha : x.op = 20
    · have ht : Targets x = [x.b] := by simp only [Targets, if_neg hl, if_pos ha]
      rw [ht]
      have o1 := own_ints_lit (w.alloc (Obj.cells #[.int .i64 x.op, .int .i64 x.a, .int .i64 x.b, .string x.s] 26)) 3 [x.b] (by simp; exact q2) (by simp [maxLen])
      simp only [World.size_alloc] at o1
      have b1 := belA b0 (Nat.le_refl _) (Obj.cells #[.int .i64 x.b] 3)
      clear ht hl hl'
      rw [ha] at o1 b0 b1 ⊢
      go_enter Try.func20, Try.ntmps20
      go_wp2_with fail
      go_ret
      exact ⟨⟨_, _, rfl, o1, by simp [New]⟩, b1⟩
    · have ht : Targets x = [] := by simp [Targets, hl, ha]
      rw [ht]
      have o1 := own_ints_lit (w.alloc (Obj.cells #[.int .i64 x.op, .int .i64 x.a, .int .i64 x.b, .string x.s] 26)) 3 [] (by simp) (by simp [maxLen])
      simp only [World.size_alloc] at o1
      have b1 := belA b0 (Nat.le_refl _) (Obj.cells #[] 3)
      clear ht hl
      obtain ⟨h1, h2, h3, h4, h5⟩ := hl'
      go_enter Try.func20, Try.ntmps20
      go_wp2_with fail
      go_ret
      exact ⟨⟨_, _, rfl, o1, by simp [New]⟩, b1⟩

theorem impl_Targets {w : World} {cs : List Value} {x : Ins} (h : RV w cs x) :
    Calls Try.prog 21 #[.agg cs.toArray] w fun e w' => (∃ f v', e = .returned v' ∧ OwnSl f w' v' (Targets x) ∧ New w f) ∧ Below w.heap.size w w' := by
  obtain ⟨rfl, q0, q1, q2, _⟩ := Ins.form h
  have b0 := belA (bel0 w) (Nat.le_refl _) (Obj.cells #[.int .i64 x.op, .int .i64 x.a, .int .i64 x.b, .string x.s] 26)
  by_cases hl : leads x.op = true
  · have ht : Targets x = [x.a] := by simp [Targets, hl]
    rw [ht]
    have o1 := own_ints_lit (w.alloc (Obj.cells #[.int .i64 x.op, .int .i64 x.a, .int .i64 x.b, .string x.s] 26)) 3 [x.a] (by simp; exact q1) (by simp [maxLen])
    simp only [World.size_alloc] at o1
    have b1 := belA b0 (Nat.le_refl _) (Obj.cells #[.int .i64 x.a] 3)
    clear ht
    go_enter Try.func21, Try.ntmps21
    go_wp2_with fail
    refine (impl_leads _).mono ?_
    rintro e w1 ⟨rfl, rfl⟩
    go_wp2_with fail
    go_ret
    exact ⟨⟨_, _, rfl, o1, by simp [New]⟩, b1⟩
  · have hl' : leads x.op = false := by simpa using hl
    by_cases ha : x.op = 20
    · have ht : Targets x = [x.b] := by simp only [Targets, if_neg hl, if_pos ha]
      rw [ht]
      have o1 := own_ints_lit (w.alloc (Obj.cells #[.int .i64 x.op, .int .i64 x.a, .int .i64 x.b, .string x.s] 26)) 3 [x.b] (by simp; exact q2) (by simp [maxLen])
      simp only [World.size_alloc] at o1
      have b1 := belA b0 (Nat.le_refl _) (Obj.cells #[.int .i64 x.b] 3)
      have hb : (x.op == 20) = true := by simp [ha]
      clear ha ht hl
      go_enter Try.func21, Try.ntmps21
      go_wp2_with fail
      refine (impl_leads _).mono ?_
      rintro e w1 ⟨rfl, rfl⟩
      go_wp2_with fail
      go_ret
      exact ⟨⟨_, _, rfl, o1, by simp [New]⟩, b1⟩
    · have ht : Targets x = [] := by simp only [Targets, if_neg hl, if_neg ha]
      rw [ht]
      have hb : (x.op == 20) = false := by simp [ha]
      clear ha ht hl
      go_enter Try.func21, Try.ntmps21
      go_wp2_with fail
      refine (impl_leads _).mono ?_
      rintro e w1 ⟨rfl, rfl⟩
      go_wp2_with fail
      go_ret
      exact ⟨⟨_, _, rfl, .inl ⟨rfl, rfl, rfl⟩, by simp [New]⟩, b0⟩

theorem targets_small (x : Ins) : cntL (Targets x) ≤ 1 := by
  unfold Targets
  split
  · simp [cntL, Mk.cnt]
  · split <;> simp [cntL, Mk.cnt]

end Go.Proofs.Ytbgphlpiknnajaa
