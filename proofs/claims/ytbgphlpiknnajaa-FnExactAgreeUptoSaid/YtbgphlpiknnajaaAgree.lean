/-
  Ends, Agree: the program's and the reference's, each by what it returns. Conditions: the arguments read as the given data.
-/
import Derived.Test.YtbgphlpiknnajaaRows
import Derived.Test.YtbgphlpiknnajaaBase
import Derived.Test.YtbgphlpiknnajaaOut
import Derived.Test.YtbgphlpiknnajaaDOutcome
import Derived.Test.YtbgphlpiknnajaaOwn
import Derived.Test.YtbgphlpiknnajaaAlike
import Derived.Deep.RegionHeld3
set_option linter.unusedVariables false
set_option linter.unusedSimpArgs false
set_option maxRecDepth 100000
namespace Go.Proofs.Ytbgphlpiknnajaa
open Go.RowKit Go.Proofs.Ytbgphlpiknnajaa.Ml

def Ends (x : Outcome) : Bool := x.kind == 1 || x.kind == 2

theorem spec_Ends {w : World} {cs : List Value} {x : Outcome} (h : RV w cs x) :
    Calls Try.prog 44 #[.agg cs.toArray] w fun e w' => e = .returned (.bool (Ends x)) ∧ Below w.heap.size w w' := by
  obtain ⟨a1, c1, rfl, _⟩ := Outcome.form h
  go_enter Try.func44, Try.ntmps44
  go_wp2
  all_goals go_ret
  all_goals exact ⟨retB (by simp [Ends, *]), belA (bel0 _) (Nat.le_refl _) _⟩
theorem impl_Ends {w : World} {cs : List Value} {x : Outcome} (h : RV w cs x) :
    Calls Try.prog 45 #[.agg cs.toArray] w fun e w' => e = .returned (.bool (Ends x)) ∧ Below w.heap.size w w' := by
  obtain ⟨a1, c1, rfl, _⟩ := Outcome.form h
  go_enter Try.func45, Try.ntmps45
  go_wp2
  all_goals go_ret
  all_goals exact ⟨retB (by simp [Ends, *]), belA (bel0 _) (Nat.le_refl _) _⟩

def index2 (x y n : Int) : Int := if x = n then 0 else if y = n then 1 else -1
/-- slices.Contains over a row of two numbers -/
theorem impl_Index2 {w : World} {b : Nat} (hb : b < w.heap.size) (c : Nat) (x y n : Int) (h0 : w.cell? ⟨b, 0, none⟩ = some (.int .i64 x)) (h1 : w.cell? ⟨b, 1, none⟩ = some (.int .i64 y)) :
    Calls Try.prog 49 #[.slice (some ⟨b, 0, none⟩) 2 c, .int .i64 n] w fun e w' => e = .returned (.int .i64 (index2 x y n)) ∧ Below w.heap.size w w' := by
  go_enter Try.func49, Try.ntmps49
  go_wp2_with fail
  go_loopw [8] (fun i wr => ∃ k : Nat, k ≤ 2 ∧ i = .int .i64 k ∧ wr = w ∧ (0 < k → ¬ x = n) ∧ (1 < k → ¬ y = n)) (fun i _ => 2 - (intOf i).toNat)
  case atStart => exact ⟨0, by omega, rfl, rfl, fun h => absurd h (by omega), fun h => absurd h (by omega)⟩
  case round =>
    obtain ⟨k, hk, rfl, rfl, hx, hy⟩ := hrel
    rcases (show k = 0 ∨ k = 1 ∨ k = 2 by omega) with rfl | rfl | rfl
    · clear hx hy
      by_cases hxn : x = n
      · have hq : (n == x) = true := by simp [hxn]
        have HX := Lib.hid hxn; clear hxn
        go_wp2_with fail
        go_ret
        exact ⟨retI (by first | (unfold index2; rw [if_pos HX.out]; rfl)), bel0 _⟩
      · have hq : (n == x) = false := by simp; exact fun h => hxn h.symm
        have HX := Lib.hid hxn; clear hxn
        go_wp2_with fail
        go_roundw
        case rel => exact ⟨1, by omega, by go_num, by trivial, fun _ => HX.out, fun h => absurd h (by omega)⟩
        case measure => simp [intOf]
    · have HX := Lib.hid (hx (by omega)); clear hx hy
      by_cases hxn : y = n
      · have hq : (n == y) = true := by simp [hxn]
        have HY := Lib.hid hxn; clear hxn
        go_wp2_with fail
        go_ret
        exact ⟨retI (by first | (unfold index2; rw [if_neg HX.out, if_pos HY.out]; rfl)), bel0 _⟩
      · have hq : (n == y) = false := by simp; exact fun h => hxn h.symm
        have HY := Lib.hid hxn; clear hxn
        go_wp2_with fail
        go_roundw
        case rel => exact ⟨2, by omega, by go_num, by trivial, fun _ => HX.out, fun _ => HY.out⟩
        case measure => simp [intOf]
    · have HX := Lib.hid (hx (by omega)); have HY := Lib.hid (hy (by omega)); clear hx hy
      go_wp2_with fail
      go_ret
      exact ⟨retI (by first | (unfold index2; rw [if_neg HX.out, if_neg HY.out])), bel0 _⟩

theorem impl_Contains2 {w : World} {b : Nat} (hb : b < w.heap.size) (c : Nat) (x y n : Int) (h0 : w.cell? ⟨b, 0, none⟩ = some (.int .i64 x)) (h1 : w.cell? ⟨b, 1, none⟩ = some (.int .i64 y)) :
    Calls Try.prog 46 #[.slice (some ⟨b, 0, none⟩) 2 c, .int .i64 n] w fun e w' => e = .returned (.bool (x == n || y == n)) ∧ Below w.heap.size w w' := by
  go_enter Try.func46, Try.ntmps46
  go_wp2_with fail
  refine (impl_Index2 hb c x y n h0 h1).mono ?_
  rintro e w1 ⟨rfl, hb1⟩
  have hi : decide (0 ≤ index2 x y n) = (x == n || y == n) := by
    unfold index2
    by_cases h : x = n
    · simp [h]
    · by_cases h' : y = n <;> simp [h, h']
  have HI := Lib.hid hi; clear hi
  go_wp2_with fail
  all_goals go_ret
  all_goals exact ⟨retB (by first | (rw [← HI.out]; done) | (rw [← HI.out]; simp [*])), hb1⟩

def Agree (x y : Outcome) : Bool := Alike x y || ((!Ends x || !Ends y) && x.kind != 4 && y.kind != 4 && (Begins x y || Begins y x))

end Go.Proofs.Ytbgphlpiknnajaa
