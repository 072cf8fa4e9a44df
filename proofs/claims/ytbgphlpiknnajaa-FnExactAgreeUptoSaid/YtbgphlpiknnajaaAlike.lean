/-
  Alike, Ends, Agree: the program's and the reference's, each by what it returns. Conditions: the arguments read as the given data.
-/
import Derived.Test.YtbgphlpiknnajaaRows
import Derived.Test.YtbgphlpiknnajaaBase
import Derived.Test.YtbgphlpiknnajaaOut
import Derived.Test.YtbgphlpiknnajaaDOutcome
import Derived.Test.YtbgphlpiknnajaaOwn
import Derived.Deep.RegionHeld3
namespace Go.Proofs.Ytbgphlpiknnajaa
open Go.RowKit Go.Proofs.Ytbgphlpiknnajaa.Ml

set_option maxHeartbeats 400000 in
theorem specAlike {S : Nat → Prop} {w : World} {v1 v2 : Value} {l1 l2 : List ByteArray} (h1 : RepSl S w v1 l1) (h2 : RepSl S w v2 l2) (hS : ∀ b, S b → b < w.heap.size) (k1 n1 s1 k2 n2 s2 : Int) :
    Calls Try.prog 30 #[.agg #[.int .i64 k1, .int .i64 n1, v1, .int .i64 s1], .agg #[.int .i64 k2, .int .i64 n2, v2, .int .i64 s2]] w fun e w' => e = .returned (.bool (decide (k1 = k2 ∧ n1 = n2 ∧ l1 = l2))) ∧ Below w.heap.size w w' := by
  obtain ⟨a1, c1, rfl⟩ := h1.form
  obtain ⟨a2, c2, rfl⟩ := h2.form
  have hm1 := h1.cap
  have hm2 := h2.cap
  by_cases hk : k1 = k2
  · subst hk
    by_cases hn : n1 = n2
    · subst hn
      by_cases hl : l1.length = l2.length
      · have hb : ((l1.length : Int) == (l2.length : Int)) = true := by simp [hl]
        have HL := Lib.hid hl; clear hl
        go_enter Try.func30, Try.ntmps30
        go_wp2_with fail
        refine (specBegins (S := S) (h1.carry (fun _ h => h) (Same.below (belA (belA (bel0 _) (Nat.le_refl _) _) (Nat.le_refl _) _) hS)) (h2.carry (fun _ h => h) (Same.below (belA (belA (bel0 _) (Nat.le_refl _) _) (Nat.le_refl _) _) hS)) (fun b hb => by have := hS b hb; simp; omega) _ _ _ _ _ _).mono ?_
        rintro e w1 ⟨rfl, hb⟩
        go_wp2_with fail
        go_ret
        refine ⟨retB ?_, (belA (belA (bel0 _) (Nat.le_refl _) _) (Nat.le_refl _) _).trans (hb.mono (by simp; omega))⟩
        rw [List.take_of_length_le (by have := HL.out; omega)]; simp
      · have hb : ((l1.length : Int) == (l2.length : Int)) = false := by simp; omega
        have HL := Lib.hid hl; clear hl
        go_enter Try.func30, Try.ntmps30
        go_wp2_with fail
        go_ret
        exact ⟨retB (decide_eq_false (fun h => HL.out (by rw [h.2.2]))).symm, belA (belA (bel0 _) (Nat.le_refl _) _) (Nat.le_refl _) _⟩
    · have hb : (n1 == n2) = false := by simpa using hn
      have HL := Lib.hid hn; clear hn
      go_enter Try.func30, Try.ntmps30
      go_wp2_with fail
      go_ret
      exact ⟨retB (decide_eq_false (fun h => HL.out h.2.1)).symm, belA (belA (bel0 _) (Nat.le_refl _) _) (Nat.le_refl _) _⟩
  · have hb : (k1 == k2) = false := by simpa using hk
    have HL := Lib.hid hk; clear hk
    go_enter Try.func30, Try.ntmps30
    go_wp2_with fail
    go_ret
    exact ⟨retB (decide_eq_false (fun h => HL.out h.1)).symm, belA (belA (bel0 _) (Nat.le_refl _) _) (Nat.le_refl _) _⟩

set_option maxHeartbeats 400000 in
theorem implAlike {S : Nat → Prop} {w : World} {v1 v2 : Value} {l1 l2 : List ByteArray} (h1 : RepSl S w v1 l1) (h2 : RepSl S w v2 l2) (hS : ∀ b, S b → b < w.heap.size) (k1 n1 s1 k2 n2 s2 : Int) :
    Calls Try.prog 31 #[.agg #[.int .i64 k1, .int .i64 n1, v1, .int .i64 s1], .agg #[.int .i64 k2, .int .i64 n2, v2, .int .i64 s2]] w fun e w' => e = .returned (.bool (decide (k1 = k2 ∧ n1 = n2 ∧ l1 = l2))) ∧ Below w.heap.size w w' := by
  obtain ⟨a1, c1, rfl⟩ := h1.form
  obtain ⟨a2, c2, rfl⟩ := h2.form
  by_cases hk : k1 = k2
  · subst hk
    by_cases hn : n1 = n2
    · subst hn
      go_enter Try.func31, Try.ntmps31
      go_wp2_with fail
      refine (equalStrs (S := S) (h1.carry (fun _ h => h) (Same.below (belA (belA (bel0 _) (Nat.le_refl _) _) (Nat.le_refl _) _) hS)) (h2.carry (fun _ h => h) (Same.below (belA (belA (bel0 _) (Nat.le_refl _) _) (Nat.le_refl _) _) hS))).mono ?_
      rintro e w1 ⟨rfl, m, rfl⟩
      go_wp2_with fail
      go_ret
      exact ⟨retB (by simp), belN (belA (belA (bel0 _) (Nat.le_refl _) _) (Nat.le_refl _) _) _⟩
    · have hb : (n1 == n2) = false := by simpa using hn
      have HL := Lib.hid hn; clear hn
      go_enter Try.func31, Try.ntmps31
      go_wp2_with fail
      go_ret
      exact ⟨retB (decide_eq_false (fun h => HL.out h.2.1)).symm, belA (belA (bel0 _) (Nat.le_refl _) _) (Nat.le_refl _) _⟩
  · have hb : (k1 == k2) = false := by simpa using hk
    have HL := Lib.hid hk; clear hk
    go_enter Try.func31, Try.ntmps31
    go_wp2_with fail
    go_ret
    exact ⟨retB (decide_eq_false (fun h => HL.out h.1)).symm, belA (belA (bel0 _) (Nat.le_refl _) _) (Nat.le_refl _) _⟩

def Alike (x y : Outcome) : Bool := decide (x.kind = y.kind ∧ x.n = y.n ∧ x.trace = y.trace)
def Begins (x y : Outcome) : Bool := decide (x.trace = y.trace.take x.trace.length)

theorem spec_Alike {w : World} {cs1 cs2 : List Value} {x y : Outcome} (h1 : RV w cs1 x) (h2 : RV w cs2 y) :
    Calls Try.prog 30 #[.agg cs1.toArray, .agg cs2.toArray] w fun e w' => e = .returned (.bool (Alike x y)) ∧ Below w.heap.size w w' := by
  obtain ⟨a1, c1, rfl, _, _, _, s1⟩ := Outcome.form h1
  obtain ⟨a2, c2, rfl, _, _, _, s2⟩ := Outcome.form h2
  exact specAlike s1 s2 (fun _ h => h) _ _ _ _ _ _
theorem impl_Alike {w : World} {cs1 cs2 : List Value} {x y : Outcome} (h1 : RV w cs1 x) (h2 : RV w cs2 y) :
    Calls Try.prog 31 #[.agg cs1.toArray, .agg cs2.toArray] w fun e w' => e = .returned (.bool (Alike x y)) ∧ Below w.heap.size w w' := by
  obtain ⟨a1, c1, rfl, _, _, _, s1⟩ := Outcome.form h1
  obtain ⟨a2, c2, rfl, _, _, _, s2⟩ := Outcome.form h2
  exact implAlike s1 s2 (fun _ h => h) _ _ _ _ _ _
theorem spec_Begins {w : World} {cs1 cs2 : List Value} {x y : Outcome} (h1 : RV w cs1 x) (h2 : RV w cs2 y) :
    Calls Try.prog 26 #[.agg cs1.toArray, .agg cs2.toArray] w fun e w' => e = .returned (.bool (Begins x y)) ∧ Below w.heap.size w w' := by
  obtain ⟨a1, c1, rfl, _, _, _, s1⟩ := Outcome.form h1
  obtain ⟨a2, c2, rfl, _, _, _, s2⟩ := Outcome.form h2
  exact specBegins s1 s2 (fun _ h => h) _ _ _ _ _ _
theorem impl_Begins {w : World} {cs1 cs2 : List Value} {x y : Outcome} (h1 : RV w cs1 x) (h2 : RV w cs2 y) :
    Calls Try.prog 28 #[.agg cs1.toArray, .agg cs2.toArray] w fun e w' => e = .returned (.bool (Begins x y)) ∧ Below w.heap.size w w' := by
  obtain ⟨a1, c1, rfl, _, _, _, s1⟩ := Outcome.form h1
  obtain ⟨a2, c2, rfl, _, _, _, s2⟩ := Outcome.form h2
  exact implBegins s1 s2 (fun _ h => h) _ _ _ _ _ _

end Go.Proofs.Ytbgphlpiknnajaa
