/-
  THE LAWS' OWN HELPERS OVER []int: whether two are equal, the marks, what is held of them. Conditions: the arguments read as the given data; the marks fit an int.
-/
import Derived.Test.YtbgphlpiknnajaaRows
import Derived.Test.YtbgphlpiknnajaaOwn
import Derived.Test.YtbgphlpiknnajaaMark
import Derived.Deep.RegionHeld3
set_option linter.unusedVariables false
set_option linter.unusedSimpArgs false
set_option maxRecDepth 100000
namespace Go.Proofs.Ytbgphlpiknnajaa
open Go.RowKit Go.Proofs.Ytbgphlpiknnajaa.Ml

/-- a slice of ints: where its cells lie -/
theorem ints_at {S : Nat → Prop} {w : World} {v : Value} {l : List Int} (h : RepSl S w v l) :
    ∃ a cap, v = .slice a l.length cap ∧ l.length ≤ 9223372036854775807 ∧ ∀ i (hi : i < l.length), ∃ b o, a = some ⟨b, o, none⟩ ∧ S b ∧ w.cell? ⟨b, o + i, none⟩ = some (.int .i64 l[i]) ∧ -9223372036854775808 ≤ l[i] ∧ l[i] ≤ 9223372036854775807 := by
  obtain ⟨a, cap, rfl, h1, h2, h3⟩ := h
  refine ⟨a, cap, rfl, by unfold maxLen at h2; omega, fun i hi => ?_⟩
  rcases h3 with rfl | ⟨b, o, rfl, hb, hr⟩
  · simp at hi
  · obtain ⟨cs, hat, rfl, hsz⟩ := hr.get hi
    have := hat 0 _ rfl
    simp [Rep.n] at this
    exact ⟨b, o, rfl, hb, this, hsz⟩

theorem ints_els {w : World} : ∀ {l : List Int}, (∀ x ∈ l, -9223372036854775808 ≤ x ∧ x ≤ 9223372036854775807) → OwnEls (l.map fun _ => []) w (l.map fun s => [Value.int .i64 s]) l
  | [], _ => trivial
  | x :: xs, h => ⟨⟨rfl, rfl, (h x (by simp)).1, (h x (by simp)).2⟩, ints_els fun y hy => h y (by simp [hy])⟩
theorem flatI {l : List Int} : (l.map fun s => [Value.int .i64 s]).flatten = l.map (Value.int .i64) := by
  induction l with
  | nil => rfl
  | cons x r ih => simp [ih]
/-- a block of ints is an owned slice -/
theorem own_ints {w : World} {g : Nat} {e : TypeId} {l : List Int} {rest : List Value} {cap : Nat} (h : Blk w g e (l.map (Value.int .i64) ++ rest)) (hl : ∀ x ∈ l, -9223372036854775808 ≤ x ∧ x ≤ 9223372036854775807) (hc : (l.map (Value.int .i64) ++ rest).length = cap) (hm : cap ≤ maxLen) :
    OwnSl [g] w (.slice (some ⟨g, 0, none⟩) l.length cap) l :=
  .inr ⟨g, cap, e, rest, l.map fun _ => [], l.map fun s => [Value.int .i64 s], rfl, by rw [flatI]; exact h, by rw [flatI, hc]; exact (Nat.mul_one _).symm, by rw [← hc]; simp, hm, by simp, ints_els hl⟩
theorem own_ints_lit (w : World) (e : TypeId) (l : List Int) (hl : ∀ x ∈ l, -9223372036854775808 ≤ x ∧ x ≤ 9223372036854775807) (hm : l.length ≤ maxLen) :
    OwnSl [w.heap.size] (w.alloc (.cells (l.map (Value.int .i64)).toArray e)) (.slice (some ⟨w.heap.size, 0, none⟩) l.length l.length) l :=
  own_ints (rest := []) (e := e) (by rw [List.append_nil]; exact Blk.new w e (l.map (Value.int .i64)).toArray) hl (by simp) hm

set_option maxHeartbeats 400000 in
theorem eq_IntS {w : World} {v1 v2 : Value} {l : List Int} (h1 : Rd w v1 l) (h2 : Rd w v2 l) :
    Calls Try.prog 22 #[v1, v2] w fun e w' => e = .returned (.bool true) ∧ Below w.heap.size w w' := by
  obtain ⟨a1, c1, rfl, hm1, hc1⟩ := ints_at h1
  obtain ⟨a2, c2, rfl, hm2, hc2⟩ := ints_at h2
  go_enter Try.func22, Try.ntmps22
  go_wp2
  go_loopw [5] (fun i wr => ∃ k : Nat, k ≤ l.length ∧ i = .int .i64 k ∧ Below w.heap.size w wr) (fun i _ => l.length - (intOf i).toNat)
  case atStart => exact ⟨0, Nat.zero_le _, rfl, bel0 _⟩
  case round =>
    obtain ⟨k, hk, rfl, hbel⟩ := hrel
    by_cases hlt : k < l.length
    · obtain ⟨b1, o1, rfl, sb1, hx1, _⟩ := hc1 k hlt
      obtain ⟨b2, o2, rfl, sb2, hx2, _⟩ := hc2 k hlt
      clear hc1 hc2
      have hy1 := (hbel.cell (p := ⟨b1, o1 + k, none⟩) sb1).trans hx1
      have hy2 := (hbel.cell (p := ⟨b2, o2 + k, none⟩) sb2).trans hx2
      generalize l[k] = x at *
      clear hx1 hx2
      go_wp2
      go_quiet (fail)
      go_wp2
      go_roundw
      case rel => exact ⟨k + 1, by omega, by go_num, belN hbel _⟩
      case measure => simp [intOf]; omega
    · go_wp2
      go_ret
      exact ⟨rfl, hbel⟩

set_option maxHeartbeats 1000000 in
theorem mark_IntS {w : World} {fp : List Nat} {v : Value} {l : List Int} (h : OwnSl fp w v l) (hnd : fp.Nodup) (k : Int) (h0 : 1 ≤ k) (h1 : k + (cntL l : Nat) ≤ 4611686018427387904) :
    Calls Try.prog 23 #[v, .int .i64 k] w fun e w' => e = .returned (.int .i64 (k + (cntL l : Nat))) ∧ OwnSl fp w' v (mkL k l) ∧ Tch fp w w' := by
  have hf := h.isRep.form
  obtain ⟨a, cap, rfl⟩ := hf
  have hcap := RepSl.cap h.isRep
  go_enter Try.func23, Try.ntmps23
  go_wp2
  go_loopw [1, 5] (fun t i wr => ∃ j : Nat, j ≤ l.length ∧ i = .int .i64 j ∧ t = .int .i64 (k + (cntL (l.take j) : Nat)) ∧ OwnSl fp wr (.slice a l.length cap) (midL k l j) ∧ Tch fp w wr) (fun _ i _ => l.length - (intOf i).toNat)
  case atStart => exact ⟨0, Nat.zero_le _, rfl, by simp [cntL], by rw [midL_zero]; exact h, Tch.refl _ _⟩
  case round =>
    obtain ⟨j, hj, rfl, rfl, hown, hto⟩ := hrel
    have hb := cntL_take_le l j
    by_cases hlt : j < l.length
    · obtain ⟨g, cap', e, pre, c, post, f, hv, hblk, hpre, hc, ho, hnf, hg, hgf, hff, hput⟩ := hown.split hnd (i := j) (by rw [midL_len]; exact hlt)
      rw [midL_get k hlt] at ho
      obtain ⟨rfl, rfl, _⟩ := ho
      simp only [Value.slice.injEq, midL_len, true_and] at hv
      obtain ⟨rfl, rfl⟩ := hv
      have hz : wr.cell? ⟨g, j, none⟩ = some (.int .i64 l[j]) := hblk.cell (by
        have : pre.length = j := by rw [hpre]; simp [Rep.n]
        rw [List.append_assoc, List.getElem?_append_right (by omega), this, Nat.sub_self]; rfl)
      have hfr := hblk.frozen j
      have hmid := hput (wr.setCell ⟨g, j, none⟩ (.int .i64 (k + (cntL (l.take j) : Nat)))) [.int .i64 (k + (cntL (l.take j) : Nat))] (k + (cntL (l.take j) : Nat)) (by
        have : pre.length = j := by rw [hpre]; simp [Rep.n]
        have h2 := hblk.set j (.int .i64 (k + (cntL (l.take j) : Nat)))
        rw [List.append_assoc, List.set_append_right _ _ (by omega), this, Nat.sub_self] at h2
        simpa using h2) ⟨rfl, rfl, by omega, by omega⟩ (fun b _ hb _ => Below.heap_setCell _ _ _ _ hb)
      have hset := midL_set k (l := l) hlt
      have HS := Lib.hid (show OwnSl fp (wr.setCell ⟨g, j, none⟩ (.int .i64 (k + (cntL (l.take j) : Nat)))) _ (midL k l (j + 1)) by rw [← hset]; exact hmid)
      have hto2 := hto.setCell (p := ⟨g, j, none⟩) hg (.int .i64 (k + (cntL (l.take j) : Nat)))
      have hcnt := Lib.hid (cntL_take hlt)
      clear hput hmid hset hown hto
      generalize cntL (l.take j) = q at *
      go_wp2
      go_roundw
      case rel => exact ⟨j + 1, by omega, by go_num, by rw [hcnt.out]; simp [Mk.cnt]; omega, HS.out, hto2⟩
      case measure => simp [intOf]; omega
    · obtain rfl : j = l.length := by omega
      rw [midL_end] at hown
      rw [List.take_length]
      go_wp2
      go_ret
      exact ⟨rfl, hown, hto⟩

set_option maxHeartbeats 1000000 in
theorem held_IntS {w : World} {v : Value} {l : List Int} (k : Int) (h : Rd w v (mkL k l)) (h0 : 1 ≤ k) (h1 : k + (cntL l : Nat) ≤ 4611686018427387904) :
    Calls Try.prog 24 #[v, .int .i64 k] w fun e w' => e = .returned (.int .i64 (k + (cntL l : Nat))) ∧ Below w.heap.size w w' := by
  obtain ⟨a, cap, rfl, hm, hc⟩ := ints_at h
  rw [mkL_len] at hm
  simp only [mkL_len] at hc ⊢
  go_enter Try.func24, Try.ntmps24
  go_wp2
  go_loopw [1, 5] (fun t i wr => ∃ j : Nat, j ≤ l.length ∧ i = .int .i64 j ∧ t = .int .i64 (k + (cntL (l.take j) : Nat)) ∧ Below w.heap.size w wr) (fun _ i _ => l.length - (intOf i).toNat)
  case atStart => exact ⟨0, Nat.zero_le _, rfl, by simp [cntL], bel0 _⟩
  case round =>
    obtain ⟨j, hj, rfl, rfl, hbel⟩ := hrel
    have hb := cntL_take_le l j
    by_cases hlt : j < l.length
    · obtain ⟨b, o, rfl, sb, hx, _⟩ := hc j hlt
      have hg := mkL_get hlt k
      rw [List.getElem?_eq_getElem (by rw [mkL_len]; exact hlt)] at hg
      simp only [Option.some.injEq] at hg
      rw [hg] at hx
      have hy := (hbel.cell (p := ⟨b, o + j, none⟩) sb).trans hx
      have hcnt := Lib.hid (cntL_take hlt)
      clear hc hx hg
      simp only [Mk.mark] at hy
      generalize cntL (l.take j) = q at *
      go_wp2
      go_roundw
      case rel => exact ⟨j + 1, by omega, by go_num, by rw [hcnt.out]; simp [Mk.cnt]; omega, hbel⟩
      case measure => simp [intOf]; omega
    · obtain rfl : j = l.length := by omega
      rw [List.take_length]
      go_wp2
      go_ret
      exact ⟨rfl, hbel⟩

end Go.Proofs.Ytbgphlpiknnajaa
