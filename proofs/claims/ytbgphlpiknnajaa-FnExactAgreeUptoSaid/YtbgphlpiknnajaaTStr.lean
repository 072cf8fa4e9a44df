/-
  THE LAWS' OWN HELPERS OVER []string: how much it holds, its copy in new memory, whether two are equal. Conditions: the arguments read as the given data.
-/
import Derived.Test.YtbgphlpiknnajaaRows
import Derived.Test.YtbgphlpiknnajaaBase
import Derived.Test.YtbgphlpiknnajaaOwn
set_option linter.unusedVariables false
set_option maxRecDepth 100000
namespace Go.Proofs.Ytbgphlpiknnajaa
open Go.RowKit Go.Proofs.Ytbgphlpiknnajaa.Ml

theorem Try.infoStr : (Try.prog.info? 9).map (fun i => (i.zero, i.size, i.bytes)) = some (some (.string ByteArray.empty), 1, 16) := by kernel_rfl

set_option maxHeartbeats 400000 in
theorem toStringS_any {S : Nat → Prop} {w : World} {v : Value} {l : List ByteArray} (h : RepSl S w v l) (hS : ∀ b, S b → b < w.heap.size) (hl : l.length ≤ 1048576) :
    Calls Try.prog 41 #[v] w fun e w' => (Blk w' w.heap.size 9 (l.map Value.string) ∧ e = .returned (.slice (some ⟨w.heap.size, 0, none⟩) l.length l.length)) ∧ Below w.heap.size w w' := by
  obtain ⟨a, cap, rfl, hm, hc⟩ := h.strs
  have hmk := fun w => run_make_row' (P := Try.prog) 37 9 (.string ByteArray.empty) 16 Try.underlying37 Try.infoStr rfl .i64 .i64 l.length (by omega) (by omega) w
  go_enter Try.func41, Try.ntmps41
  go_wp2
  go_loopw [4] (fun i wr => ∃ k cs, k ≤ l.length ∧ i = .int .i64 (k : Nat) ∧ Blk wr w.heap.size 9 cs ∧ cs.length = l.length ∧ cs.take k = (l.take k).map Value.string ∧ Below w.heap.size w wr) (fun i _ => l.length - (intOf i).toNat)
  case atStart => exact ⟨0, _, Nat.zero_le _, rfl, Blk.new _ _ _, by simp [madeCells_list], rfl, belA (bel0 _) (Nat.le_refl _) _⟩
  case round =>
    obtain ⟨k, cs, hk, rfl, hblk, hlen, htk, hbel⟩ := hrel
    have HT := Lib.hid htk; clear htk
    have HL := Lib.hid hlen; clear hlen
    by_cases hlt : k < l.length
    · obtain ⟨b, o, rfl, sb, hx, _⟩ := hc k hlt
      clear hc hmk
      have hy := (hbel.cell (p := ⟨b, o + k, none⟩) (hS b sb)).trans hx
      have hold : ∃ u, wr.cell? ⟨w.heap.size, k, none⟩ = some u := ⟨_, hblk.cell (List.getElem?_eq_getElem (by have := HL.out; omega))⟩
      obtain ⟨u, hu⟩ := hold
      have hfr := hblk.frozen k
      have HX := Lib.hid (show l[k]? = some l[k] from List.getElem?_eq_getElem hlt)
      generalize l[k] = x at *
      clear hx
      go_wp2
      go_roundw
      case rel => exact ⟨k + 1, cs.set k (.string x), by omega, by go_num, hblk.set k _, by rw [List.length_set]; exact HL.out, take_set_snoc _ _ HX.out (by have := HL.out; omega) HT.out, hbel.setCell (Nat.le_refl _) _⟩
      case measure => simp [intOf]; omega
    · go_wp2
      go_ret
      have h1 := HT.out
      have h2 := HL.out
      rw [List.take_of_length_le (by omega), List.take_of_length_le (by omega)] at h1
      exact ⟨⟨by rw [← h1]; exact hblk, rfl⟩, hbel⟩

set_option maxHeartbeats 400000 in
theorem szStringS_any {S : Nat → Prop} {w : World} {v : Value} {l : List ByteArray} (h : RepSl S w v l) (left : Int) (h0 : 0 ≤ left) (h1 : left ≤ 1048576) :
    Calls Try.prog 40 #[v, .int .i64 left] w fun e w' => (∃ r : Int, -1 ≤ r ∧ r ≤ left ∧ e = .returned (.int .i64 r)) ∧ w = w' := by
  obtain ⟨a, cap, rfl, hm, hc⟩ := h.strs
  have hcap := h.cap
  go_enter Try.func40, Try.ntmps40
  go_wp2
  · go_ret
    exact ⟨⟨_, by omega, by omega, rfl⟩, rfl⟩
  go_loop [1, 5] (fun t i => ∃ (k : Nat) (q : Int), k ≤ l.length ∧ i = .int .i64 k ∧ t = .int .i64 q ∧ 0 ≤ q ∧ q ≤ left) (fun _ i => l.length - (intOf i).toNat)
  case atStart => exact ⟨0, _, Nat.zero_le _, rfl, rfl, by omega, by omega⟩
  case round =>
    obtain ⟨k, q, hk, rfl, rfl, hq0, hq1⟩ := hrel
    by_cases hlt : k < l.length
    · obtain ⟨b, o, rfl, sb, hx, hsz⟩ := hc k hlt
      have hsz' : l[k].size ≤ 9223372036854775807 := by unfold maxLen at hsz; omega
      clear hc
      generalize l[k] = x at *
      go_wp2
      · go_ret
        exact ⟨⟨_, by omega, by omega, rfl⟩, rfl⟩
      · go_round
        case rel => exact ⟨k + 1, _, by omega, by go_num, rfl, by omega, by omega⟩
        case measure => simp [intOf]; omega
    · go_wp2
      go_ret
      exact ⟨⟨_, by omega, by omega, rfl⟩, rfl⟩

set_option maxHeartbeats 400000 in
theorem eqStringS_any {S : Nat → Prop} {w : World} {v1 v2 : Value} {l1 l2 : List ByteArray} (h1 : RepSl S w v1 l1) (h2 : RepSl S w v2 l2) :
    Calls Try.prog 43 #[v1, v2] w fun e w' => e = .returned (.bool (decide (l1 = l2))) ∧ ∃ n, w' = w.drewN n := by
  obtain ⟨a1, c1, rfl, hm1, hc1⟩ := h1.strs
  obtain ⟨a2, c2, rfl, hm2, hc2⟩ := h2.strs
  by_cases hne : l1.length = l2.length
  · have hbe : ((l1.length : Int) != (l2.length : Int)) = false := by simp [hne]
    have HN := Lib.hid hne; clear hne
    go_enter Try.func43, Try.ntmps43
    go_wp2
    go_loopw [5] (fun i wr => ∃ k : Nat, k ≤ l1.length ∧ i = .int .i64 k ∧ l1.take k = l2.take k ∧ ∃ n, wr = w.drewN n) (fun i _ => l1.length - (intOf i).toNat)
    case atStart => exact ⟨0, Nat.zero_le _, rfl, rfl, 0, rfl⟩
    case round =>
      obtain ⟨k, hk, rfl, hpre, n, rfl⟩ := hrel
      have HP := Lib.hid hpre; clear hpre
      by_cases hlt : k < l1.length
      · have hlt2 : k < l2.length := by have := HN.out; omega
        obtain ⟨b1, o1, rfl, _, hx1, hs1⟩ := hc1 k hlt
        obtain ⟨b2, o2, rfl, _, hx2, hs2⟩ := hc2 k hlt2
        clear hc1 hc2
        have HT := Lib.hid (take_snoc_iff hlt hlt2 HP.out)
        have HE := Lib.hid (take_ne hlt hlt2)
        generalize l1[k] = x1 at *
        generalize l2[k] = x2 at *
        by_cases hx : x1 = x2
        · have hb := strT hx
          have HX := Lib.hid (HT.out.2 hx); clear hx HT HE
          go_wp2
          go_quiet (fail)
          go_wp2
          go_roundw
          case rel => exact ⟨k + 1, by omega, by go_num, HX.out, _, rfl⟩
          case measure => simp [intOf]; omega
        · have hb := strF hx
          have HX := Lib.hid (HE.out hx); clear hx HT HE
          go_wp2
          go_quiet (fail)
          go_wp2
          go_ret
          exact ⟨retB (decide_eq_false HX.out).symm, _, World.drewN_drewN ..⟩
      · have hl : l1 = l2 := by
          have h := HP.out
          have hn := HN.out
          rwa [List.take_of_length_le (by omega), List.take_of_length_le (by omega)] at h
        have HL := Lib.hid hl; clear hl
        go_wp2
        go_ret
        exact ⟨retB (decide_eq_true HL.out).symm, _, rfl⟩
  · have hbe : ((l1.length : Int) != (l2.length : Int)) = true := by simp; omega
    have HN := Lib.hid hne; clear hne
    go_enter Try.func43, Try.ntmps43
    go_wp2
    go_ret
    exact ⟨retB (decide_eq_false (fun h => HN.out (by rw [h]))).symm, 0, rfl⟩

theorem RepSl_own {S : Nat → Prop} {w : World} {b c : Nat} {e : TypeId} {l : List ByteArray} (h : Blk w b e (l.map Value.string)) (hb : S b) (hs : ∀ x ∈ l, x.size ≤ maxLen) (hc : l.length ≤ c) (hm : c ≤ maxLen) : RepSl S w (.slice (some ⟨b, 0, none⟩) l.length c) l := by
  refine ⟨_, c, rfl, hc, hm, .inr ⟨b, 0, rfl, hb, h.row fun i x hx => ⟨[.string x], fun j u hu => ?_, rfl, hs x (List.mem_of_getElem? hx)⟩⟩⟩
  match j, hu with
  | 0, hu =>
    simp at hu
    subst hu
    show (l.map Value.string)[i * 1 + 0]? = _
    simp [hx]


theorem sz_StringS {w : World} {v : Value} {l : List ByteArray} (h : Rd w v l) (left : Int) (h0 : 0 ≤ left) (h1 : left ≤ 1048576) :
    Calls Try.prog 40 #[v, .int .i64 left] w fun e w' => (∃ r : Int, -1 ≤ r ∧ r ≤ left ∧ e = .returned (.int .i64 r)) ∧ Below w.heap.size w w' :=
  (szStringS_any h left h0 h1).mono fun e w' ⟨h1, h2⟩ => ⟨h1, h2 ▸ bel0 w⟩
theorem eq_StringS {w : World} {v1 v2 : Value} {l : List ByteArray} (h1 : Rd w v1 l) (h2 : Rd w v2 l) :
    Calls Try.prog 43 #[v1, v2] w fun e w' => e = .returned (.bool true) ∧ Below w.heap.size w w' :=
  (eqStringS_any h1 h2).mono fun e w' ⟨h1, n, h2⟩ => ⟨by rw [h1, decide_eq_true rfl], h2 ▸ belN (bel0 w) n⟩
theorem strs_els {w : World} : ∀ {l : List ByteArray}, (∀ x ∈ l, x.size ≤ maxLen) → OwnEls (l.map fun _ => []) w (l.map fun s => [Value.string s]) l
  | [], _ => trivial
  | x :: xs, h => ⟨⟨rfl, rfl, h x (by simp)⟩, strs_els fun y hy => h y (by simp [hy])⟩
theorem flat1 {l : List ByteArray} : (l.map fun s => [Value.string s]).flatten = l.map Value.string := by
  induction l with
  | nil => rfl
  | cons x r ih => simp [ih]
theorem to_StringS {w : World} {v : Value} {l : List ByteArray} (h : Rd w v l) (hk : Bulk.bulk l ≤ 1048576) :
    Calls Try.prog 41 #[v] w fun e w' => (∃ f v', e = .returned v' ∧ OwnSl f w' v' l ∧ New w f) ∧ Below w.heap.size w w' := by
  have hl := bulk_length l
  refine (toStringS_any h (fun _ h => h) (by omega)).mono fun e w' ⟨⟨h1, h2⟩, h3⟩ => ⟨⟨[w.heap.size], _, h2, .inr ⟨w.heap.size, l.length, 9, [], l.map fun _ => [], l.map fun s => [Value.string s], rfl, ?_, ?_, Nat.le_refl _, by unfold maxLen; omega, by simp, strs_els fun x hx => strs_le h hx⟩, by simp [New]⟩, h3⟩
  · rw [flat1, List.append_nil]; exact h1
  · rw [flat1]; simp [Rep.n]

end Go.Proofs.Ytbgphlpiknnajaa
