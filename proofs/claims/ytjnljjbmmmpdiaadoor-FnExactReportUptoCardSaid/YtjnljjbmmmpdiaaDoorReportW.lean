/-
 Report OF BOTH SIDES, and the law FnExactReport, by abstract texts. Conditions: block MaxLen holds an int.
-/
import Derived.Test.YtjnljjbmmmpdiaaDoorRepoI
set_option linter.unusedVariables false
set_option linter.unusedSimpArgs false
set_option maxRecDepth 100000
namespace Go.Proofs.YtjnljjbmmmpdiaaDoor
open Go.RowKit Go.Proofs.YtjnljjbmmmpdiaaDoor.Av Go.Proofs.YtjnljjbmmmpdiaaDoor.Ml
open Go.Proofs.YtjnljjbmmmpdiaaDoor.Av.AVal (av)
open Go.Proofs.YtjnljjbmmmpdiaaDoor.Av.AVal (av)

theorem sl_form {S : Nat → Prop} {w : World} {v : Value} (l : List ByteArray) (h : VR S w mu0 v (.sl (l.map av))) :
  ∃ g cap, v = .slice g l.length cap ∧ ∀ i (hi : i < l.length), ∃ gb go, g = some ⟨gb, go, none⟩ ∧ S gb ∧ w.cell? ⟨gb, go + i, none⟩ = some (.string l[i]) := by
 obtain ⟨es, he⟩ : ∃ es, es = l.map (av : ByteArray → AV) := ⟨_, rfl⟩
 rw [← he] at h
 cases h with
 | sl0 a cap hc =>
  have hl : l = [] := by cases l with | nil => rfl | cons => simp at he
  subst hl
  exact ⟨a, cap, rfl, fun i hi => absurd hi (Nat.not_lt_zero _)⟩
 | sl b o cap esz vs es hS hl hm hz hc h =>
  have hlen : es.length = l.length := by rw [he]; simp
  refine ⟨_, cap, by rw [hlen], fun i hi => ⟨b, o, rfl, hS, ?_⟩⟩
  have hg : es[i]? = some (AV.str l[i]) := by rw [he, List.getElem?_map, List.getElem?_eq_getElem hi]; rfl
  have hez : esz = 1 := by
   have := (hz _ (List.mem_of_getElem? hg)).1
   exact this.symm
  subst hez
  have h1 := hc i 0 (by omega) (by omega)
  have h2 := h i 0 _ (.str l[i]) hg rfl
  rw [Nat.mul_one, Nat.add_zero] at h1
  rw [h1]
  generalize vs i 0 = q at h2
  cases h2
  rfl
theorem out_form {S : Nat → Prop} {w : World} {vs : List Value} (o : Outcome) (h : VRs S w mu0 vs [av o]) :
  ∃ g cap, vs = [.agg #[.int .i64 o.kind, .int .i64 o.n, .slice g o.trace.length cap, .int .i64 o.steps]] ∧ (-9223372036854775808 ≤ o.n ∧ o.n ≤ 9223372036854775807) ∧
   ∀ i (hi : i < o.trace.length), ∃ gb go, g = some ⟨gb, go, none⟩ ∧ S gb ∧ w.cell? ⟨gb, go + i, none⟩ = some (.string o.trace[i]) := by
 obtain ⟨hl, h⟩ := h
 match vs, hl with
 | [v], _ =>
  have h0 := h 0 v (av o) rfl rfl
  rw [av_Outcome] at h0
  cases h0 with
  | agg cs xs hl h1 h =>
   obtain ⟨cs⟩ := cs
   match cs, hl with
   | [a, b, c, d], _ =>
    have ha := h 0 a _ rfl rfl
    have hb := h 1 b _ rfl rfl
    have hc := h 2 c _ rfl rfl
    have hd := h 3 d _ rfl rfl
    obtain ⟨g, cap, rfl, hg⟩ := sl_form _ hc
    cases ha
    cases hd
    cases hb with
    | int k n p1 p2 => exact ⟨g, cap, rfl, ⟨p1, p2⟩, hg⟩
theorem implReport_ok (o : Outcome) (hk : Bulk.bulk o ≤ 1048576) (m : Int) (ty : Nat) : CallsH Tryd.prog 7 [av o] [gint 0 ty m] (GPost (.str (reportS o)) (gint 0 ty m)) := by
 have hb : Bulk.bulk o.kind + Bulk.bulk o.n + Bulk.bulk o.trace + Bulk.bulk o.steps + 1 ≤ 1048576 := hk
 refine callsH_glob (by kernel_rfl) (by simp; exact AVal.clean o) ?_
 intro S w vs hS hv hm
 obtain ⟨g, cap, rfl, hn, hc⟩ := out_form o hv
 have zE := endS_le o.kind o.n
 have zA := outS_size o.trace
 have hgl : 0 < w.heap.size := by
  rcases Nat.lt_or_ge 0 w.heap.size with h1 | h1
  ·exact h1
  ·rw [World.cell?, Array.getElem?_eq_none h1] at hm; simp at hm
 refine (implReport_raw o.kind o.n o.steps o.trace (outS o.trace) (endS o.kind o.n) rfl rfl g cap (by omega) (fun i hi => ?_) ?_ hm hgl).mono ?_
 ·obtain ⟨gb, go, h1, h2, h3⟩ := hc i hi
  exact ⟨gb, go, h1, hS _ h2, h3⟩
 ·intro w' h1 h2
  refine ((endText_ok o hn).2.2 S w' _ (fun b hb => Nat.lt_of_lt_of_le (hS b hb) h1) (hv.mono (fun b hb => hb) (fun b hb => h2 b (hS b hb)) (Mu.le.refl _))).mono ?_
  rintro e w'' ⟨v, he, hvr, hbl⟩
  cases hvr
  exact ⟨he, hbl⟩
 ·rintro e w' ⟨he, hbl⟩
  refine ⟨_, he, .str _ ?_, hbl⟩
  rw [ByteArray.size_append, ByteArray.size_append, bsz]
  simp only [List.length_cons, List.length_nil]
  unfold maxLen; omega
theorem e92 : (av (92 : UInt8)) = AV.int .u8 92 := rfl
theorem e110 : (av (110 : UInt8)) = AV.int .u8 110 := rfl
theorem bytes_take (s : ByteArray) {k : Nat} (h : k < s.size) : s.data.toList.take (k + 1) = s.data.toList.take k ++ [byteAt s k] := by
 have h' : k < s.data.toList.length := by simpa using h
 rw [List.take_succ_eq_append_getElem h']
 congr 2
 have h2 : k < s.data.size := h
 simp only [byteAt, Array.getD_eq_getD_getElem?, Array.getElem?_eq_getElem h2, Option.getD_some, Array.getElem_toList]
theorem line_take (s : ByteArray) {k : Nat} (h : k < s.size) : lineL (s.data.toList.take (k + 1)) = lineL (s.data.toList.take k) ++ lineB (byteAt s k) := by
 unfold lineL; rw [bytes_take s h, List.flatMap_append]; simp
theorem line_size (s : ByteArray) (k : Nat) : (lineL (s.data.toList.take k)).length ≤ 2 * s.size := by
 have := lineL_len (s.data.toList.take k)
 rw [List.length_take] at this
 have h2 : s.data.toList.length = s.size := by simp
 omega
theorem l13Line_ok (s : ByteArray) (hs : s.size ≤ 1048576) : CallsF Tryd.prog 10 [.str s] (.str (lineS s)) := by
 refine fun_spec_l13Line rfl (by simp; exact AvPure.str _) (AvPure.str _) ?_
 simp +contextual -dsimp (maxSteps := 2000000) only [↓SD, SU, SB, simprocAttr, ir_spec_l13Line, rs_spec_l13Line]
 intro v
 refine aLoop_of (X := Nat × Nat) (fun x => ⟨[(0, .str s), (3, .row 5 x.2 (lineL (s.data.toList.take x.1)).length), (4, .int .i64 x.1)], [(5, ⟨x.2, false, 5, 1, (lineL (s.data.toList.take x.1)).map av⟩)]⟩) (fun x => x.1 ≤ s.size) (fun x => s.size - x.1) (0, v) (Nat.zero_le _) (by simp +contextual -dsimp only [↓SD, SU, SB, simprocAttr, lineL, List.flatMap_nil]) (by simp +contextual -dsimp only [↓SD, SU, SB, simprocAttr, lineL, List.flatMap_nil]) ?_
 rintro ⟨k, u⟩ hk
 simp only at hk
 have hL := line_size s k
 obtain ⟨L, hLe⟩ : ∃ L, L = lineL (s.data.toList.take k) := ⟨_, rfl⟩
 rw [← hLe] at hL
 have ht : List.take L.length (L.map (av : UInt8 → AV)) = L.map av := List.take_of_length_le (by simp)
 by_cases hlt : k < s.size
 ·have hq := line_take s hlt
  have hb := b8 s k
  rw [← hLe] at hq ⊢
  obtain ⟨b, hbe⟩ : ∃ b, b = byteAt s k := ⟨_, rfl⟩
  rw [← hbe] at hq hb
  have hbv : av b = AV.int .u8 (b.toNat : Int) := rfl
  have hu : ∀ n, n < 256 → (b = UInt8.ofNat n ↔ (b.toNat : Int) = n) := fun n hn => ⟨fun e => by rw [e, UInt8.toNat_ofNat']; omega, fun e => UInt8.toNat_inj.mp (by rw [UInt8.toNat_ofNat']; omega)⟩
  have u10 : b = 10 ↔ (b.toNat : Int) = 10 := hu 10 (by decide)
  have u92 : b = 92 ↔ (b.toNat : Int) = 92 := hu 92 (by decide)
  by_cases h10 : (b.toNat : Int) = 10
  ·have hqb : lineB b = [92, 110] := by unfold lineB; rw [if_pos (u10.2 h10)]
   simp +contextual -dsimp (maxSteps := 2000000) only [↓SD, SU, SB, simprocAttr, hlt, ← hbe, h10, ht, map_len, Nat.le_refl]
   refine ⟨⟨(by rintro x (rfl | rfl) <;> rfl), by omega, by unfold maxLen; omega⟩, fun u' => ⟨by omega, Goes.le ⟨(k + 1, u'), ⟨hlt, (by first | omega | (simp only; omega))⟩, rfl⟩ (by simp +contextual -dsimp only [↓SD, SU, SB, simprocAttr, Int.natCast_add, hq, hqb, List.length_append]) (by simp +contextual -dsimp only [↓SD, SU, SB, simprocAttr, hq, hqb, List.map_append, e92, e110])⟩⟩
  ·by_cases h92 : (b.toNat : Int) = 92
   ·have hqb : lineB b = [92, 92] := by unfold lineB; rw [if_neg (fun e => h10 (u10.1 e)), if_pos (u92.2 h92)]
    simp +contextual -dsimp (maxSteps := 2000000) only [↓SD, SU, SB, simprocAttr, hlt, ← hbe, h10, h92, ht, map_len, Nat.le_refl]
    refine ⟨⟨(by rintro x (rfl | rfl) <;> rfl), by omega, by unfold maxLen; omega⟩, fun u' => ⟨by omega, Goes.le ⟨(k + 1, u'), ⟨hlt, (by first | omega | (simp only; omega))⟩, rfl⟩ (by simp +contextual -dsimp only [↓SD, SU, SB, simprocAttr, Int.natCast_add, hq, hqb, List.length_append]) (by simp +contextual -dsimp only [↓SD, SU, SB, simprocAttr, hq, hqb, List.map_append, e92])⟩⟩
   ·have hqb : lineB b = [b] := by unfold lineB; rw [if_neg (fun e => h10 (u10.1 e)), if_neg (fun e => h92 (u92.1 e))]
    simp +contextual -dsimp (maxSteps := 2000000) only [↓SD, SU, SB, simprocAttr, hlt, ← hbe, h10, h92, ht, map_len, Nat.le_refl]
    refine ⟨⟨by omega, by unfold maxLen; omega⟩, fun u' => ⟨by omega, Goes.le ⟨(k + 1, u'), ⟨hlt, (by first | omega | (simp only; omega))⟩, rfl⟩ (by simp +contextual -dsimp only [↓SD, SU, SB, simprocAttr, Int.natCast_add, hq, hqb, List.length_append]) (by simp +contextual -dsimp only [↓SD, SU, SB, simprocAttr, hq, hqb, List.map_append, hbv])⟩⟩
 ·obtain rfl : k = s.size := by omega
  have hfull : s.data.toList.take s.size = s.data.toList := List.take_of_length_le (by simp)
  rw [← hLe]
  rw [hfull] at hLe
  simp +contextual -dsimp (maxSteps := 2000000) only [↓SD, SU, SB, simprocAttr, Nat.lt_irrefl, ht, map_len, Nat.le_refl]
  refine b2s_of _ _ L (aTail_row rfl rfl (by simp)) rfl ?_
  simp +contextual -dsimp (maxSteps := 2000000) only [↓SD, SU, SB, simprocAttr, lineS, hLe]
set_option maxHeartbeats 2000000 in
theorem specReport_ok (o : Outcome) (hk : Bulk.bulk o ≤ 1048576) (hn : -9223372036854775808 ≤ o.n ∧ o.n ≤ 9223372036854775807) : CallsF Tryd.prog 5 [av o] (.str (reportS o)) := by
 have hb : Bulk.bulk o.kind + Bulk.bulk o.n + Bulk.bulk o.trace + Bulk.bulk o.steps + 1 ≤ 1048576 := hk
 have z1 := numS_le o.n
 have C1 := specNumText_ok o.n hn
 have hl := bulk_length o.trace
 have zA := outS_size o.trace
 obtain ⟨k, n, l, st⟩ := o
 simp only at hb z1 C1 hl hn zA
 refine fun_spec_Report rfl (by simp; exact AVal.clean _) (AvPure.str _) ?_
 simp +contextual -dsimp (maxSteps := 2000000) only [↓SD, SU, SB, simprocAttr, ir_spec_Report, rs_spec_Report, av_Outcome, map_len]
 refine aLoop_of (X := Nat) (fun j => ⟨[(1, .obj [.int .i64 k, .int .i64 n, .sl (l.map av), .int .i64 st]), (3, .str (outS (l.take j))), (7, .sl (l.map av)), (8, .int .i64 l.length), (9, .int .i64 j)], []⟩) (fun j => j ≤ l.length) (fun j => l.length - j) 0 (Nat.zero_le _) (by simp +contextual -dsimp only [↓SD, SU, SB, simprocAttr, List.take_zero, outS_nil]) trivial ?_
 intro j hj
 have hT := outS_size (l.take j)
 have hT2 := bulk_take l j
 by_cases hlt : j < l.length
 ·have e := getD_map av l j .top hlt
  have hs : l[j].size ≤ 1048576 := by
   have h1 := bulk_mem (List.getElem_mem hlt)
   have h2 : Bulk.bulk l[j] = l[j].size + 1 := rfl
   omega
  have hst := outS_snoc (l.take j) l[j]
  rw [← List.take_succ_eq_append_getElem hlt] at hst
  have CL := l13Line_ok l[j] hs
  have hz := lineS_len l[j]
  simp +contextual -dsimp (maxSteps := 2000000) only [↓SD, SU, SB, simprocAttr, map_len, hlt, e, av_str]
  refine aCallK_of _ CL ?_
  simp +contextual -dsimp (maxSteps := 2000000) only [↓SD, SU, SB, simprocAttr]
  refine ⟨(by unfold maxLen; omega), (by (simp only [ByteArray.size_append, bsz, List.length_cons, List.length_nil]; unfold maxLen; omega)), by omega, ?_⟩
  exact Goes.le ⟨j + 1, ⟨hlt, (by first | omega | (simp only; omega))⟩, rfl⟩ (by simp +contextual -dsimp only [↓SD, SU, SB, simprocAttr, Int.natCast_add, hst]) trivial
 ·obtain rfl : j = l.length := by omega
  rw [List.take_of_length_le (Nat.le_refl _)]
  simp +contextual -dsimp (maxSteps := 2000000) only [↓SD, SU, SB, simprocAttr, map_len, Nat.lt_irrefl]
  refine ⟨fun _ => ⟨(by (simp only [ByteArray.size_append, bsz, List.length_cons, List.length_nil]; unfold maxLen; omega)), (by (simp only [ByteArray.size_append, bsz, List.length_cons, List.length_nil]; unfold maxLen; omega)), rfl⟩, fun h1 => ⟨fun _ => ⟨(by (simp only [ByteArray.size_append, bsz, List.length_cons, List.length_nil]; unfold maxLen; omega)), ?_⟩, fun h2 => ⟨fun _ => ⟨(by (simp only [ByteArray.size_append, bsz, List.length_cons, List.length_nil]; unfold maxLen; omega)), (by (simp only [ByteArray.size_append, bsz, List.length_cons, List.length_nil]; unfold maxLen; omega)), rfl⟩, fun h3 => ⟨fun _ => ⟨(by (simp only [ByteArray.size_append, bsz, List.length_cons, List.length_nil]; unfold maxLen; omega)), (by (simp only [ByteArray.size_append, bsz, List.length_cons, List.length_nil]; unfold maxLen; omega)), rfl⟩, fun h4 => ⟨fun _ => ⟨(by (simp only [ByteArray.size_append, bsz, List.length_cons, List.length_nil]; unfold maxLen; omega)), (by (simp only [ByteArray.size_append, bsz, List.length_cons, List.length_nil]; unfold maxLen; omega)), rfl⟩, fun h5 => ⟨(by (simp only [ByteArray.size_append, bsz, List.length_cons, List.length_nil]; unfold maxLen; omega)), (by (simp only [ByteArray.size_append, bsz, List.length_cons, List.length_nil]; unfold maxLen; omega)), ?_⟩⟩⟩⟩⟩⟩
  ·refine aCallK_of _ C1 ?_
   rename_i h2
   subst h2
   simp +contextual -dsimp (maxSteps := 2000000) only [↓SD, SU, SB, simprocAttr]
   refine ⟨(by (simp only [ByteArray.size_append, bsz, List.length_cons, List.length_nil]; unfold maxLen; omega)), (by (simp only [ByteArray.size_append, bsz, List.length_cons, List.length_nil]; unfold maxLen; omega)), ?_⟩
   rw [show reportS ⟨2, n, l, st⟩ = outS l ++ (bs [114, 97, 105, 115, 101, 100, 32] ++ numS n) ++ bs [10] from rfl]
   congr 2
   simp [ByteArray.append_assoc]
  ·unfold reportS endS; rw [if_neg h1, if_neg h2, if_neg h3, if_neg h4, if_neg h5]
set_option maxHeartbeats 2000000 in
theorem lawReport_in (o : Outcome) (m : Int) (ty : Nat) (hk : Bulk.bulk o ≤ 1048576) (hn : -9223372036854775808 ≤ o.n ∧ o.n ≤ 9223372036854775807) : CallsH Tryd.prog 3 [av o] [gint 0 ty m] (GPost (.bool true) (gint 0 ty m)) := by
 have hb : Bulk.bulk o.kind + Bulk.bulk o.n + Bulk.bulk o.trace + Bulk.bulk o.steps + 1 ≤ 1048576 := hk
 have CS := specReport_ok o hk hn
 have CI := implReport_ok o hk m ty
 have T0 := toOutcome_ok o hk
 have E0 := eqOutcome_ok o hk
 have Z := fun n h1 h2 => szOutcome_ok o n hk h1 h2
 rw [av_Outcome] at CS CI T0 E0 Z
 obtain ⟨G, hG⟩ : ∃ G : Box, G = (gint 0 ty m).2 := ⟨_, rfl⟩
 have hG5 : gint 0 ty m = (5000, G) := by rw [hG]; rfl
 rw [hG5] at CI ⊢
 refine funH_laws_FnExactReport rfl ?_
 simp +contextual -dsimp (maxSteps := 2000000) only [↓SD, SU, SB, simprocAttr, ir_laws_FnExactReport, rs_laws_FnExactReport, av_Outcome]
 refine aCallH_of [] (Z _ (by omega) (by omega)) (by simp +contextual -dsimp only [↓SD, SU, SB, simprocAttr]) ?_
 rintro r hp' ⟨q, rfl, rfl, hm1, hm2⟩
 simp +contextual -dsimp (maxSteps := 2000000) only [↓SD, SU, SB, simprocAttr]
 refine ⟨fun hq => ?_, fun hq => ?_⟩
 ·refine Goes.post [(5000, G)] ?_
  simp +contextual -dsimp (maxSteps := 2000000) only [↓SD, SU, SB, simprocAttr]
  exact ⟨rfl, rfl⟩
 ·refine aCallK_of _ T0 ?_
  simp +contextual -dsimp (maxSteps := 2000000) only [↓SD, SU, SB, simprocAttr]
  refine aCallK_of _ CS ?_
  simp +contextual -dsimp (maxSteps := 2000000) only [↓SD, SU, SB, simprocAttr]
  refine aCallK_of _ T0 ?_
  simp +contextual -dsimp (maxSteps := 2000000) only [↓SD, SU, SB, simprocAttr]
  intro v
  refine aCallH_of [5000] CI (by simp +contextual -dsimp only [↓SD, SU, SB, simprocAttr]) ?_
  rintro r' hp' ⟨rfl, rfl⟩
  simp +contextual -dsimp (maxSteps := 2000000) only [↓SD, SU, SB, simprocAttr, beq_self_eq_true]
  refine aCallK_of _ T0 ?_
  simp +contextual -dsimp (maxSteps := 2000000) only [↓SD, SU, SB, simprocAttr]
  refine aCallK_of _ E0 ?_
  simp +contextual -dsimp (maxSteps := 2000000) only [↓SD, SU, SB, simprocAttr]
  refine Goes.post [(5000, G)] ?_
  simp +contextual -dsimp (maxSteps := 2000000) only [↓SD, SU, SB, simprocAttr]
  exact ⟨rfl, rfl⟩
theorem out_rng {S : Nat → Prop} {w : World} {μ : Mu} {vs : List Value} (o : Outcome) (h : VRs S w μ vs [av o]) : -9223372036854775808 ≤ o.n ∧ o.n ≤ 9223372036854775807 := by
 obtain ⟨hl, h⟩ := h
 match vs, hl with
 | [v], _ =>
  have h0 := h 0 v (av o) rfl rfl
  rw [av_Outcome] at h0
  cases h0 with
  | agg cs xs hl h1 h =>
   obtain ⟨cs⟩ := cs
   match cs, hl with
   | [a, b, c, d], _ =>
    have hb := h 1 b _ rfl rfl
    cases hb with
    | int k n p1 p2 => exact ⟨p1, p2⟩
theorem lawReport_ok (o : Outcome) (m : Int) (ty : Nat) (hk : Bulk.bulk o ≤ 1048576) : CallsH Tryd.prog 3 [av o] [gint 0 ty m] (GPost (.bool true) (gint 0 ty m)) :=
 ⟨by kernel_rfl, fun S w μ vs hw hv => (lawReport_in o m ty hk (out_rng o hv)).2 S w μ vs hw hv⟩
end Go.Proofs.YtjnljjbmmmpdiaaDoor
