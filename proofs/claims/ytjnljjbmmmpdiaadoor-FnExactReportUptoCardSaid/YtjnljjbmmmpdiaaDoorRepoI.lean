/-
 Report, of the program: the walk. Conditions: block MaxLen holds an int.
-/
import Derived.Test.YtjnljjbmmmpdiaaDoorRepoP
import Derived.Test.YtjnljjbmmmpdiaaDoorShelfR
import Derived.Test.YtjnljjbmmmpdiaaDoorGOut
import Derived.Test.YtjnljjbmmmpdiaaDoorNumI
import Derived.Test.YtjnljjbmmmpdiaaDoorScal
import Derived.Test.YtjnljjbmmmpdiaaDoorIrRepo
import Derived.Deep.RegionHeld3
set_option linter.unusedVariables false
set_option linter.unusedSimpArgs false
set_option maxRecDepth 100000
namespace Go.Proofs.YtjnljjbmmmpdiaaDoor
open Go.RowKit Go.Proofs.YtjnljjbmmmpdiaaDoor.Av Go.Proofs.YtjnljjbmmmpdiaaDoor.Ml
open Go.Proofs.YtjnljjbmmmpdiaaDoor.Av.AVal (av)
open Go.Proofs.YtjnljjbmmmpdiaaDoor.Av.AVal (av)

theorem bsz (l : List Nat) : (bs l).size = l.length := by
 show (List.toArray _).size = _; simp
theorem endS_le (k n : Int) : (endS k n).size ≤ 72 := by
 have z1 := numS_le n
 unfold endS
 split
 ·decide
 split
 ·rw [ByteArray.size_append, bsz]; simp only [List.length_cons, List.length_nil]; omega
 split
 ·decide
 split
 ·decide
 split <;> decide
theorem endText_ok (o : Outcome) (hn : -9223372036854775808 ≤ o.n ∧ o.n ≤ 9223372036854775807) : CallsF Tryd.prog 17 [av o] (.str (endS o.kind o.n)) := by
 have z1 := numS_le o.n
 have C1 := implNumText_ok o.n hn
 have e2 : endS 2 o.n = bs [114, 97, 105, 115, 101, 100, 32] ++ numS o.n := rfl
 refine fun_impl_endText rfl (by simp; exact AVal.clean o) (AvPure.str _) ?_
 simp +contextual -dsimp (maxSteps := 2000000) only [↓SD, SU, SB, simprocAttr, ir_impl_endText, rs_impl_endText, av_Outcome]
 refine ⟨fun _ => rfl, fun h1 => ⟨fun h2 => ?_, fun h2 => ⟨fun _ => rfl, fun h3 => ⟨fun _ => rfl, fun h4 => ⟨fun _ => rfl, fun h5 => ?_⟩⟩⟩⟩⟩
 ·refine aCallK_of _ C1 ?_
  rw [h2]
  simp +contextual -dsimp (maxSteps := 2000000) only [↓SD, SU, SB, simprocAttr]
  exact ⟨by (simp only [ByteArray.size_append, bsz, List.length_cons, List.length_nil]; unfold maxLen; omega), congrArg AV.str e2.symm⟩
 ·unfold endS; rw [if_neg h1, if_neg h2, if_neg h3, if_neg h4, if_neg h5]
theorem isb_below {T e : TypeId} {B b : Nat} {bs : List Value} {W W' : World} (h : Lib.IsBuilder T e B b bs W) (hb : Below W.heap.size W W') : Lib.IsBuilder T e B b bs W' := by
 have H : ∀ {p}, Lib.BuilderAt T e B b p bs W → Lib.BuilderAt T e B b p bs W' := fun {p} h => by
  have hlt := h.lt
  obtain ⟨hB, v, hv, hown, hne⟩ := h
  exact ⟨hB, v, (hb.block b hlt).trans hv, hown.kept (row := none) ⟨hb.os, hb.tape, hb.output, hb.size, fun k hk _ => hb.block k hk⟩ (Classical.em _), hne⟩
 exact h.elim (fun x => .inl (H x)) (fun x => .inr (H x))
theorem isb_new {n : Nat} (W : World) (h : W.heap.size = n) : Hid (Lib.IsBuilder 38 5 n n (Lib.byteCells (outL [])) (W.alloc (Obj.cells #[.pointer none, .slice none 0 0] 38))) := by
 subst h; exact Lib.fresh_isBuilder _ _ W
theorem cell_al (w : World) (o : Obj) (a : Addr) (h : a.block < w.heap.size) : (w.alloc o).cell? a = w.cell? a := World.cell?_of_block (Lib.alloc_old w o a.block h)
theorem cell_new (w : World) (cs : Array Value) (t : TypeId) (i : Nat) : (w.alloc (.cells cs t)).cell? ⟨w.heap.size, i, none⟩ = cs[i]? := by
 unfold World.cell?; simp only [heap_alloc_new]; simp
theorem outL_snoc (l : List ByteArray) (s : ByteArray) : outL (l ++ [s]) = outL l ++ lineL s.data.toList ++ [10] := by simp [outL]
theorem outL_len (l : List ByteArray) : (outL l).length ≤ 2 * Bulk.bulk l := by
 have h := outS_size l
 have e : (outS l).size = (outL l).length := by show (List.toArray _).size = _; simp
 omega
theorem bulk_take (l : List ByteArray) (k : Nat) : Bulk.bulk (l.take k) ≤ Bulk.bulk l := by
 induction l generalizing k with
 | nil => simp
 | cons s r ih =>
  cases k with
  | zero => exact Nat.le_trans (Nat.le_of_eq (by rfl : Bulk.bulk (List.take 0 (s :: r)) = 1)) (Bulk.pos _)
  | succ k =>
   have h1 : Bulk.bulk (List.take (k + 1) (s :: r)) = Bulk.bulk s + Bulk.bulk (r.take k) := rfl
   have h2 : Bulk.bulk (s :: r) = Bulk.bulk s + Bulk.bulk r := rfl
   have := ih k
   omega
theorem belL {B : Nat} {w w' : World} (h : Below w.heap.size w w') (hB : B ≤ w.heap.size) : Below B w w' := ⟨h.os, h.tape, h.output, h.size, fun k hk => h.block k (by omega)⟩
theorem belW {B C : Nat} {w w' : World} (h : Below C w w') (hB : B ≤ C) : Below B w w' := ⟨h.os, h.tape, h.output, h.size, fun k hk => h.block k (by omega)⟩
def wideS (a : UInt8) (n : List UInt8) (s : ByteArray) : ByteArray := ⟨(wideL a n s.data.toList).toArray⟩
theorem wideS_len (a : UInt8) (n : List UInt8) (s : ByteArray) (h : n.length = 2) : (wideS a n s).size ≤ 2 * s.size := by
 have := wideL_len a n s.data.toList h
 have h2 : s.data.toList.length = s.size := by simp
 show (List.toArray _).size ≤ _
 simp only [List.size_toArray]; omega
theorem wideS_line (s : ByteArray) : wideS 10 [92, 110] (wideS 92 [92, 92] s) = lineS s := by
 unfold wideS lineS
 rw [show (⟨(wideL 92 [92, 92] s.data.toList).toArray⟩ : ByteArray).data.toList = wideL 92 [92, 92] s.data.toList by simp, line_wide]
theorem replace_wide (s : ByteArray) (a : UInt8) (n : List UInt8) (h2 : n.length = 2) (m : Int) (w : World) (hs : s.size ≤ 4194304) (hm : w.cell? ⟨0, 0, none⟩ = some (.int .i64 m)) :
  Calls Tryd.prog 13 #[.string s, .string ⟨#[a]⟩, .string ⟨n.toArray⟩] w fun e w' => e = .returned (.string (wideS a n s)) ∧ Below w.heap.size w w' := by
 have hc := Lib.count_le s.data.toList [a]
 have h3 : s.data.toList.length = s.size := by simp
 have h4 : (⟨n.toArray⟩ : ByteArray).size = 2 := by show (List.toArray n).size = 2; simpa using h2
 have h := strings_ReplaceAll s ⟨#[a]⟩ ⟨n.toArray⟩ m w (by omega) hm (by show 1 ≤ (#[a] : Array UInt8).size; simp) (by
  rw [h4]
  have : Lib.countB s ⟨#[a]⟩ = Lib.count s.data.toList [a] := rfl
  omega)
 have e : Lib.replaceAll s.data.toList [a] n = wideL a n s.data.toList := replaceAll_wide a n (fun e => by have := congrArg List.length e; simp [h2] at this) _
 have e2 : (⟨(Lib.replaceAll s.data.toList (⟨#[a]⟩ : ByteArray).data.toList (⟨n.toArray⟩ : ByteArray).data.toList).toArray⟩ : ByteArray) = wideS a n s := by
  show (⟨(Lib.replaceAll s.data.toList [a] n).toArray⟩ : ByteArray) = _
  rw [e]; rfl
 rw [e2] at h
 exact h
set_option maxHeartbeats 4000000 in
theorem implReport_raw {w : World} (k n st : Int) (l : List ByteArray) (T E : ByteArray) (hT : T = outS l) (hE : E = endS k n) (g : Option Addr) (cap : Nat) (hl : Bulk.bulk l ≤ 1048576)
  (hc : ∀ i (h : i < l.length), ∃ gb go, g = some ⟨gb, go, none⟩ ∧ gb < w.heap.size ∧ w.cell? ⟨gb, go + i, none⟩ = some (.string l[i]))
  (hend : ∀ w', w'.heap.size ≥ w.heap.size → (∀ b, b < w.heap.size → w'.heap[b]? = w.heap[b]?) → Calls Tryd.prog 17 #[.agg #[.int .i64 k, .int .i64 n, .slice g l.length cap, .int .i64 st]] w' fun e w'' => e = .returned (.string E) ∧ Below w'.heap.size w' w'')
  {m : Int} (hm : w.cell? ⟨0, 0, none⟩ = some (.int .i64 m)) (hg0 : 0 < w.heap.size) :
  Calls Tryd.prog 7 #[.agg #[.int .i64 k, .int .i64 n, .slice g l.length cap, .int .i64 st]] w fun e w' => e = .returned (.string (T ++ E ++ bs [10])) ∧ Below w.heap.size w w' := by
 have hlen : l.length ≤ 1048576 := by have := bulk_length l; omega
 go_enter Tryd.func7, Tryd.ntmps7
 go_wp2_with fail
 go_loopw [5, 9] (fun v5 v9 wx => ∃ j : Nat, v9 = .int .i64 j ∧ j ≤ l.length ∧ Hid (Lib.IsBuilder 38 5 (w.heap.size + 1) (w.heap.size + 1) (Lib.byteCells (outL (l.take j))) wx) ∧ Hid (Below (w.heap.size + 1) (w.alloc (Obj.cells #[.int .i64 k, .int .i64 n, .slice g l.length cap, .int .i64 st] 27)) wx)) (fun _ v9 _ => l.length - (intOf v9).toNat)
 case atStart =>
  refine ⟨0, rfl, Nat.zero_le _, ?_, ?_⟩
  ·exact isb_new _ (by simp)
  ·exact Any.hidR ((Below.refl _ _).alloc (by simp) _)
 case round =>
  obtain ⟨j, rfl, hj, HB, HW⟩ := hrel
  have hsw : w.heap.size + 1 ≤ wr.heap.size := by have := HW.out.size; simpa using this
  by_cases hlt : j < l.length
  ·obtain ⟨gb, go, rfl, hgb, hcell⟩ := hc j hlt
   have hmr : wr.cell? ⟨0, 0, none⟩ = some (.int .i64 m) := by
    rw [HW.out.cell (p := ⟨0, 0, none⟩) (by simp only; omega), cell_al w _ _ (by simp only; omega)]; exact hm
   have hcw : wr.cell? ⟨gb, go + j, none⟩ = some (.string l[j]) := by
    rw [HW.out.cell (p := ⟨gb, go + j, none⟩) (by simp only; omega), cell_al w _ _ (by simp only; omega)]; exact hcell
   have hsz : l[j].size ≤ 1048576 := by
    have h1 := bulk_mem (List.getElem_mem hlt)
    have h2 : Bulk.bulk l[j] = l[j].size + 1 := rfl
    omega
   have hst := outL_snoc (l.take j) l[j]
   rw [← List.take_succ_eq_append_getElem hlt] at hst
   have hol := outL_len (l.take j)
   have hot := bulk_take l j
   obtain ⟨A, hA⟩ : ∃ A, A = outL (l.take j) := ⟨_, rfl⟩
   obtain ⟨s, hs⟩ : ∃ s, s = l[j] := ⟨_, rfl⟩
   rw [← hs] at hcw hsz hst
   rw [← hA] at HB hst hol
   have H1 := replace_wide s 92 [92, 92] (by decide) m wr (by omega) hmr
   have hw1 := wideS_len 92 [92, 92] s rfl
   have hw2 := wideS_len 10 [92, 110] (wideS 92 [92, 92] s) rfl
   have hw3 := wideS_line s
   rw [hw3] at hw2
   clear hcell hc hs hA
   go_wp2_with fail
   refine H1.mono ?_
   rintro e w1 ⟨rfl, hb1⟩
   have hmr1 : w1.cell? ⟨0, 0, none⟩ = some (.int .i64 m) := by rw [hb1.cell (p := ⟨0, 0, none⟩) (by simp only; omega)]; exact hmr
   have H2 := replace_wide (wideS 92 [92, 92] s) 10 [92, 110] (by decide) m w1 (by omega) hmr1
   rw [hw3] at H2
   have HB1 := Any.hidR (isb_below HB.out hb1)
   have HW1 := Any.hidR (HW.out.trans (belL hb1 hsw))
   have hs1 := hb1.size
   clear H1 hmr hb1 HB HW
   go_wp2_with fail
   refine H2.mono ?_
   rintro e w2 ⟨rfl, hb2⟩
   have HB2 := Any.hidR (isb_below HB1.out hb2)
   have HW2 := Any.hidR (HW1.out.trans (belL hb2 (by omega)))
   have hs2 := hb2.size
   clear H2 hmr1 hb2 HB1 HW1
   have hz : (Lib.byteCells A).length + (lineS s).size ≤ 140737488355328 := by rw [Lib.byteCells_length]; omega
   have H3 := Builder_WriteString (w.heap.size + 1) (w.heap.size + 1) _ (lineS s) w2 HB2.out hz (by omega)
   clear hz
   go_wp2_with fail
   refine H3.mono ?_
   rintro e w3 ⟨rfl, h3, hb3⟩
   have hz : (Lib.byteCells A ++ Lib.strCells (lineS s)).length + 1 ≤ 140737488355328 := by rw [List.length_append, Lib.byteCells_length, Lib.strCells_length]; omega
   have hs3 := hb3.size
   have H4 := Builder_WriteByte (w.heap.size + 1) (w.heap.size + 1) _ 10 w3 (Or.inr h3) hz (by omega)
   have HW3 := Any.hidR (HW2.out.trans hb3)
   clear hz HW2 hb3 h3 H3 HB2
   go_wp2_with fail
   refine H4.mono ?_
   rintro e w4 ⟨rfl, h4, hb4⟩
   have HW4 := Any.hidR (HW3.out.trans hb4)
   have h5 : Lib.byteCells A ++ Lib.strCells (lineS s) ++ [.int .u8 10] = Lib.byteCells (outL (l.take (j + 1))) := by
    rw [hst, Lib.strCells_eq, Lib.byteCells_append, Lib.byteCells_append]; simp [lineS, Lib.byteCells]
   rw [h5] at h4
   have HB4 := Any.hidR (Or.inr h4 : Lib.IsBuilder 38 5 (w.heap.size + 1) (w.heap.size + 1) (Lib.byteCells (outL (l.take (j + 1)))) w4)
   clear h4 hb4 h5 H4 HW3
   go_wp2_with fail
   go_roundw
   case rel => exact ⟨j + 1, by go_num, hlt, HB4, HW4⟩
   case measure => simp [intOf]; omega
  ·obtain rfl : j = l.length := by omega
   clear hc
   rw [List.take_of_length_le (Nat.le_refl _)] at HB
   have hb0 : ∀ i, wr.cell? ⟨w.heap.size, i, none⟩ = (#[Value.int .i64 k, .int .i64 n, .slice g l.length cap, .int .i64 st] : Array Value)[i]? := fun i => by
    rw [HW.out.cell (p := ⟨w.heap.size, i, none⟩) (by simp)]; exact cell_new w _ _ i
   have y0 := hb0 0
   have y1 := hb0 1
   have y2 := hb0 2
   have y3 := hb0 3
   have hlt : w.heap.size < w.heap.size + 1 := by omega
   have HOld : ∀ b, b < w.heap.size → wr.heap[b]? = w.heap[b]? := fun b hb => (HW.out.block b (by omega)).trans (Lib.alloc_old w _ b hb)
   have zE := endS_le k n
   have HS : ∀ W : World, Lib.IsBuilder 38 5 (w.heap.size + 1) (w.heap.size + 1) (Lib.byteCells (outL l)) W → w.heap.size + 1 ≤ W.heap.size → Calls Tryd.prog 16 #[.pointer (some ⟨w.heap.size + 1, 0, none⟩)] W fun e w' => e = .returned (.string (outS l)) ∧ Below (w.heap.size + 1) W w' := fun W h1 h2 => Builder_String_any _ _ _ W h1 h2
   have zA : (outS l).size ≤ 2097152 := by have := outS_size l; omega
   rw [← hT] at HS zA
   rw [← hE] at zE
   have q1 : ¬ 9223372036854775807 < T.size + E.size := by omega
   have q2 : ¬ 9223372036854775807 < T.size + E.size + 1 := by omega
   clear hT hE
   clear hb0
   go_wp2_with fail
   go_region_held3 (fun w' => w'.cell? ⟨w.heap.size, 0, none⟩ = some (.int .i64 k) ∧ w'.cell? ⟨w.heap.size, 1, none⟩ = some (.int .i64 n) ∧ w'.cell? ⟨w.heap.size, 2, none⟩ = some (.slice g l.length cap) ∧ w'.cell? ⟨w.heap.size, 3, none⟩ = some (.int .i64 st))
    (first | exact ⟨y0, y1, y2, y3⟩ | exact ⟨(hb1.cell (p := ⟨w.heap.size, 0, none⟩) hlt).trans y0, (hb1.cell (p := ⟨w.heap.size, 1, none⟩) hlt).trans y1, (hb1.cell (p := ⟨w.heap.size, 2, none⟩) hlt).trans y2, (hb1.cell (p := ⟨w.heap.size, 3, none⟩) hlt).trans y3⟩ | exact ⟨(hb2.cell (p := ⟨w.heap.size, 0, none⟩) (Nat.lt_of_lt_of_le hlt (Nat.le_trans hsw hb1.size))).trans ((hb1.cell (p := ⟨w.heap.size, 0, none⟩) hlt).trans y0), (hb2.cell (p := ⟨w.heap.size, 1, none⟩) (Nat.lt_of_lt_of_le hlt (Nat.le_trans hsw hb1.size))).trans ((hb1.cell (p := ⟨w.heap.size, 1, none⟩) hlt).trans y1), (hb2.cell (p := ⟨w.heap.size, 2, none⟩) (Nat.lt_of_lt_of_le hlt (Nat.le_trans hsw hb1.size))).trans ((hb1.cell (p := ⟨w.heap.size, 2, none⟩) hlt).trans y2), (hb2.cell (p := ⟨w.heap.size, 3, none⟩) (Nat.lt_of_lt_of_le hlt (Nat.le_trans hsw hb1.size))).trans ((hb1.cell (p := ⟨w.heap.size, 3, none⟩) hlt).trans y3)⟩)
    (first | (go_at_call 16; refine (HS _ (by exact HB.out) (by exact hsw)).mono ?_; rintro e w1 ⟨rfl, hb1⟩) | (go_at_call 17; refine (hend _ (Nat.le_trans (Nat.le_trans (Nat.le_succ _) hsw) hb1.size) (fun b hb => (hb1.block b (Nat.lt_succ_of_lt hb)).trans (HOld b hb))).mono ?_; rintro e w2 ⟨rfl, hb2⟩))
   go_wp2_with fail
   go_ret
   refine ⟨rfl, ?_⟩
   have B1 : Below w.heap.size w wr := ((Below.refl _ _).alloc (Nat.le_refl _) _).trans (belW HW.out (Nat.le_succ _))
   have B2 : Below w.heap.size w w1 := B1.trans (belD (n := 1) (belW hb1 (Nat.le_succ _)))
   exact B2.trans (belL hb2 (Nat.le_trans (Nat.le_trans (Nat.le_succ _) hsw) hb1.size))
end Go.Proofs.YtjnljjbmmmpdiaaDoor
