/-
 FROM THE FORM'S READING TO PLAIN DATA: an argument that can be read as data reads as a Lean value, and its bulk is at most the datum's. Conditions: none.
-/
import Derived.Test.YtjnljjbmmmpdiaaDoorRows
import Derived.Test.YtjnljjbmmmpdiaaDoorBase
import Derived.OpenShut
import Derived.JoinedCond
import Derived.Deep.Slices
set_option maxRecDepth 100000
namespace Go.Proofs.YtjnljjbmmmpdiaaDoor
open Go.ChangeShapes Go.WideShapes Go.ChangeAt Go.RowKit Go.Proofs.YtjnljjbmmmpdiaaDoor.Ml

class Bulk (α : Type) where
 bulk : α → Nat
 pos : ∀ x, 1 ≤ bulk x
instance : Bulk Int := ⟨fun _ => 1, fun _ => Nat.le_refl _⟩
instance : Bulk Bool := ⟨fun _ => 1, fun _ => Nat.le_refl _⟩
instance : Bulk UInt8 := ⟨fun _ => 1, fun _ => Nat.le_refl _⟩
instance : Bulk ByteArray := ⟨fun s => s.size + 1, fun _ => by omega⟩
instance {α : Type} [Bulk α] : Bulk (List α) := ⟨fun l => (l.map Bulk.bulk).sum + 1, fun _ => by omega⟩

theorem bulk_length {α : Type} [Bulk α] (l : List α) : l.length + 1 ≤ Bulk.bulk l := by
 induction l with
 | nil => simp [Bulk.bulk]
 | cons x r ih =>
  have := Bulk.pos x
  simp only [Bulk.bulk, List.map_cons, List.sum_cons, List.length_cons] at ih ⊢
  omega

theorem bulk_mem {α : Type} [Bulk α] {l : List α} {x : α} (h : x ∈ l) : Bulk.bulk x + 1 ≤ Bulk.bulk l := by
 induction l with
 | nil => cases h
 | cons y r ih =>
  simp only [Bulk.bulk, List.map_cons, List.sum_cons]
  rcases List.mem_cons.1 h with e | e
  ·subst e; omega
  ·have := ih e
   simp only [Bulk.bulk] at this
   omega

theorem bulk_pos {α : Type} [Bulk α] (l : List α) : 1 ≤ Bulk.bulk l := by simp [Bulk.bulk]
theorem bulk_len (l : List ByteArray) : l.length + 1 ≤ Bulk.bulk l := by
 induction l with
 | nil => simp [Bulk.bulk]
 | cons x r ih => simp only [Bulk.bulk, List.map_cons, List.sum_cons, List.length_cons] at ih ⊢; omega
theorem bulk_len_int (l : List Int) : Bulk.bulk l = l.length + 1 := by
 induction l with
 | nil => simp [Bulk.bulk]
 | cons x r ih => simp only [Bulk.bulk, List.map_cons, List.sum_cons, List.length_cons] at ih ⊢; omega

structure ReadsAs (t : TypeId) (α : Type) [Rep α] [Bulk α] : Prop where
 n : Tryd.prog.cellsOf t = Rep.n α
 get : ∀ {H : Type} {enc : TypeId × Value → H} {w : World} {fuel : Nat} {cs : List Value} {x : DataW H × List MemPlace}, DataW.trod enc Tryd.prog w 0 (fun _ => true) true fuel t cs = some x → ∃ y : α, Rep.rep (fun b => b < w.heap.size) w cs y ∧ Bulk.bulk y ≤ Rows.uptoBulk x.1

theorem readsInt : ReadsAs 3 Int := ⟨by kernel_rfl, fun h => by
 obtain ⟨n, rfl, rfl, hw⟩ := DataW.trod_int Tryd.underlying3 h
 have hb : -9223372036854775808 ≤ n ∧ n ≤ 9223372036854775807 := by simpa [Lit.wf, IntKind.min, IntKind.max, IntKind.signed, IntKind.bits] using hw
 exact ⟨n, ⟨rfl, hb.1, hb.2⟩, by simp [Bulk.bulk, Rows.uptoBulk]⟩⟩

theorem readsBool : ReadsAs 4 Bool := ⟨by kernel_rfl, fun h => by
 obtain ⟨b, rfl, rfl⟩ := DataW.trod_bool Tryd.underlying4 h
 exact ⟨b, rfl, by simp [Bulk.bulk, Rows.uptoBulk]⟩⟩

theorem readsStr : ReadsAs 9 ByteArray := ⟨by kernel_rfl, fun h => by
 obtain ⟨s, rfl, rfl, hs⟩ := DataW.trod_string Tryd.underlying9 h
 exact ⟨s, ⟨rfl, hs⟩, by simp [Bulk.bulk, Rows.uptoBulk]⟩⟩

theorem bulkAll_map {H α : Type} [Bulk α] {l : List α} {D : Nat → DataW H} (h : ∀ i (hi : i < l.length), Bulk.bulk l[i] ≤ Rows.uptoBulk (D i)) : (l.map Bulk.bulk).sum ≤ Rows.uptoBulkAll ((List.range l.length).map D) := by
 induction l generalizing D with
 | nil => simp
 | cons x r ih =>
  rw [List.length_cons, List.range_succ_eq_map]
  simp only [List.map_cons, List.sum_cons, Rows.uptoBulkAll, List.map_map]
  have h0 := h 0 (by simp)
  have h1 := ih (D := D ∘ Nat.succ) (fun i hi => h (i + 1) (by simpa using hi))
  simp only [List.getElem_cons_zero] at h0
  omega

theorem bulk_slice {H : Type} (l r : List (DataW H)) : Rows.uptoBulkAll l + 1 ≤ Rows.uptoBulk (.slice l r) := by
 simp only [Rows.uptoBulk]; omega

theorem addr_add (b o k : Nat) : (⟨b, o, none⟩ : Addr).add k = ⟨b, o + k, none⟩ := by
 unfold Addr.add; split <;> simp_all

theorem readsSlice {t e : TypeId} {α : Type} [Rep α] [Bulk α] (he : ReadsAs e α) (ht : Tryd.prog.underlying t = some (.slice e)) (h1 : Tryd.prog.cellsOf t = 1) (hn : 0 < Rep.n α) : ReadsAs t (List α) := ⟨h1, fun {H enc w fuel cs x} h => by
 rcases Deep.open_slice ht h with ⟨rfl, rfl⟩ | ⟨a, len, cap, m, n, D, Pl, rfl, _, hl, hm, hmm, rfl, hx⟩
 ·exact ⟨[], ⟨_, rfl, none, 0, rfl, Nat.le_refl _, Nat.zero_le _, .inl rfl⟩, by simp [Bulk.bulk, Rows.uptoBulk]⟩
 ·have hlm : len ≤ m := by rw [hmm]; simpa using hl
  obtain ⟨Y, hY⟩ := Deep.choose_lt (α := Option α) (n := len) (p := fun i y => ∃ y' cs', y = some y' ∧ w.cells? 0 (a.add (i * Tryd.prog.cellsOf e)) (Tryd.prog.cellsOf e) = some cs' ∧ Rep.rep (fun b => b < w.heap.size) w cs' y' ∧ Bulk.bulk y' ≤ Rows.uptoBulk (D i)) (fun i hi => by
   obtain ⟨cs', h2, h3⟩ := hx i (by omega)
   obtain ⟨y, h4, h5⟩ := he.get h3
   exact ⟨some y, y, cs', rfl, h2, h4, h5⟩)
  obtain ⟨l, hl1, hl2⟩ : ∃ l : List α, l.length = len ∧ ∀ i, i < len → Y i = l[i]? := by
   refine ⟨(List.range len).filterMap Y, ?_, ?_⟩
   ·have : ∀ k, k ≤ len → ((List.range k).filterMap Y).length = k := by
     intro k hk
     induction k with
     | zero => rfl
     | succ k ih =>
      obtain ⟨y', cs', e1, _⟩ := hY k (by omega)
      rw [List.range_succ, List.filterMap_append, List.length_append, ih (by omega)]
      simp [e1]
    exact this len (Nat.le_refl _)
   ·have : ∀ k, k ≤ len → ((List.range k).filterMap Y).length = k ∧ ∀ i, i < k → Y i = ((List.range k).filterMap Y)[i]? := by
     intro k hk
     induction k with
     | zero => exact ⟨rfl, fun i hi => by omega⟩
     | succ k ih =>
      obtain ⟨h6, h7⟩ := ih (by omega)
      obtain ⟨y', cs', e1, _⟩ := hY k (by omega)
      rw [List.range_succ, List.filterMap_append]
      refine ⟨by rw [List.length_append, h6]; simp [e1], fun i hi => ?_⟩
      by_cases hik : i < k
      ·rw [List.getElem?_append_left (by omega)]; exact h7 i hik
      ·obtain rfl : i = k := by omega
       rw [List.getElem?_append_right (by omega), h6]
       simp [e1]
    exact (this len (Nat.le_refl _)).2
  refine ⟨l, ⟨_, rfl, some a, cap, by rw [hl1], by omega, hm, ?_⟩, ?_⟩
  ·by_cases h0 : len = 0
   ·exact .inl (List.eq_nil_of_length_eq_zero (by omega))
   ·right
    obtain ⟨y', cs', e1, e2, e3, _⟩ := hY 0 (by omega)
    rw [he.n] at e2
    obtain ⟨_, hlen, hcell⟩ := World.cells?_some e2
    have hspot : a.spot = none ∧ a.block < w.heap.size := by
     obtain ⟨u, hu⟩ : ∃ u, w.cell? a = some u := by
      have := hcell 0 (by omega)
      simp [Addr.add] at this
      exact ⟨_, this.trans (List.getElem?_eq_getElem (by omega))⟩
     refine ⟨?_, World.block_lt_of_cell? w a hu⟩
     simp only [World.cell?] at hu
     cases hs : a.spot with
     | none => rfl
     | some s =>
      rw [hs] at hu
      simp at hu
      split at hu <;> simp at hu
    obtain ⟨b, o, sp⟩ := a
    simp only at hspot
    obtain ⟨rfl, hbl⟩ := hspot
    refine ⟨b, o, rfl, hbl, fun i z hz => ?_⟩
    have hi : i < len := by
     rw [← hl1]
     exact (List.getElem?_eq_some_iff.1 hz).1
    obtain ⟨y', cs', e1, e2, e3, _⟩ := hY i hi
    rw [hl2 i hi] at e1
    obtain rfl : y' = z := by rw [hz] at e1; simpa using e1.symm
    rw [he.n] at e2
    obtain ⟨_, hlen, hcell⟩ := World.cells?_some e2
    refine ⟨cs', fun j u hu => ?_, e3⟩
    have hj : j < Rep.n α := by rw [← hlen]; exact (List.getElem?_eq_some_iff.1 hu).1
    have := hcell j hj
    rw [addr_add, addr_add] at this
    rw [this]; exact hu
  ·have := bulkAll_map (l := l) (D := D) (fun i hi => by
    obtain ⟨y', cs', e1, _, _, e4⟩ := hY i (by omega)
    rw [hl2 i (by omega), List.getElem?_eq_getElem hi] at e1
    simp at e1
    rw [e1]; exact e4)
   rw [hl1] at this
   have h2 := bulk_slice ((List.range len).map D) ((List.range (m - len)).map fun j => D (len + j))
   simp only [Bulk.bulk] at this ⊢
   omega⟩

theorem open_struct {α : Type} [Rep α] [Bulk α] {H : Type} {enc : TypeId × Value → H} {w : World} {t base : Nat} {fs : Array Field} {v : Value} {d : DataW H} {p : List MemPlace} (hr : ReadsAs t α) (hs : Tryd.prog.underlying t = some (.struct fs))
  (hv : Value.okWide Tryd.prog w .any base t v) (h : DataW.Trod enc Tryd.prog w 0 (fun _ => true) true t v d p) : ∃ cs : List Value, v = .agg cs.toArray ∧ ∃ y : α, Rep.rep (fun b => b < w.heap.size) w cs y ∧ Bulk.bulk y ≤ Rows.uptoBulk d := by
 obtain ⟨cs, rfl, hsz⟩ := okWide_struct hs hv
 obtain ⟨fuel, hf⟩ := h
 obtain ⟨y, h1, h2⟩ := hr.get hf
 exact ⟨cs.toList, by simp, y, by simpa [Value.cells] using h1, h2⟩
theorem open_sl {α : Type} [Rep α] [Bulk α] {H : Type} {enc : TypeId × Value → H} {w : World} {t e base : Nat} {v : Value} {d : DataW H} {p : List MemPlace} (hr : ReadsAs t (List α)) (hs : Tryd.prog.underlying t = some (.slice e))
  (hv : Value.okWide Tryd.prog w .any base t v) (h : DataW.Trod enc Tryd.prog w 0 (fun _ => true) true t v d p) : ∃ l : List α, Rd w v l ∧ Bulk.bulk l ≤ Rows.uptoBulk d := by
 obtain ⟨a, n, c, rfl⟩ := okWide_slice hs hv
 obtain ⟨fuel, hf⟩ := h
 obtain ⟨y, h1, h2⟩ := hr.get hf
 obtain ⟨v, e, h3⟩ := h1
 simp only [Value.cells, List.cons.injEq, and_true] at e
 subst e
 exact ⟨y, h3, h2⟩
theorem open_str {H : Type} {enc : TypeId × Value → H} {w : World} {base : Nat} {v : Value} {d : DataW H} {p : List MemPlace}
  (hv : Value.okWide Tryd.prog w .any base 9 v) (h : DataW.Trod enc Tryd.prog w 0 (fun _ => true) true 9 v d p) : ∃ s : ByteArray, v = .string s ∧ s.size ≤ maxLen ∧ s.size + 1 ≤ Rows.uptoBulk d := by
 obtain ⟨s, rfl⟩ := okWide_string Tryd.underlying9 hv
 obtain ⟨fuel, hf⟩ := h
 obtain ⟨y, h1, h2⟩ := readsStr.get hf
 obtain ⟨e, h3⟩ := h1
 simp only [Value.cells, List.cons.injEq, and_true, Value.string.injEq] at e
 subst e
 exact ⟨s, rfl, h3, h2⟩
theorem open_num {H : Type} {enc : TypeId × Value → H} {w : World} {base : Nat} {v : Value} {d : DataW H} {p : List MemPlace}
  (hv : Value.okWide Tryd.prog w .any base 3 v) (h : DataW.Trod enc Tryd.prog w 0 (fun _ => true) true 3 v d p) : ∃ n : Int, v = .int .i64 n ∧ -9223372036854775808 ≤ n ∧ n ≤ 9223372036854775807 := by
 obtain ⟨n, rfl, _⟩ := open_int Tryd.underlying3 hv h
 obtain ⟨fuel, hf⟩ := h
 obtain ⟨y, h1, _⟩ := readsInt.get hf
 have e : n = y := by
  have := h1.1
  simp only [Value.cells, List.cons.injEq, and_true, Value.int.injEq, true_and] at this
  exact this
 have h2 := h1.2.1
 have h3 := h1.2.2
 rw [← e] at h2 h3
 exact ⟨n, rfl, h2, h3⟩

theorem laidOut' : laidOutB Tryd.prog = true := by kernel_rfl
theorem own' : ownKnob Tryd.prog.godebug = none := by kernel_rfl

theorem trodAll_below {H : Type} {enc : TypeId × Value → H} {W W' : World} (hb : Below W.heap.size W W') {ts : List TypeId} (ht : (ts.all fun t => Tryd.prog.readableRec t && decide (t < Tryd.prog.types.size)) = true) : ∀ {vs : List Value} {ds : List (DataW H)} {ps : List MemPlace},
  DataW.TrodAll enc Tryd.prog W 0 (fun _ => true) true ts vs ds ps → (∀ x ∈ ps, x.block < W.heap.size) → DataW.TrodAll enc Tryd.prog W' 0 (fun b => decide (b < W.heap.size)) true ts vs ds ps := by
 induction ts with
 | nil =>
  intro vs ds ps h _
  obtain ⟨rfl, rfl, rfl⟩ := trodAll_nil h
  exact trodAll_mk0
 | cons t ts ih =>
  intro vs ds ps h hlt
  obtain ⟨v, vs', d, ds', p, q, rfl, rfl, rfl, h1, h2⟩ := trodAll_cons h
  rw [List.all_cons, Bool.and_eq_true, Bool.and_eq_true, decide_eq_true_eq] at ht
  exact trodAll_cons_mk (Below.trod laidOut' ht.1.1 ht.1.2 h1 hb (fun x hx => hlt x (List.mem_append_left _ hx))) (ih ht.2 h2 (fun x hx => hlt x (List.mem_append_right _ hx)))

theorem law_post {H : Type} {enc : TypeId × Value → H} {f : Func} {s : ChangeSpec} (hs0 : s.vars = []) (hres : f.resultTypes = #[4]) (hts : (f.params.toList.all fun t => Tryd.prog.readableRec t && decide (t < Tryd.prog.types.size)) = true)
  {W W' : World} {args : Array Value} {ds gs : List (DataW H)} {before : List MemPlace} (hW : DataW.Whole enc Tryd.prog f.params.toList s.vars false W args.toList ds gs before)
  (hfn : s.fn H (ds ++ gs) = { results := [.lit (.bool true)], args := ds }) (hb : Below W.heap.size W W') : s.post enc Tryd.prog f false true false false W args (.bool true) W' := by
 have hW' := hW
 have hlt : ∀ x ∈ before, x.block < W.heap.size := fun x hx => hW.lt x hx
 obtain ⟨p, q, hA, hV, rfl, hfz, hnd⟩ := hW
 have hV2 := hV
 rw [hs0] at hV
 obtain ⟨rfl, rfl⟩ := trodVars_none hV
 refine ⟨ds, [], p ++ [], [], p, [], hW', ?_, ?_, ?_, hb.frame _, fun h => by cases h⟩
 ·rw [hfn, hres]
  exact trodAll_cons_mk (shut_bool Tryd.underlying4 _) trodAll_mk0
 ·rw [hfn]
  exact trodAll_below hb hts hA (fun x hx => hlt x (List.mem_append_left _ hx))
 ·rw [hfn, hs0]
  rfl

theorem list_succ {α : Type} {l : List α} {n : Nat} (h : l.length = n + 1) : ∃ a t, l = a :: t ∧ t.length = n := by
 cases l with
 | nil => simp at h
 | cons a t => exact ⟨a, t, rfl, by simpa using h⟩
theorem list_zero {α : Type} {l : List α} (h : l.length = 0) : l = [] := List.eq_nil_of_length_eq_zero h

end Go.Proofs.YtjnljjbmmmpdiaaDoor
