/-
 FROM THE FORM'S READING TO PLAIN DATA: an argument that can be read as data reads as a Lean value, and its bulk is at most the datum's. Conditions: none.
-/
import Derived.Test.YteeiaaogmjbcjaaGreatRows
import Derived.Test.YteeiaaogmjbcjaaGreatUJ05
import Derived.OpenShut
import Derived.JoinedCond
import Derived.Deep.Slices
import Derived.Ground.Names2Prog
import Derived.Shelf.Slices.CompactI
import Derived.Test.YteeiaaogmjbcjaaGreatProg
set_option maxRecDepth 100000
namespace Go.Proofs.YteeiaaogmjbcjaaGreat
open Go.ChangeShapes Go.WideShapes Go.ChangeAt Go.RowKit Go.Proofs.YteeiaaogmjbcjaaGreat.Ml

class AE (α : Type) where
 bulk : α → Nat
 pos : ∀ x, 1 ≤ bulk x
instance : AE Int := ⟨fun _ => 1, fun _ => Nat.le_refl _⟩
instance : AE Bool := ⟨fun _ => 1, fun _ => Nat.le_refl _⟩
instance : AE UInt8 := ⟨fun _ => 1, fun _ => Nat.le_refl _⟩
instance : AE ByteArray := ⟨fun s => s.size + 1, fun _ => by omega⟩
instance {α : Type} [AE α] : AE (List α) := ⟨fun l => (l.map AE.bulk).sum + 1, fun _ => by omega⟩

theorem BJ {α : Type} [AE α] (l : List α) : l.length + 1 ≤ AE.bulk l := by
 induction l with
 | nil => simp [AE.bulk]
 | cons x r ih =>
  have := AE.pos x
  simp only [AE.bulk, List.map_cons, List.sum_cons, List.length_cons] at ih ⊢
  omega

theorem IQ {α : Type} [AE α] {l : List α} {x : α} (h : x ∈ l) : AE.bulk x + 1 ≤ AE.bulk l := by
 induction l with
 | nil => cases h
 | cons y r ih =>
  simp only [AE.bulk, List.map_cons, List.sum_cons]
  rcases List.mem_cons.1 h with e | e
  ·subst e; omega
  ·have := ih e
   simp only [AE.bulk] at this
   omega

theorem KB (l : List Int) : AE.bulk l = l.length + 1 := by
 induction l with
 | nil => simp [AE.bulk]
 | cons x r ih => simp only [AE.bulk, List.map_cons, List.sum_cons, List.length_cons] at ih ⊢; omega

structure KM (t : TypeId) (α : Type) [Rep α] [AE α] : Prop where
 n : Tryz.prog.cellsOf t = Rep.n α
 get : ∀ {H : Type} {enc : TypeId × Value → H} {w : World} {fuel : Nat} {cs : List Value} {x : DataW H × List MemPlace}, DataW.trod enc Tryz.prog w 0 (fun _ => true) true fuel t cs = some x → ∃ y : α, Rep.rep (fun b => b < w.heap.size) w cs y ∧ AE.bulk y ≤ Rows.uptoBulk x.1

theorem Tk {H α : Type} [AE α] {l : List α} {D : Nat → DataW H} (h : ∀ i (hi : i < l.length), AE.bulk l[i] ≤ Rows.uptoBulk (D i)) : (l.map AE.bulk).sum ≤ Rows.uptoBulkAll ((List.range l.length).map D) := by
 induction l generalizing D with
 | nil => simp
 | cons x r ih =>
  rw [List.length_cons, List.range_succ_eq_map]
  simp only [List.map_cons, List.sum_cons, Rows.uptoBulkAll, List.map_map]
  have h0 := h 0 (by simp)
  have h1 := ih (D := D ∘ Nat.succ) (fun i hi => h (i + 1) (by simpa using hi))
  simp only [List.getElem_cons_zero] at h0
  omega

theorem Va {H : Type} (l r : List (DataW H)) : Rows.uptoBulkAll l + 1 ≤ Rows.uptoBulk (.slice l r) := by
 simp only [Rows.uptoBulk]; omega

theorem DH (b o k : Nat) : (⟨b, o, none⟩ : Addr).add k = ⟨b, o + k, none⟩ := by
 unfold Addr.add; split <;> simp_all

theorem Uv {t e : TypeId} {α : Type} [Rep α] [AE α] (he : KM e α) (ht : Tryz.prog.underlying t = some (.slice e)) (h1 : Tryz.prog.cellsOf t = 1) (hn : 0 < Rep.n α) : KM t (List α) := ⟨h1, fun {H enc w fuel cs x} h => by
 rcases Deep.open_slice ht h with ⟨rfl, rfl⟩ | ⟨a, len, cap, m, n, D, Pl, rfl, _, hl, hm, hmm, rfl, hx⟩
 ·exact ⟨[], ⟨_, rfl, none, 0, rfl, Nat.le_refl _, Nat.zero_le _, .inl rfl⟩, by simp [AE.bulk, Rows.uptoBulk]⟩
 ·have hlm : len ≤ m := by rw [hmm]; simpa using hl
  obtain ⟨Y, hY⟩ := Deep.choose_lt (α := Option α) (n := len) (p := fun i y => ∃ y' cs', y = some y' ∧ w.cells? 0 (a.add (i * Tryz.prog.cellsOf e)) (Tryz.prog.cellsOf e) = some cs' ∧ Rep.rep (fun b => b < w.heap.size) w cs' y' ∧ AE.bulk y' ≤ Rows.uptoBulk (D i)) (fun i hi => by
   obtain ⟨cs', h2, h3⟩ := hx i (by omega)
   obtain ⟨y, h4, h5⟩ := he.get h3
   exact ⟨some y, y, cs', rfl, h2, h4, h5⟩)
  obtain ⟨l, hl1, hl2⟩ : ∃ l : List α, l.length = len ∧ ∀ i, i < len → Y i = l[i]? := by
   refine ⟨(List.range len).filterMap Y, ?_, ?_⟩
   ·have : ∀ k, k ≤ len → ((List.range k).filterMap Y).length = k := by
     intro k hk
     induction k with
     | zero => rfl
     | succ k ih =>
      obtain ⟨y', cs', e1, _⟩ := hY k (by omega)
      rw [List.range_succ, List.filterMap_append, List.length_append, ih (by omega)]
      simp [e1]
    exact this len (Nat.le_refl _)
   ·have : ∀ k, k ≤ len → ((List.range k).filterMap Y).length = k ∧ ∀ i, i < k → Y i = ((List.range k).filterMap Y)[i]? := by
     intro k hk
     induction k with
     | zero => exact ⟨rfl, fun i hi => by omega⟩
     | succ k ih =>
      obtain ⟨h6, h7⟩ := ih (by omega)
      obtain ⟨y', cs', e1, _⟩ := hY k (by omega)
      rw [List.range_succ, List.filterMap_append]
      refine ⟨by rw [List.length_append, h6]; simp [e1], fun i hi => ?_⟩
      by_cases hik : i < k
      ·rw [List.getElem?_append_left (by omega)]; exact h7 i hik
      ·obtain rfl : i = k := by omega
       rw [List.getElem?_append_right (by omega), h6]
       simp [e1]
    exact (this len (Nat.le_refl _)).2
  refine ⟨l, ⟨_, rfl, some a, cap, by rw [hl1], by omega, hm, ?_⟩, ?_⟩
  ·by_cases h0 : len = 0
   ·exact .inl (List.eq_nil_of_length_eq_zero (by omega))
   ·right
    obtain ⟨y', cs', e1, e2, e3, _⟩ := hY 0 (by omega)
    rw [he.n] at e2
    obtain ⟨_, hlen, hcell⟩ := World.cells?_some e2
    have hspot : a.spot = none ∧ a.block < w.heap.size := by
     obtain ⟨u, hu⟩ : ∃ u, w.cell? a = some u := by
      have := hcell 0 (by omega)
      simp [Addr.add] at this
      exact ⟨_, this.trans (List.getElem?_eq_getElem (by omega))⟩
     refine ⟨?_, World.block_lt_of_cell? w a hu⟩
     simp only [World.cell?] at hu
     cases hs : a.spot with
     | none => rfl
     | some s =>
      rw [hs] at hu
      simp at hu
      split at hu <;> simp at hu
    obtain ⟨b, o, sp⟩ := a
    simp only at hspot
    obtain ⟨rfl, hbl⟩ := hspot
    refine ⟨b, o, rfl, hbl, fun i z hz => ?_⟩
    have hi : i < len := by
     rw [← hl1]
     exact (List.getElem?_eq_some_iff.1 hz).1
    obtain ⟨y', cs', e1, e2, e3, _⟩ := hY i hi
    rw [hl2 i hi] at e1
    obtain rfl : y' = z := by rw [hz] at e1; simpa using e1.symm
    rw [he.n] at e2
    obtain ⟨_, hlen, hcell⟩ := World.cells?_some e2
    refine ⟨cs', fun j u hu => ?_, e3⟩
    have hj : j < Rep.n α := by rw [← hlen]; exact (List.getElem?_eq_some_iff.1 hu).1
    have := hcell j hj
    rw [DH, DH] at this
    rw [this]; exact hu
  ·have := Tk (l := l) (D := D) (fun i hi => by
    obtain ⟨y', cs', e1, _, _, e4⟩ := hY i (by omega)
    rw [hl2 i (by omega), List.getElem?_eq_getElem hi] at e1
    simp at e1
    rw [e1]; exact e4)
   rw [hl1] at this
   have h2 := Va ((List.range len).map D) ((List.range (m - len)).map fun j => D (len + j))
   simp only [AE.bulk] at this ⊢
   omega⟩

theorem Aa6 {α : Type} [Rep α] [AE α] {H : Type} {enc : TypeId × Value → H} {w : World} {t e base : Nat} {v : Value} {d : DataW H} {p : List MemPlace} (hr : KM t (List α)) (hs : Tryz.prog.underlying t = some (.slice e))
  (hv : Value.okWide Tryz.prog w .any base t v) (h : DataW.Trod enc Tryz.prog w 0 (fun _ => true) true t v d p) : ∃ l : List α, Rd w v l ∧ AE.bulk l ≤ Rows.uptoBulk d := by
 obtain ⟨a, n, c, rfl⟩ := okWide_slice hs hv
 obtain ⟨fuel, hf⟩ := h
 obtain ⟨y, h1, h2⟩ := hr.get hf
 obtain ⟨v, e, h3⟩ := h1
 simp only [Value.cells, List.cons.injEq, and_true] at e
 subst e
 exact ⟨y, h3, h2⟩
theorem ZK : laidOutB Tryz.prog = true := by kernel_rfl
theorem Ac4 : ownKnob Tryz.prog.godebug = none := by kernel_rfl

theorem N3 {H : Type} {enc : TypeId × Value → H} {W W' : World} (hb : Below W.heap.size W W') {ts : List TypeId} (ht : (ts.all fun t => Tryz.prog.readableRec t && decide (t < Tryz.prog.types.size)) = true) : ∀ {vs : List Value} {ds : List (DataW H)} {ps : List MemPlace},
  DataW.TrodAll enc Tryz.prog W 0 (fun _ => true) true ts vs ds ps → (∀ x ∈ ps, x.block < W.heap.size) → DataW.TrodAll enc Tryz.prog W' 0 (fun b => decide (b < W.heap.size)) true ts vs ds ps := by
 induction ts with
 | nil =>
  intro vs ds ps h _
  obtain ⟨rfl, rfl, rfl⟩ := trodAll_nil h
  exact trodAll_mk0
 | cons t ts ih =>
  intro vs ds ps h hlt
  obtain ⟨v, vs', d, ds', p, q, rfl, rfl, rfl, h1, h2⟩ := trodAll_cons h
  rw [List.all_cons, Bool.and_eq_true, Bool.and_eq_true, decide_eq_true_eq] at ht
  exact trodAll_cons_mk (Below.trod ZK ht.1.1 ht.1.2 h1 hb (fun x hx => hlt x (List.mem_append_left _ hx))) (ih ht.2 h2 (fun x hx => hlt x (List.mem_append_right _ hx)))

theorem ZJ {H : Type} {enc : TypeId × Value → H} {f : Func} {s : ChangeSpec} (hs0 : s.vars = []) (hres : f.resultTypes = #[4]) (hts : (f.params.toList.all fun t => Tryz.prog.readableRec t && decide (t < Tryz.prog.types.size)) = true)
  {W W' : World} {args : Array Value} {ds gs : List (DataW H)} {before : List MemPlace} (hW : DataW.Whole enc Tryz.prog f.params.toList s.vars false W args.toList ds gs before)
  (hfn : s.fn H (ds ++ gs) = { results := [.lit (.bool true)], args := ds }) (hb : Below W.heap.size W W') : s.post enc Tryz.prog f false true false false W args (.bool true) W' := by
 have hW' := hW
 have hlt : ∀ x ∈ before, x.block < W.heap.size := fun x hx => hW.lt x hx
 obtain ⟨p, q, hA, hV, rfl, hfz, hnd⟩ := hW
 have hV2 := hV
 rw [hs0] at hV
 obtain ⟨rfl, rfl⟩ := trodVars_none hV
 refine ⟨ds, [], p ++ [], [], p, [], hW', ?_, ?_, ?_, hb.frame _, fun h => by cases h⟩
 ·rw [hfn, hres]
  exact trodAll_cons_mk (shut_bool Tryz.underlying4 _) trodAll_mk0
 ·rw [hfn]
  exact N3 hb hts hA (fun x hx => hlt x (List.mem_append_left _ hx))
 ·rw [hfn, hs0]
  rfl

end Go.Proofs.YteeiaaogmjbcjaaGreat
set_option linter.unusedVariables false
namespace Go.Proofs.YteeiaaogmjbcjaaGreat
open Go.RowKit Go.Proofs.YteeiaaogmjbcjaaGreat.Av Go.Proofs.YteeiaaogmjbcjaaGreat.Ml
open Go.Proofs.YteeiaaogmjbcjaaGreat.Av.AVal (av)

theorem E0 (n : Int) : Ap (.int .i64 n) := Ap.int _ _
class DR (α : Type) [Rep α] [AVal α] : Prop where
 vr : ∀ {S : Nat → Prop} {w : World} {cs : List Value} {y : α}, Rep.rep S w cs y → VRs S w mu0 cs (av y).cells
theorem Xk {α : Type} [Rep α] [AVal α] [DR α] {S : Nat → Prop} {w : World} {cs : List Value} {y : α} (h : Rep.rep S w cs y) : (av y).cells.length = Rep.n α := by
 rw [← (DR.vr h).1]; exact Rep.len h
instance : DR Int := ⟨fun {S w cs y} h => by obtain ⟨rfl, h1, h2⟩ := h; exact VRs.cons (.int _ _ h1 h2) VRs.nil⟩
instance : DR Bool := ⟨fun {S w cs y} h => by have h : cs = [.bool y] := h; subst h; exact VRs.cons (.bool _) VRs.nil⟩
instance : DR ByteArray := ⟨fun {S w cs y} h => by obtain ⟨rfl, h1⟩ := h; exact VRs.cons (.str _ h1) VRs.nil⟩
theorem Cp {α : Type} [Rep α] [AVal α] [DR α] {S : Nat → Prop} {w : World} {v : Value} {l : List α} (h : DI S w v l) : VR S w mu0 v (.sl (l.map av)) := by
 obtain ⟨a, cap, rfl, h1, h2, h3⟩ := h
 by_cases hl : l = []
 ·subst hl; exact .sl0 a cap h2
 ·obtain ⟨b, o, rfl, hb, hr⟩ := h3.resolve_left hl
  -- the cells of the elements
  have hc : ∀ i j, ∃ v, ∀ e x, (l.map av)[i]? = some e → e.cells[j]? = some x → w.cell? ⟨b, o + i * Rep.n α + j, none⟩ = some v ∧ VR S w mu0 v x := by
   intro i j
   by_cases hi : i < l.length
   ·obtain ⟨cs, h4, h5⟩ := hr i l[i] (by simp [hi])
    have h6 := DR.vr h5
    by_cases hj : j < cs.length
    ·refine ⟨cs[j], fun e x p q => ?_⟩
     simp only [List.getElem?_map, List.getElem?_eq_getElem hi, Option.map_some, Option.some.injEq] at p
     subst p
     exact ⟨h4 j _ (by simp [hj]), h6.2 j _ x (by simp [hj]) q⟩
    ·refine ⟨.nilFunc, fun e x p q => ?_⟩
     simp only [List.getElem?_map, List.getElem?_eq_getElem hi, Option.map_some, Option.some.injEq] at p
     subst p
     have := (List.getElem?_eq_some_iff.1 q).1
     rw [← h6.1] at this
     exact absurd this hj
   ·refine ⟨.nilFunc, fun e x p q => ?_⟩
    have := (List.getElem?_eq_some_iff.1 p).1
    simp at this; exact absurd this hi
  have := VR.sl (S := S) (w := w) (μ := mu0) b o cap (Rep.n α) (fun i j => (hc i j).choose) (l.map av) hb (by simpa using h1) h2 (fun e he => by
   obtain ⟨x, hx, rfl⟩ := List.mem_map.1 he
   obtain ⟨i, hi, rfl⟩ := List.mem_iff_getElem.1 hx
   obtain ⟨cs, h4, h5⟩ := hr i l[i] (by simp [hi])
   exact ⟨Xk h5, AVal.AcE _⟩) (fun i j hi hj => by
   have hi' : i < l.length := by simpa using hi
   obtain ⟨cs, h4, h5⟩ := hr i l[i] (by simp [hi'])
   have hlen := Xk h5
   exact ((hc i j).choose_spec (av l[i]) ((av l[i]).cells[j]'(by omega)) (by simp [hi']) (by simp)).1) (fun i j e x p q => ((hc i j).choose_spec e x p q).2)
  simpa using this
instance {α : Type} [Rep α] [AVal α] [DR α] : DR (List α) := ⟨fun {S w cs y} h => by obtain ⟨v, rfl, h⟩ := h; exact VRs.cons (Cp h) VRs.nil⟩

theorem XT {f : FuncId} {args : List AV} (h : AJ Tryz.prog f args (.bool true)) {w : World} {vs : List Value} (hv : VRs (fun b => b < w.heap.size) w mu0 vs args) :
  Calls Tryz.prog f vs.toArray w fun e w' => e = .returned (.bool true) ∧ Below w.heap.size w w' := by
 obtain ⟨_, _, h⟩ := h
 refine (h _ w vs (fun b hb => hb) hv).mono fun e w' ⟨v, he, hr, hb⟩ => ⟨?_, hb⟩
 cases hr; exact he
end Go.Proofs.YteeiaaogmjbcjaaGreat
set_option linter.unusedVariables false
namespace Go.Proofs.YteeiaaogmjbcjaaGreat
open Go.RowKit Go.Proofs.YteeiaaogmjbcjaaGreat.Av Go.Proofs.YteeiaaogmjbcjaaGreat.Ml
open Go.Proofs.YteeiaaogmjbcjaaGreat.Av.AVal (av)

instance : AE UInt8 := ⟨fun _ => 1, fun _ => Nat.le_refl _⟩
instance : DR UInt8 := ⟨fun {S w cs y} h => by
 have h : cs = [.int .u8 y.toNat] := h
 subst h
 have := y.toNat_lt
 exact VRs.cons (.int .u8 (y.toNat : Int) (show (0 : Int) ≤ _ by omega) (show (y.toNat : Int) ≤ 255 by omega)) VRs.nil⟩
theorem AaP : KM 5 UInt8 := ⟨by kernel_rfl, fun h => by
 obtain ⟨n, rfl, rfl, hw⟩ := DataW.trod_int Tryz.underlying5 h
 have hb : 0 ≤ n ∧ n ≤ 255 := by simpa [Lit.wf, IntKind.min, IntKind.max, IntKind.signed, IntKind.bits] using hw
 refine ⟨UInt8.ofNat n.toNat, ?_, by simp [AE.bulk, Rows.uptoBulk]⟩
 show [Value.int .u8 n] = [Value.int .u8 _]
 have : ((UInt8.ofNat n.toNat).toNat : Int) = n := by
  rw [UInt8.toNat_ofNat_of_lt' (by show n.toNat < 256; omega)]; omega
 rw [this]⟩
theorem Y1 : KM 22 (List UInt8) := Uv AaP Tryz.underlying22 (by kernel_rfl) (by simp [Rep.n])
end Go.Proofs.YteeiaaogmjbcjaaGreat
namespace Go.Proofs.YteeiaaogmjbcjaaGreat
open Go.Shelf Go.Proofs
def N5 : Go.Shelf.Ren := ⟨fun | 20 => 51 | n => n, fun | 22 => 34 | 3 => 3 | 4 => 4 | 0 => 0 | n => n, fun | n => n⟩
theorem O8 : Go.Proofs.Lays2.n20 Tryz.prog N5 := {
 mixed := by kernel_rfl
 f20 := Tryz.func51.trans (congrArg some (by kernel_rfl))
 t0 := Tryz.underlying0
 a0 := Tryz.isAgg0
 z0 := Tryz.sizeOf0
 v0 := Tryz.zeroValue0
 t3 := Tryz.underlying3
 a3 := Tryz.isAgg3
 z3 := Tryz.sizeOf3
 v3 := Tryz.zeroValue3
 t4 := Tryz.underlying4
 a4 := Tryz.isAgg4
 z4 := Tryz.sizeOf4
 v4 := Tryz.zeroValue4
 t22 := Tryz.underlying34
 a22 := Tryz.isAgg34
 z22 := Tryz.sizeOf34
 v22 := Tryz.zeroValue34
 i3 := by kernel_rfl }
open Go.RowKit Go.Lib Go.Sort in
theorem slices_Compact_int (blk off cap : Nat) (zs : List Int) (w : World) (hH : Holds (Value.int .i64) w blk off zs.toArray) (hsz : zs.length ≤ 9223372036854775807) (hcap : zs.length ≤ cap) :
  Calls Tryz.prog 51 #[.slice (some ⟨blk, off, none⟩) zs.length cap] w fun e w' => e = .returned (.slice (some ⟨blk, off, none⟩) (Lib.compact zs).length cap) ∧ ∃ q, w' = putRow (Value.int .i64) (Sort.ahead w q) blk off (Lib.compact zs ++ List.replicate (zs.length - (Lib.compact zs).length) 0).toArray := Any.slices_Compact_int O8 blk off cap zs w hH hsz hcap
open Go.RowKit Go.Lib Go.Sort in
theorem slices_Compact_int_empty (a : Option Addr) (cap : Nat) (w : World) :
  Calls Tryz.prog 51 #[.slice a 0 cap] w fun e w' => e = .returned (.slice a 0 cap) ∧ w' = w := Any.slices_Compact_int_empty O8 a cap w
end Go.Proofs.YteeiaaogmjbcjaaGreat
