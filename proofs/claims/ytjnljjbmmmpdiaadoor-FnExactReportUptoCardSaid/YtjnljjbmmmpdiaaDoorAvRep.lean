/-
 FROM READING TO ABSTRACT VALUES: a Go value that reads as plain data stands for the data's abstract value. Conditions: none.
-/
import Derived.Test.YtjnljjbmmmpdiaaDoorAVal
import Derived.Test.YtjnljjbmmmpdiaaDoorReads
set_option linter.unusedVariables false
namespace Go.Proofs.YtjnljjbmmmpdiaaDoor
open Go.RowKit Go.Proofs.YtjnljjbmmmpdiaaDoor.Av Go.Proofs.YtjnljjbmmmpdiaaDoor.Ml
open Go.Proofs.YtjnljjbmmmpdiaaDoor.Av.AVal (av)

theorem pint (n : Int) : AvPure (.int .i64 n) := AvPure.int _ _
class AvRep (α : Type) [Rep α] [AVal α] : Prop where
 vr : ∀ {S : Nat → Prop} {w : World} {cs : List Value} {y : α}, Rep.rep S w cs y → VRs S w mu0 cs (av y).cells
theorem avRep_n {α : Type} [Rep α] [AVal α] [AvRep α] {S : Nat → Prop} {w : World} {cs : List Value} {y : α} (h : Rep.rep S w cs y) : (av y).cells.length = Rep.n α := by
 rw [← (AvRep.vr h).1]; exact Rep.len h
instance : AvRep Int := ⟨fun {S w cs y} h => by obtain ⟨rfl, h1, h2⟩ := h; exact VRs.cons (.int _ _ h1 h2) VRs.nil⟩
instance : AvRep Bool := ⟨fun {S w cs y} h => by have h : cs = [.bool y] := h; subst h; exact VRs.cons (.bool _) VRs.nil⟩
instance : AvRep ByteArray := ⟨fun {S w cs y} h => by obtain ⟨rfl, h1⟩ := h; exact VRs.cons (.str _ h1) VRs.nil⟩
theorem repSl_vr {α : Type} [Rep α] [AVal α] [AvRep α] {S : Nat → Prop} {w : World} {v : Value} {l : List α} (h : RepSl S w v l) : VR S w mu0 v (.sl (l.map av)) := by
 obtain ⟨a, cap, rfl, h1, h2, h3⟩ := h
 by_cases hl : l = []
 ·subst hl; exact .sl0 a cap h2
 ·obtain ⟨b, o, rfl, hb, hr⟩ := h3.resolve_left hl
  -- the cells of the elements
  have hc : ∀ i j, ∃ v, ∀ e x, (l.map av)[i]? = some e → e.cells[j]? = some x → w.cell? ⟨b, o + i * Rep.n α + j, none⟩ = some v ∧ VR S w mu0 v x := by
   intro i j
   by_cases hi : i < l.length
   ·obtain ⟨cs, h4, h5⟩ := hr i l[i] (by simp [hi])
    have h6 := AvRep.vr h5
    by_cases hj : j < cs.length
    ·refine ⟨cs[j], fun e x p q => ?_⟩
     simp only [List.getElem?_map, List.getElem?_eq_getElem hi, Option.map_some, Option.some.injEq] at p
     subst p
     exact ⟨h4 j _ (by simp [hj]), h6.2 j _ x (by simp [hj]) q⟩
    ·refine ⟨.nilFunc, fun e x p q => ?_⟩
     simp only [List.getElem?_map, List.getElem?_eq_getElem hi, Option.map_some, Option.some.injEq] at p
     subst p
     have := (List.getElem?_eq_some_iff.1 q).1
     rw [← h6.1] at this
     exact absurd this hj
   ·refine ⟨.nilFunc, fun e x p q => ?_⟩
    have := (List.getElem?_eq_some_iff.1 p).1
    simp at this; exact absurd this hi
  have := VR.sl (S := S) (w := w) (μ := mu0) b o cap (Rep.n α) (fun i j => (hc i j).choose) (l.map av) hb (by simpa using h1) h2 (fun e he => by
   obtain ⟨x, hx, rfl⟩ := List.mem_map.1 he
   obtain ⟨i, hi, rfl⟩ := List.mem_iff_getElem.1 hx
   obtain ⟨cs, h4, h5⟩ := hr i l[i] (by simp [hi])
   exact ⟨avRep_n h5, AVal.cone _⟩) (fun i j hi hj => by
   have hi' : i < l.length := by simpa using hi
   obtain ⟨cs, h4, h5⟩ := hr i l[i] (by simp [hi'])
   have hlen := avRep_n h5
   exact ((hc i j).choose_spec (av l[i]) ((av l[i]).cells[j]'(by omega)) (by simp [hi']) (by simp)).1) (fun i j e x p q => ((hc i j).choose_spec e x p q).2)
  simpa using this
instance {α : Type} [Rep α] [AVal α] [AvRep α] : AvRep (List α) := ⟨fun {S w cs y} h => by obtain ⟨v, rfl, h⟩ := h; exact VRs.cons (repSl_vr h) VRs.nil⟩

def SzPost (r : AV) (hp' : Hp) : Prop := ∃ m : Int, r = .int .i64 m ∧ hp' = [] ∧ -1 ≤ m ∧ m ≤ 1048576
def SzOk (f : FuncId) (args : List AV) : Prop := CallsH Tryd.prog f args [] SzPost

theorem repAgg_vr {α : Type} [Rep α] [AVal α] [AvRep α] {S : Nat → Prop} {w : World} {cs : List Value} {y : α} (h : Rep.rep S w cs y) {xs : List AV} (hx : av y = .agg xs) : VR S w mu0 (.agg cs.toArray) (av y) := by
 have h1 := AvRep.vr h
 have h2 := AVal.cone y
 rw [hx] at h1 h2 ⊢
 exact .agg _ _ (by simpa [AV.cells] using h1.1) h2 (fun i v x p q => h1.2 i v x (by simpa using p) q)

theorem law_calls {f : FuncId} {args : List AV} (h : CallsF Tryd.prog f args (.bool true)) {w : World} {vs : List Value} (hv : VRs (fun b => b < w.heap.size) w mu0 vs args) :
  Calls Tryd.prog f vs.toArray w fun e w' => e = .returned (.bool true) ∧ Below w.heap.size w w' := by
 obtain ⟨_, _, h⟩ := h
 refine (h _ w vs (fun b hb => hb) hv).mono fun e w' ⟨v, he, hr, hb⟩ => ⟨?_, hb⟩
 cases hr; exact he
end Go.Proofs.YtjnljjbmmmpdiaaDoor
