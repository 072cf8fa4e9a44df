/-
 PLAIN DATA AS ABSTRACT VALUES. Conditions: none.
-/
import Derived.Test.YtppjinmlfcokaaaGreatVAvSimp
import Derived.Test.YtppjinmlfcokaaaGreatVJ00
import Derived.Test.YtppjinmlfcokaaaGreatProg
import Derived.Test.YtppjinmlfcokaaaGreatVAvDraw
import Derived.Test.YtppjinmlfcokaaaGreatVJ01
set_option linter.unusedVariables false
namespace Go.Proofs.YtppjinmlfcokaaaGreat.Av
open Go.RowKit

class AVal (α : Type) where
 av : α → AV
 n : Nat
 ok : ∀ x, (av x).ok = true
 len : ∀ x, (av x).cells.length = n
 pure : ∀ x, ∀ y ∈ (av x).cells, Ad y
 nop : ∀ x hp, (av x).pur hp = av x
 Agn : ∀ x, ∀ y ∈ (av x).cells, y.one = true
open AVal (av)
theorem AVal.clean {α : Type} [AVal α] (x : α) : Ad (av x) := by
 have h := AVal.pure x
 have hk := AVal.ok x
 cases hx : (av x) with
 | agg cs => rw [hx] at h; exact Ad.agg h
 | _ => rw [hx] at h hk; first | exact h _ (by simp [AV.cells]) | (simp [AV.ok, AV.one, AV.isAgg] at hk)
instance : AVal Int := ⟨fun x => .int .i64 x, 1, fun _ => rfl, fun _ => rfl, fun x y hy => by simp [AV.cells] at hy; subst hy; exact Ad.int _ _, fun _ _ => rfl, fun x y hy => by simp [AV.cells] at hy; subst hy; rfl⟩
instance : AVal Bool := ⟨fun x => .bool x, 1, fun _ => rfl, fun _ => rfl, fun x y hy => by simp [AV.cells] at hy; subst hy; exact Ad.bool _, fun _ _ => rfl, fun x y hy => by simp [AV.cells] at hy; subst hy; rfl⟩
instance : AVal ByteArray := ⟨fun x => .str x, 1, fun _ => rfl, fun _ => rfl, fun x y hy => by simp [AV.cells] at hy; subst hy; exact Ad.str _, fun _ _ => rfl, fun x y hy => by simp [AV.cells] at hy; subst hy; rfl⟩
instance : AVal UInt8 := ⟨fun x => .int .u8 x.toNat, 1, fun _ => rfl, fun _ => rfl, fun x y hy => by simp [AV.cells] at hy; subst hy; exact Ad.int _ _, fun _ _ => rfl, fun x y hy => by simp [AV.cells] at hy; subst hy; rfl⟩
def lav {α : Type} [AVal α] (l : List α) : AV := .sl (l.map av)
theorem Ak {α : Type} [AVal α] (l : List α) : Ad (lav l) := Ad.sl fun e he y hy => by
 obtain ⟨x, _, rfl⟩ := List.mem_map.1 he
 exact AVal.pure x y hy
instance {α : Type} [AVal α] : AVal (List α) := ⟨lav, 1, fun _ => rfl, fun _ => rfl, fun x y hy => by simp [AV.cells, lav] at hy; subst hy; exact Ak x, fun _ _ => rfl, fun x y hy => by simp [AV.cells, lav] at hy; subst hy; rfl⟩
theorem AA (x : Int) : av x = .int .i64 x := eqq rfl
theorem Ce (x : ByteArray) : av x = .str x := eqq rfl
theorem AB {α : Type} [AVal α] (l : List α) (hp : Hp) : (l.map av).map (AV.pur hp) = l.map av := by
 rw [List.map_map]; apply List.map_congr_left; intro x _; exact AVal.nop x hp
def Gi {α : Type} [AVal α] (l : List α) (z : AV) (k : Nat) : List AV := (l.take k).map av ++ List.replicate (l.length - k) z
theorem FA {α : Type} [AVal α] (l : List α) (z : AV) : Gi l z 0 = List.replicate l.length z := by simp [Gi]
theorem FB {α : Type} [AVal α] (l : List α) (z : AV) : Gi l z l.length = l.map av := by simp [Gi]
theorem Dg {α : Type} [AVal α] {l : List α} (z : AV) {k : Nat} (h : k ≤ l.length) : (Gi l z k).length = l.length := by simp [Gi]; omega
theorem Gw {α : Type} [AVal α] {l : List α} (z : AV) {k : Nat} (h : k < l.length) (d : AV) : (Gi l z k).getD k d = z := by
 have hk : ((l.take k).map av).length = k := by simp; omega
 simp only [Gi, List.getD_eq_getElem?_getD]
 rw [List.getElem?_append_right (by omega), hk, Nat.sub_self, List.getElem?_replicate, if_pos (by omega)]
 rfl
theorem Gv {α : Type} [AVal α] {l : List α} {z : AV} {k : Nat} (h : k < l.length) {y : AV} (hy : y = av l[k]) : (Gi l z k).set k y = Gi l z (k + 1) := by
 have hk : ((l.take k).map av).length = k := by simp; omega
 subst hy
 simp only [Gi]
 rw [List.set_append_right _ _ (by omega), hk, Nat.sub_self, show l.length - k = (l.length - (k + 1)) + 1 by omega, List.replicate_succ, List.set_cons_zero, List.take_succ_eq_append_getElem h, List.map_append]
 simp
theorem getD_map {α β : Type} (f : α → β) (l : List α) (i : Nat) (d : β) (h : i < l.length) : (l.map f).getD i d = f l[i] := by
 simp [List.getD_eq_getElem?_getD, h]
theorem Ab {α β : Type} (f : α → β) (l : List α) : (l.map f).length = l.length := List.length_map _
theorem A6 {α : Type} {l : List α} (p : α → Bool) {k : Nat} (hlt : k < l.length) (h : (l.take k).all p = true) : (l.take (k + 1)).all p = p l[k] := by
 rw [List.take_succ_eq_append_getElem hlt, List.all_append, h]; simp
theorem A7 {α : Type} {l : List α} (p : α → Bool) {k : Nat} (hlt : k < l.length) (h : p l[k] = false) : l.all p = false := by
 rw [List.all_eq_false]; exact ⟨l[k], List.getElem_mem hlt, by simp [h]⟩
end Go.Proofs.YtppjinmlfcokaaaGreat.Av
set_option linter.unusedVariables false
namespace Go.Proofs.YtppjinmlfcokaaaGreat
open Go.RowKit Go.Proofs.YtppjinmlfcokaaaGreat.Av Go.Proofs.YtppjinmlfcokaaaGreat.Ml
open Go.Proofs.YtppjinmlfcokaaaGreat.Av.AVal (av)

theorem BB (n : Int) : Ad (.int .i64 n) := Ad.int _ _
class Ge (α : Type) [Rep α] [AVal α] : Prop where
 vr : ∀ {S : Nat → Prop} {w : World} {cs : List Value} {y : α}, Rep.rep S w cs y → VRs S w mu0 cs (av y).cells
theorem AaO {α : Type} [Rep α] [AVal α] [Ge α] {S : Nat → Prop} {w : World} {cs : List Value} {y : α} (h : Rep.rep S w cs y) : (av y).cells.length = Rep.n α := by
 rw [← (Ge.vr h).1]; exact Rep.len h
instance : Ge Int := ⟨fun {S w cs y} h => by obtain ⟨rfl, h1, h2⟩ := h; exact VRs.cons (.int _ _ h1 h2) VRs.nil⟩
instance : Ge Bool := ⟨fun {S w cs y} h => by have h : cs = [.bool y] := h; subst h; exact VRs.cons (.bool _) VRs.nil⟩
instance : Ge ByteArray := ⟨fun {S w cs y} h => by obtain ⟨rfl, h1⟩ := h; exact VRs.cons (.str _ h1) VRs.nil⟩
theorem Fi {α : Type} [Rep α] [AVal α] [Ge α] {S : Nat → Prop} {w : World} {v : Value} {l : List α} (h : Gb S w v l) : VR S w mu0 v (.sl (l.map av)) := by
 obtain ⟨a, cap, rfl, h1, h2, h3⟩ := h
 by_cases hl : l = []
 ·subst hl; exact .sl0 a cap h2
 ·obtain ⟨b, o, rfl, hb, hr⟩ := h3.resolve_left hl
  -- the cells of the elements
  have hc : ∀ i j, ∃ v, ∀ e x, (l.map av)[i]? = some e → e.cells[j]? = some x → w.cell? ⟨b, o + i * Rep.n α + j, none⟩ = some v ∧ VR S w mu0 v x := by
   intro i j
   by_cases hi : i < l.length
   ·obtain ⟨cs, h4, h5⟩ := hr i l[i] (by simp [hi])
    have h6 := Ge.vr h5
    by_cases hj : j < cs.length
    ·refine ⟨cs[j], fun e x p q => ?_⟩
     simp only [List.getElem?_map, List.getElem?_eq_getElem hi, Option.map_some, Option.some.injEq] at p
     subst p
     exact ⟨h4 j _ (by simp [hj]), h6.2 j _ x (by simp [hj]) q⟩
    ·refine ⟨.nilFunc, fun e x p q => ?_⟩
     simp only [List.getElem?_map, List.getElem?_eq_getElem hi, Option.map_some, Option.some.injEq] at p
     subst p
     have := (List.getElem?_eq_some_iff.1 q).1
     rw [← h6.1] at this
     exact absurd this hj
   ·refine ⟨.nilFunc, fun e x p q => ?_⟩
    have := (List.getElem?_eq_some_iff.1 p).1
    simp at this; exact absurd this hi
  have := VR.sl (S := S) (w := w) (μ := mu0) b o cap (Rep.n α) (fun i j => (hc i j).choose) (l.map av) hb (by simpa using h1) h2 (fun e he => by
   obtain ⟨x, hx, rfl⟩ := List.mem_map.1 he
   obtain ⟨i, hi, rfl⟩ := List.mem_iff_getElem.1 hx
   obtain ⟨cs, h4, h5⟩ := hr i l[i] (by simp [hi])
   exact ⟨AaO h5, AVal.Agn _⟩) (fun i j hi hj => by
   have hi' : i < l.length := by simpa using hi
   obtain ⟨cs, h4, h5⟩ := hr i l[i] (by simp [hi'])
   have hlen := AaO h5
   exact ((hc i j).choose_spec (av l[i]) ((av l[i]).cells[j]'(by omega)) (by simp [hi']) (by simp)).1) (fun i j e x p q => ((hc i j).choose_spec e x p q).2)
  simpa using this
instance {α : Type} [Rep α] [AVal α] [Ge α] : Ge (List α) := ⟨fun {S w cs y} h => by obtain ⟨v, rfl, h⟩ := h; exact VRs.cons (Fi h) VRs.nil⟩

def AfY (r : AV) (hp' : Hp) : Prop := ∃ m : Int, r = .int .i64 m ∧ hp' = [] ∧ -1 ≤ m ∧ m ≤ 4294967296
def L1 (f : FuncId) (args : List AV) : Prop := Bu Tryz.prog f args [] AfY

theorem Abr {α : Type} [Rep α] [AVal α] [Ge α] {S : Nat → Prop} {w : World} {cs : List Value} {y : α} (h : Rep.rep S w cs y) {xs : List AV} (hx : av y = .agg xs) : VR S w mu0 (.agg cs.toArray) (av y) := by
 have h1 := Ge.vr h
 have h2 := AVal.Agn y
 rw [hx] at h1 h2 ⊢
 exact .agg _ _ (by simpa [AV.cells] using h1.1) h2 (fun i v x p q => h1.2 i v x (by simpa using p) q)

theorem AbJ {f : FuncId} {args : List AV} (h : Ah Tryz.prog f args (.bool true)) {w : World} {vs : List Value} (hv : VRs (fun b => b < w.heap.size) w mu0 vs args) :
  Calls Tryz.prog f vs.toArray w fun e w' => e = .returned (.bool true) ∧ Below w.heap.size w w' := by
 obtain ⟨_, _, h⟩ := h
 refine (h _ w vs (fun b hb => hb) hv).mono fun e w' ⟨v, he, hr, hb⟩ => ⟨?_, hb⟩
 cases hr; exact he
end Go.Proofs.YtppjinmlfcokaaaGreat
set_option linter.unusedVariables false
set_option maxRecDepth 100000
namespace Go.Proofs.YtppjinmlfcokaaaGreat
open Go.Proofs.YtppjinmlfcokaaaGreat.Av

theorem Js : Tryz.prog.follows .mixedOrders = true := by kernel_rfl

def HM : Ir Tryz.prog 77 [] [9999] 2 := ⟨_, _, Tryz.func77, Js, by kernel_rfl, Aj [] Tryz.progTables (by conv => lhs; cbv) (by kernel_rfl)⟩
def Kt : Ir Tryz.prog 90 [] [] 1 := ⟨_, _, Tryz.func90, Js, by kernel_rfl, Aj [] Tryz.progTables (by conv => lhs; cbv) (by kernel_rfl)⟩
def Ky : Ir Tryz.prog 123 [] [] 2 := ⟨_, _, Tryz.func123, Js, by kernel_rfl, Aj [] Tryz.progTables (by conv => lhs; cbv) (by kernel_rfl)⟩
end Go.Proofs.YtppjinmlfcokaaaGreat
set_option linter.unusedVariables false
set_option linter.unusedSimpArgs false
set_option maxRecDepth 100000
namespace Go.Proofs.YtppjinmlfcokaaaGreat
open Go.RowKit Go.Proofs.YtppjinmlfcokaaaGreat.Av Go.Proofs.YtppjinmlfcokaaaGreat.Ml
open Go.Proofs.YtppjinmlfcokaaaGreat.Av.AVal (av)

theorem Nl (l : List Int) (n : Int) (hx : Ac.bulk l ≤ 4294967296) (h1 : -1 ≤ n) (h2 : n ≤ 4294967296) : L1 77 [.sl (l.map av), .int .i64 n] := by
 have hl := Ai l
 refine HM.H rfl ?_
 simp +contextual -dsimp only [↓SD, SU, simprocAttr, HM, Ab]
 (repeat' (first | intro _ | refine And.intro ?_ ?_))
 all_goals first | omega | (refine Af.post [] ?_; simp +contextual -dsimp only [↓SD, SU, simprocAttr, HM]; exact ⟨_, rfl, rfl, by omega, by omega⟩)

theorem Ri (l : List Int) (hx : Ac.bulk l ≤ 4294967296) : Ah Tryz.prog 90 [.sl (l.map av)] (.sl (l.map av)) := by
 have hl := Ai l
 refine Kt.F rfl (by simp; exact Ak l) (Ak l) ?_
 simp +contextual -dsimp only [↓SD, SU, simprocAttr, Kt, Ab]
 refine ⟨by omega, fun v => ?_⟩
 refine Am (X := Nat) (fun k => ⟨[(0, .sl (l.map av)), (3, .row 7 v l.length), (4, .int .i64 k)], [(7, ⟨v, false, 3, 1, Gi l (AV.int .i64 0) k⟩)]⟩) (fun k => k ≤ l.length) (fun k => l.length - k) 0 (Nat.zero_le _) (by simp +contextual -dsimp only [↓SD, SU, simprocAttr]) (by simp +contextual -dsimp only [↓SD, SU, simprocAttr, FA]) ?_
 intro k hk
 by_cases hlt : k < l.length
 ·have e := getD_map av l k .top hlt
  have e1 := Dg (AV.int .i64 0) hk
  have e2 := Gw (AV.int .i64 0) hlt .top
  have e3 := Gv (z := (AV.int .i64 0)) hlt rfl
  have hbk : Ac.bulk l[k] ≤ 4294967296 := by have := Au (List.getElem_mem hlt); omega
  rw [AA] at e3
  simp +contextual -dsimp only [↓SD, SU, simprocAttr, Ab, hlt, e, AA, e1, e2, e3]
  refine ⟨by omega, Ad5 (k + 1) hlt (by first | omega | (simp only; omega)) (by simp +contextual -dsimp only [↓SD, SU, simprocAttr, Int.natCast_add]) (by simp +contextual -dsimp only [↓SD, SU, simprocAttr])⟩
 ·obtain rfl : k = l.length := by omega
  have e1 := Dg (AV.int .i64 0) hk
  simp +contextual -dsimp only [↓SD, SU, simprocAttr, Ab, Nat.lt_irrefl, FB, AB, List.take_length]
  try simp [List.take_of_length_le]

theorem Sq (l : List Int) (hx : Ac.bulk l ≤ 4294967296) : Ah Tryz.prog 123 [.sl (l.map av), .sl (l.map av)] (.bool true) := by
 have hl := Ai l
 refine Ky.F rfl (by simp; exact Ak l) (Ad.bool _) ?_
 simp +contextual -dsimp only [↓SD, SU, simprocAttr, Ky, Ab]
 refine Am (X := Nat) (fun k => ⟨[(0, .sl (l.map av)), (1, .sl (l.map av)), (5, .int .i64 k)], []⟩) (fun k => k ≤ l.length) (fun k => l.length - k) 0 (Nat.zero_le _) (by simp +contextual -dsimp only [↓SD, SU, simprocAttr]) trivial ?_
 intro k hk
 by_cases hlt : k < l.length
 ·have e := getD_map av l k .top hlt
  have hbk : Ac.bulk l[k] ≤ 4294967296 := by have := Au (List.getElem_mem hlt); omega
  simp +contextual -dsimp only [↓SD, SU, simprocAttr, Ab, hlt, e, AA]
  exact ⟨by omega, Ad5 (k + 1) hlt (by first | omega | (simp only; omega)) (by simp +contextual -dsimp only [↓SD, SU, simprocAttr, Int.natCast_add]) trivial⟩
 ·obtain rfl : k = l.length := by omega
  simp +contextual -dsimp only [↓SD, SU, simprocAttr, Ab, Nat.lt_irrefl]

end Go.Proofs.YtppjinmlfcokaaaGreat
set_option linter.unusedVariables false
set_option maxRecDepth 100000
namespace Go.Proofs.YtppjinmlfcokaaaGreat
open Go.Proofs.YtppjinmlfcokaaaGreat.Av

theorem Dq : Tryz.prog.follows .mixedOrders = true := by kernel_rfl

def Fs : Ir Tryz.prog 201 [(15, 7777)] [9999] 2 := ⟨_, _, Tryz.func201, Dq, by kernel_rfl, Aj [] Tryz.progTables (by conv => lhs; cbv) (by kernel_rfl)⟩
def JM : Ir Tryz.prog 203 [] [] 1 := ⟨_, _, Tryz.func203, Dq, by kernel_rfl, Aj [] Tryz.progTables (by conv => lhs; cbv) (by kernel_rfl)⟩
def JP : Ir Tryz.prog 207 [] [] 2 := ⟨_, _, Tryz.func207, Dq, by kernel_rfl, Aj [] Tryz.progTables (by conv => lhs; cbv) (by kernel_rfl)⟩
def D3 : Ir Tryz.prog 175 [(23, 7777)] [9999] 2 := ⟨_, _, Tryz.func175, Dq, by kernel_rfl, Aj [] Tryz.progTables (by conv => lhs; cbv) (by kernel_rfl)⟩
def IZ : Ir Tryz.prog 187 [] [] 1 := ⟨_, _, Tryz.func187, Dq, by kernel_rfl, Aj [] Tryz.progTables (by conv => lhs; cbv) (by kernel_rfl)⟩
def I1 : Ir Tryz.prog 199 [] [] 2 := ⟨_, _, Tryz.func199, Dq, by kernel_rfl, Aj [] Tryz.progTables (by conv => lhs; cbv) (by kernel_rfl)⟩
def GC : Ir Tryz.prog 141 [(8, 7777)] [9999] 2 := ⟨_, _, Tryz.func141, Dq, by kernel_rfl, Aj [] Tryz.progTables (by conv => lhs; cbv) (by kernel_rfl)⟩
def Lm : Ir Tryz.prog 151 [] [] 1 := ⟨_, _, Tryz.func151, Dq, by kernel_rfl, Aj [] Tryz.progTables (by conv => lhs; cbv) (by kernel_rfl)⟩
def Lo : Ir Tryz.prog 167 [] [] 2 := ⟨_, _, Tryz.func167, Dq, by kernel_rfl, Aj [] Tryz.progTables (by conv => lhs; cbv) (by kernel_rfl)⟩
end Go.Proofs.YtppjinmlfcokaaaGreat
