/-
 PLAIN DATA AS ABSTRACT VALUES. Conditions: none.
-/
import Derived.Test.YtjnljjbmmmpdiaaDoorAvSimp
set_option linter.unusedVariables false
namespace Go.Proofs.YtjnljjbmmmpdiaaDoor.Av
open Go.RowKit

class AVal (α : Type) where
 av : α → AV
 n : Nat
 ok : ∀ x, (av x).ok = true
 len : ∀ x, (av x).cells.length = n
 pure : ∀ x, ∀ y ∈ (av x).cells, AvPure y
 nop : ∀ x hp, (av x).pur hp = av x
 cone : ∀ x, ∀ y ∈ (av x).cells, y.one = true
open AVal (av)
theorem AVal.clean {α : Type} [AVal α] (x : α) : AvPure (av x) := by
 have h := AVal.pure x
 have hk := AVal.ok x
 cases hx : (av x) with
 | agg cs => rw [hx] at h; exact AvPure.agg h
 | _ => rw [hx] at h hk; first | exact h _ (by simp [AV.cells]) | (simp [AV.ok, AV.one, AV.isAgg] at hk)
instance : AVal Int := ⟨fun x => .int .i64 x, 1, fun _ => rfl, fun _ => rfl, fun x y hy => by simp [AV.cells] at hy; subst hy; exact AvPure.int _ _, fun _ _ => rfl, fun x y hy => by simp [AV.cells] at hy; subst hy; rfl⟩
instance : AVal Bool := ⟨fun x => .bool x, 1, fun _ => rfl, fun _ => rfl, fun x y hy => by simp [AV.cells] at hy; subst hy; exact AvPure.bool _, fun _ _ => rfl, fun x y hy => by simp [AV.cells] at hy; subst hy; rfl⟩
instance : AVal ByteArray := ⟨fun x => .str x, 1, fun _ => rfl, fun _ => rfl, fun x y hy => by simp [AV.cells] at hy; subst hy; exact AvPure.str _, fun _ _ => rfl, fun x y hy => by simp [AV.cells] at hy; subst hy; rfl⟩
instance : AVal UInt8 := ⟨fun x => .int .u8 x.toNat, 1, fun _ => rfl, fun _ => rfl, fun x y hy => by simp [AV.cells] at hy; subst hy; exact AvPure.int _ _, fun _ _ => rfl, fun x y hy => by simp [AV.cells] at hy; subst hy; rfl⟩
def lav {α : Type} [AVal α] (l : List α) : AV := .sl (l.map av)
theorem lav_clean {α : Type} [AVal α] (l : List α) : AvPure (lav l) := AvPure.sl fun e he y hy => by
 obtain ⟨x, _, rfl⟩ := List.mem_map.1 he
 exact AVal.pure x y hy
instance {α : Type} [AVal α] : AVal (List α) := ⟨lav, 1, fun _ => rfl, fun _ => rfl, fun x y hy => by simp [AV.cells, lav] at hy; subst hy; exact lav_clean x, fun _ _ => rfl, fun x y hy => by simp [AV.cells, lav] at hy; subst hy; rfl⟩
theorem av_int (x : Int) : av x = .int .i64 x := eqq rfl
theorem av_bool (x : Bool) : av x = .bool x := eqq rfl
theorem av_str (x : ByteArray) : av x = .str x := eqq rfl
theorem av_u8 (x : UInt8) : av x = .int .u8 x.toNat := eqq rfl
theorem av_list {α : Type} [AVal α] (x : List α) : av x = .sl (x.map av) := eqq rfl
theorem map_nop {α : Type} [AVal α] (l : List α) (hp : Hp) : (l.map av).map (AV.pur hp) = l.map av := by
 rw [List.map_map]; apply List.map_congr_left; intro x _; exact AVal.nop x hp
def fillL {α : Type} [AVal α] (l : List α) (z : AV) (k : Nat) : List AV := (l.take k).map av ++ List.replicate (l.length - k) z
theorem fillL_zero {α : Type} [AVal α] (l : List α) (z : AV) : fillL l z 0 = List.replicate l.length z := by simp [fillL]
theorem fillL_full {α : Type} [AVal α] (l : List α) (z : AV) : fillL l z l.length = l.map av := by simp [fillL]
theorem fillL_len {α : Type} [AVal α] {l : List α} (z : AV) {k : Nat} (h : k ≤ l.length) : (fillL l z k).length = l.length := by simp [fillL]; omega
theorem fillL_get {α : Type} [AVal α] {l : List α} (z : AV) {k : Nat} (h : k < l.length) (d : AV) : (fillL l z k).getD k d = z := by
 have hk : ((l.take k).map av).length = k := by simp; omega
 simp only [fillL, List.getD_eq_getElem?_getD]
 rw [List.getElem?_append_right (by omega), hk, Nat.sub_self, List.getElem?_replicate, if_pos (by omega)]
 rfl
theorem setc_full {z x : AV} (hz : z.ok = true) (hx : x.ok = true) (ha : z.isAgg = x.isAgg) (hl : z.cells.length = x.cells.length) : z.setc 0 x.cells = x := by
 cases z <;> cases x <;> simp_all [AV.isAgg, AV.setc, AV.cells, lay, AV.ok, AV.one]
theorem fillL_set {α : Type} [AVal α] {l : List α} {z : AV} {k : Nat} (h : k < l.length) {y : AV} (hy : y = av l[k]) : (fillL l z k).set k y = fillL l z (k + 1) := by
 have hk : ((l.take k).map av).length = k := by simp; omega
 subst hy
 simp only [fillL]
 rw [List.set_append_right _ _ (by omega), hk, Nat.sub_self, show l.length - k = (l.length - (k + 1)) + 1 by omega, List.replicate_succ, List.set_cons_zero, List.take_succ_eq_append_getElem h, List.map_append]
 simp
theorem getD_map {α β : Type} (f : α → β) (l : List α) (i : Nat) (d : β) (h : i < l.length) : (l.map f).getD i d = f l[i] := by
 simp [List.getD_eq_getElem?_getD, h]
theorem map_len {α β : Type} (f : α → β) (l : List α) : (l.map f).length = l.length := List.length_map _
theorem all_take' {α : Type} {l : List α} (p : α → Bool) {k : Nat} (hlt : k < l.length) (h : (l.take k).all p = true) : (l.take (k + 1)).all p = p l[k] := by
 rw [List.take_succ_eq_append_getElem hlt, List.all_append, h]; simp
theorem all_false' {α : Type} {l : List α} (p : α → Bool) {k : Nat} (hlt : k < l.length) (h : p l[k] = false) : l.all p = false := by
 rw [List.all_eq_false]; exact ⟨l[k], List.getElem_mem hlt, by simp [h]⟩
end Go.Proofs.YtjnljjbmmmpdiaaDoor.Av
