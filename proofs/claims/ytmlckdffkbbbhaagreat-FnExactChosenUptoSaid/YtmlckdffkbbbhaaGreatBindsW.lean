/-
 Binds OF THE PROGRAM AND OF THE REFERENCE, by abstract texts. Conditions: none.
-/
import Derived.Test.YtmlckdffkbbbhaaGreatPackP
import Derived.Test.YtmlckdffkbbbhaaGreatIrBinds
set_option linter.unusedVariables false
set_option linter.unusedSimpArgs false
set_option maxRecDepth 100000
namespace Go.Proofs.YtmlckdffkbbbhaaGreat
open Go.RowKit Go.Proofs.YtmlckdffkbbbhaaGreat.Av Go.Proofs.YtmlckdffkbbbhaaGreat.Ml
open Go.Proofs.YtmlckdffkbbbhaaGreat.Av.AVal (av)

def bindKs : List Int := [5, 7, 8, 15]
theorem bindKs_as : bindKs.map av = [.int .i64 5, .int .i64 7, .int .i64 8, .int .i64 15] := rfl
def bindB (k : Int) : Bool := bindKs.any fun y => decide (k = y)
theorem patNames_ok (l : List PNode) (hx : Bulk.bulk l ≤ 1048576) : CallsF Tryz.prog 145 [.agg [.sl (l.map av)]] (.sl ((varsOf l).map av)) := by
 have hl := bulk_length l
 refine fun_impl_patNames rfl (by simp; exact AvPure.agg (by simp; exact lav_clean l)) (lav_clean _) ?_
 simp +contextual -dsimp only [↓SD, SU, SB, simprocAttr, ir_impl_patNames, rs_impl_patNames, map_len]
 intro v
 refine aLoop_of (X := Nat × Nat) (fun x => ⟨[(3, .row 6 x.2 (varsOf (l.take x.1)).length), (8, .sl (l.map av)), (9, .int .i64 l.length), (10, .int .i64 x.1)], [(6, ⟨x.2, false, 9, 1, (varsOf (l.take x.1)).map av⟩)]⟩) (fun x => x.1 ≤ l.length) (fun x => l.length - x.1) (0, v) (Nat.zero_le _) (by simp +contextual -dsimp only [↓SD, SU, SB, simprocAttr, varsOf, List.filterMap_nil]) (by simp +contextual -dsimp only [↓SD, SU, SB, simprocAttr, varsOf, List.filterMap_nil]) ?_
 rintro ⟨k, u⟩ hk
 simp only at hk
 by_cases hlt : k < l.length
 ·have e := getD_map av l k .top hlt
  have hv := varsOf_snoc hlt
  have hvl := varsOf_len (l.take k)
  rw [List.length_take] at hvl
  generalize l[k] = a at *
  simp +contextual -dsimp only [↓SD, SU, SB, simprocAttr, map_len, hlt, e, av_PNode]
  intro w
  (repeat' (first | intro _ | refine And.intro ?_ ?_))
  all_goals first | omega | (unfold maxLen; omega) | skip
  ·rename_i hk2 u'
   rw [if_pos hk2] at hv
   exact Goes.le ⟨(k + 1, u'), ⟨hlt, (by first | omega | (simp only; omega))⟩, rfl⟩ (by simp +contextual -dsimp only [↓SD, SU, SB, simprocAttr, Int.natCast_add, hv, List.length_append]) (by simp +contextual -dsimp only [↓SD, SU, SB, simprocAttr, hv, map_nop, take_map, List.map_append, av_str])
  ·rename_i hk2
   rw [if_neg hk2, List.append_nil] at hv
   exact Goes.le ⟨(k + 1, u), ⟨hlt, (by first | omega | (simp only; omega))⟩, rfl⟩ (by simp +contextual -dsimp only [↓SD, SU, SB, simprocAttr, Int.natCast_add, hv]) (by simp +contextual -dsimp only [↓SD, SU, SB, simprocAttr, hv])
 ·obtain rfl : k = l.length := by omega
  simp +contextual -dsimp only [↓SD, SU, SB, simprocAttr, map_len, Nat.lt_irrefl, List.take_length, map_nop, take_map]

def patsN (l : List Pat) : Nat := (l.map fun q => (varsOf q.nodes).length).sum
def nodeN (n : Node) : Nat := (if bindB n.kind then 1 else 0) + patsN n.pats
def nodesN (l : List Node) : Nat := (l.map nodeN).sum
def bindsI (p : Program) : Int := if progB p then (nodesN p.nodes : Int) else -1
theorem sum_le_bulk {α : Type} [Bulk α] (f : α → Nat) (hf : ∀ x, f x ≤ Bulk.bulk x) (l : List α) (k : Nat) : ((l.take k).map f).sum ≤ Bulk.bulk l := by
 have h1 : ∀ m : List α, (m.map f).sum ≤ (m.map Bulk.bulk).sum := by
  intro m
  induction m with
  | nil => simp
  | cons x m ih => simp only [List.map_cons, List.sum_cons]; have := hf x; omega
 have h2 : ∀ (m : List α) (k : Nat), ((m.take k).map (Bulk.bulk (α := α))).sum ≤ (m.map Bulk.bulk).sum := by
  intro m
  induction m with
  | nil => intro k; simp
  | cons x m ih => intro k; cases k with
   | zero => simp
   | succ k => simp only [List.take_succ_cons, List.map_cons, List.sum_cons]; have := ih k; omega
 have := h1 (l.take k)
 have := h2 l k
 have h3 : Bulk.bulk l = (l.map Bulk.bulk).sum + 1 := rfl
 omega
theorem varsOf_bulk (q : Pat) : (varsOf q.nodes).length ≤ Bulk.bulk q := by
 have h1 := varsOf_len q.nodes
 have h2 := bulk_length q.nodes
 have h3 : Bulk.bulk q = Bulk.bulk q.nodes + 1 := rfl
 omega
theorem patsN_bulk (l : List Pat) (k : Nat) : patsN (l.take k) ≤ Bulk.bulk l := sum_le_bulk _ varsOf_bulk l k
theorem nodeN_bulk (n : Node) : nodeN n ≤ Bulk.bulk n := by
 have h1 := patsN_bulk n.pats n.pats.length
 rw [List.take_length] at h1
 have h2 : Bulk.bulk n = Bulk.bulk n.kind + Bulk.bulk n.pos + Bulk.bulk n.n + Bulk.bulk n.s + Bulk.bulk n.kids + Bulk.bulk n.pats + 1 := rfl
 unfold nodeN
 split <;> omega

end Go.Proofs.YtmlckdffkbbbhaaGreat
