/-
 THE GROUND OF DATA, in one text. Conditions: none.
-/
import Derived.Test.YtmlckdffkbbbhaaGreatPackT
import Derived.Test.YtmlckdffkbbbhaaGreatIrOcc
import Derived.Test.YtmlckdffkbbbhaaGreatPackR
import Derived.Test.YtmlckdffkbbbhaaGreatPackP

set_option linter.unusedVariables false
set_option linter.unusedSimpArgs false
set_option maxRecDepth 100000
namespace Go.Proofs.YtmlckdffkbbbhaaGreat
open Go.RowKit Go.Proofs.YtmlckdffkbbbhaaGreat.Av Go.Proofs.YtmlckdffkbbbhaaGreat.Ml
open Go.Proofs.YtmlckdffkbbbhaaGreat.Av.AVal (av)

def hasName (q : Pat) (s : ByteArray) : Bool := (varsOf q.nodes).any fun x => decide (s = x)
def boundB (n : Node) (i : Nat) (s : ByteArray) : Bool :=
 if n.kind = 5 ∨ n.kind = 8 then decide (n.s = s)
 else if n.kind = 7 ∨ n.kind = 15 then decide ((i : Int) = 1) && decide (n.s = s)
 else if n.kind = 13 then decide (0 < (i : Int)) && hasName (n.pats.getD (i - 1) default) s
 else false
mutual
def cntT (s : ByteArray) : Tr → Nat
 | .mk n ks => if n.kind = 3 then (if n.s = s then 1 else 0) else cntTs s n 0 ks
def cntTs (s : ByteArray) (n : Node) : Nat → List Tr → Nat
 | _, [] => 0
 | i, t :: ts => (if boundB n i s then 0 else cntT s t) + cntTs s n (i + 1) ts
end
theorem l09Binds_ok (q : Pat) (s : ByteArray) (hx : Bulk.bulk q ≤ 1048576) : CallsF Tryz.prog 131 [av q, .str s] (.bool (hasName q s)) := by
 obtain ⟨l⟩ := q
 have hl := bulk_length l
 have hb : Bulk.bulk l + 1 ≤ 1048576 := hx
 refine fun_spec_l09Binds rfl (by simp; exact ⟨AVal.clean _, AvPure.str _⟩) (AvPure.bool _) ?_
 simp +contextual -dsimp only [↓SD, SU, SB, simprocAttr, ir_spec_l09Binds, rs_spec_l09Binds, av_Pat, map_len]
 refine aLoop_of (X := Nat) (fun k => ⟨[(1, .str s), (8, .sl (l.map av)), (9, .int .i64 l.length), (10, .int .i64 k)], []⟩) (fun k => k ≤ l.length ∧ ((varsOf (l.take k)).any fun x => decide (s = x)) = false) (fun k => l.length - k) 0 ⟨Nat.zero_le _, rfl⟩ (by simp +contextual -dsimp only [↓SD, SU, SB, simprocAttr]) trivial ?_
 rintro k ⟨hk, hp⟩
 by_cases hlt : k < l.length
 ·have e := getD_map av l k .top hlt
  have hv := varsOf_snoc hlt
  have hm := List.getElem_mem hlt
  have hin : l[k].kind = 2 → s = l[k].s → hasName ⟨l⟩ s = true := fun h1 h2 => by
   simp only [hasName, List.any_eq_true, decide_eq_true_eq]
   exact ⟨l[k].s, by simp only [varsOf, List.mem_filterMap]; exact ⟨l[k], hm, by rw [if_pos h1]⟩, h2⟩
  generalize l[k] = a at *
  simp +contextual -dsimp only [↓SD, SU, SB, simprocAttr, map_len, hlt, e, av_PNode]
  (repeat' (first | intro _ | refine And.intro ?_ ?_))
  all_goals first | omega | skip
  ·rename_i h1 h2
   rw [hin h1 h2.symm]
  ·rename_i h1 h2
   exact Goes.le ⟨k + 1, ⟨⟨hlt, by rw [hv, if_pos h1, List.any_append, hp]; simp [Ne.symm h2]⟩, (by first | omega | (simp only; omega))⟩, rfl⟩ (by simp +contextual -dsimp only [↓SD, SU, SB, simprocAttr, Int.natCast_add]) trivial
  ·rename_i h1
   exact Goes.le ⟨k + 1, ⟨⟨hlt, by rw [hv, if_neg h1, List.append_nil, hp]⟩, (by first | omega | (simp only; omega))⟩, rfl⟩ (by simp +contextual -dsimp only [↓SD, SU, SB, simprocAttr, Int.natCast_add]) trivial
 ·obtain rfl : k = l.length := by omega
  rw [List.take_length] at hp
  simp +contextual -dsimp only [↓SD, SU, SB, simprocAttr, map_len, Nat.lt_irrefl]
  simp only [hasName, hp]

theorem binds_ok (n : Node) (ks : List Tr) (i : Nat) (s : ByteArray) (hn : Bulk.bulk n ≤ 1048576) (hi : i ≤ 1048576) (h13 : n.kind = 13 → i ≤ n.pats.length) : CallsF Tryz.prog 110 [av (Tr.mk n ks), .int .i64 i, .str s] (.bool (boundB n i s)) := by
 refine fun_impl_ex_binds rfl (by simp; exact ⟨AVal.clean _, pint _, AvPure.str _⟩) (AvPure.bool _) ?_
 by_cases h : n.kind = 13 ∧ 0 < i
 ·obtain ⟨h1, h2⟩ := h
  obtain ⟨j, rfl⟩ : ∃ j, i = j + 1 := ⟨i - 1, by omega⟩
  have hlt : j < n.pats.length := by have := h13 h1; omega
  have hj : ((j + 1 : Nat) : Int) - 1 = j := by omega
  have hj0 : (0 : Int) < ((j + 1 : Nat) : Int) := by omega
  have e := getD_map av n.pats j .top hlt
  have hb : Bulk.bulk n = Bulk.bulk n.kind + Bulk.bulk n.pos + Bulk.bulk n.n + Bulk.bulk n.s + Bulk.bulk n.kids + Bulk.bulk n.pats + 1 := rfl
  have hm := bulk_mem (List.getElem_mem hlt)
  have hd : n.pats.getD j default = n.pats[j] := by simp [List.getD_eq_getElem?_getD, hlt]
  have hv : boundB n (j + 1) s = hasName n.pats[j] s := by simp [boundB, h1, hlt]
  have hq : Bulk.bulk n.pats[j] = Bulk.bulk n.pats[j].nodes + 1 := rfl
  have hl := varsOf_bulk n.pats[j]
  have C1 := patNames_ok n.pats[j].nodes (by omega)
  have C2 := ContainsStr_ok (varsOf n.pats[j].nodes) s (by omega)
  rw [hv]
  clear hv
  generalize n.pats[j] = q at *
  simp +contextual -dsimp only [↓SD, SU, SB, simprocAttr, ir_impl_ex_binds, rs_impl_ex_binds, av_Tr, map_len, h1, hj, hj0, hlt, e, av_Pat]
  (repeat' (first | intro _ | refine And.intro ?_ ?_))
  all_goals first | omega | skip
  refine aCallK_of _ C1 ?_
  simp +contextual -dsimp only [↓SD, SU, SB, simprocAttr]
  refine aCallK_of _ C2 ?_
  simp +contextual -dsimp only [↓SD, SU, SB, simprocAttr, hasName]
 ·simp +contextual -dsimp only [↓SD, SU, SB, simprocAttr, ir_impl_ex_binds, rs_impl_ex_binds, av_Tr, map_len]
  (repeat' (first | intro _ | refine And.intro ?_ ?_))
  all_goals first | omega | (exact absurd ⟨‹_›, by omega⟩ h) | (simp [boundB, *]; done) | (simp [boundB, *]; omega) | trace_state
theorem l16Bound_ok (n : Node) (i : Nat) (s : ByteArray) (hn : Bulk.bulk n ≤ 1048576) (hi : i ≤ 1048576) (h13 : n.kind = 13 → i ≤ n.pats.length) : CallsF Tryz.prog 89 [av n, .int .i64 i, .str s] (.bool (boundB n i s)) := by
 refine fun_spec_l16Bound rfl (by simp; exact ⟨AVal.clean _, pint _, AvPure.str _⟩) (AvPure.bool _) ?_
 by_cases h : n.kind = 13 ∧ 0 < i
 ·obtain ⟨h1, h2⟩ := h
  obtain ⟨j, rfl⟩ : ∃ j, i = j + 1 := ⟨i - 1, by omega⟩
  have hlt : j < n.pats.length := by have := h13 h1; omega
  have hj : ((j + 1 : Nat) : Int) - 1 = j := by omega
  have hj0 : (0 : Int) < ((j + 1 : Nat) : Int) := by omega
  have e := getD_map av n.pats j .top hlt
  have hb : Bulk.bulk n = Bulk.bulk n.kind + Bulk.bulk n.pos + Bulk.bulk n.n + Bulk.bulk n.s + Bulk.bulk n.kids + Bulk.bulk n.pats + 1 := rfl
  have hm := bulk_mem (List.getElem_mem hlt)
  have hv : boundB n (j + 1) s = hasName n.pats[j] s := by simp [boundB, h1, hlt]
  have C1 := l09Binds_ok n.pats[j] s (by omega)
  rw [hv]
  clear hv
  generalize n.pats[j] = q at *
  rw [av_Pat] at C1
  simp +contextual -dsimp only [↓SD, SU, SB, simprocAttr, ir_spec_l16Bound, rs_spec_l16Bound, av_Node, map_len, h1, hj, hj0, hlt, e, av_Pat]
  (repeat' (first | intro _ | refine And.intro ?_ ?_))
  all_goals first | omega | skip
  refine aCallK_of _ C1 ?_
  simp +contextual -dsimp only [↓SD, SU, SB, simprocAttr]
 ·simp +contextual -dsimp only [↓SD, SU, SB, simprocAttr, ir_spec_l16Bound, rs_spec_l16Bound, av_Node, map_len]
  (repeat' (first | intro _ | refine And.intro ?_ ?_))
  all_goals first | omega | (exact absurd ⟨‹_›, by omega⟩ h) | (simp [boundB, *]; done) | (simp [boundB, *]; omega) | trace_state

end Go.Proofs.YtmlckdffkbbbhaaGreat

namespace Go.Proofs.YtmlckdffkbbbhaaGreat
open Go.RowKit Go.Proofs.YtmlckdffkbbbhaaGreat.Av Go.Proofs.YtmlckdffkbbbhaaGreat.Ml
open Go.Proofs.YtmlckdffkbbbhaaGreat.Av.AVal (av)

def plainB (n : Node) (m : Nat) : Bool := decide (n.kind = 1) || decide (n.kind = 2) || decide (n.kind = 12) || (decide (n.kind = 4) && decide ((m : Int) = 0))
theorem isPlain_ok (n : Node) (ks : List Tr) (hl : ks.length ≤ 1048576) : CallsF Tryz.prog 62 [av (Tr.mk n ks)] (.bool (plainB n ks.length)) := by
 refine fun_impl_isPlain rfl (by simp; exact AVal.clean _) (AvPure.bool _) ?_
 simp +contextual -dsimp only [↓SD, SU, SB, simprocAttr, ir_impl_isPlain, rs_impl_isPlain, av_Tr, map_len]
 (repeat' (first | intro _ | refine And.intro ?_ ?_))
 all_goals first | omega | (simp [plainB, *]; done) | (simp [plainB, *]; omega) | trace_state
theorem l16Atom_ok (n : Node) (hl : n.kids.length ≤ 1048576) : CallsF Tryz.prog 48 [av n] (.bool (plainB n n.kids.length)) := by
 refine fun_spec_l16Atom rfl (by simp; exact AVal.clean _) (AvPure.bool _) ?_
 simp +contextual -dsimp only [↓SD, SU, SB, simprocAttr, ir_spec_l16Atom, rs_spec_l16Atom, av_Node, map_len]
 (repeat' (first | intro _ | refine And.intro ?_ ?_))
 all_goals first | omega | (simp [plainB, *]; done) | (simp [plainB, *]; omega) | trace_state
end Go.Proofs.YtmlckdffkbbbhaaGreat

namespace Go.Proofs.YtmlckdffkbbbhaaGreat
open Go.RowKit Go.Proofs.YtmlckdffkbbbhaaGreat.Av Go.Proofs.YtmlckdffkbbbhaaGreat.Ml
open Go.Proofs.YtmlckdffkbbbhaaGreat.Av.AVal (av)

theorem node_T {nm : Node → Bool} {l : List Node} {n : Node} (h : nodeB nm l n = true) (hb : Bulk.bulk n ≤ 1048576) : nodeT n n.kids.length := by
 unfold nodeB at h
 split at h
 ·cases h
 rename_i h0
 refine ⟨fun hk => ?_, fun hk => ?_, hb⟩
 ·have ha : arityK n.kind = 0 := by rw [hk]; rfl
  rw [ha] at h0
  omega
 ·simp [hk] at h
  omega
theorem prog_facts {p : Program} (hx : Bulk.bulk p ≤ 1048576) (hb : progB p = true) : 1 ≤ p.nodes.length ∧ p.nodes.length ≤ 600 ∧ treeB (nkids p.nodes) p.nodes.length = true ∧ (∀ n ∈ p.nodes, nodeT n n.kids.length) ∧ (∀ n ∈ p.nodes, ∀ q ∈ n.pats, q.nodes ≠ []) := by
 obtain ⟨q1, q2, q3, q4⟩ := prog_small hx
 simp only [progB, shapeP, Bool.and_eq_true, decide_eq_true_eq, List.all_eq_true] at hb
 obtain ⟨⟨⟨⟨⟨h1, h2⟩, h3⟩, h4⟩, h5⟩, h6⟩ := hb
 refine ⟨by omega, by omega, h3, fun n hn => node_T (h4 n hn) ?_, fun n hn q hq => ?_⟩
 ·have := bulk_mem hn; omega
 ·have := h6 n hn q hq
  intro h
  rw [h] at this
  simp [patB] at this

end Go.Proofs.YtmlckdffkbbbhaaGreat

namespace Go.Proofs.YtmlckdffkbbbhaaGreat
open Go.RowKit Go.Proofs.YtmlckdffkbbbhaaGreat.Av Go.Proofs.YtmlckdffkbbbhaaGreat.Ml
open Go.Proofs.YtmlckdffkbbbhaaGreat.Av.AVal (av)

theorem word_pos {s : ByteArray} (h : wordB 1 s = true) : 1 ≤ s.size := by
 simp only [wordB, Bool.and_eq_true, decide_eq_true_eq] at h
 omega
theorem name_pos {s : ByteArray} (h : nameB s = true) : 1 ≤ s.size := by
 simp only [nameB, Bool.and_eq_true] at h
 exact word_pos h.1
theorem node_C {l : List Node} {n : Node} (h : nodeB nameN l n = true) (hp : ∀ q ∈ n.pats, patB q.nodes = true) : nodeC n := by
 refine ⟨fun h3 => ?_, fun q hq h0 => ?_, fun hb => ?_, fun q hq x hx hk => ?_⟩
 ·unfold nodeB at h
  split at h
  ·cases h
  ·rename_i h0
   cases hp2 : n.pats with
   | nil => rfl
   | cons a r => exact absurd (.inr (.inr (.inl ⟨by omega, by rw [hp2]; exact fun e => by cases e⟩))) h0
 ·have := hp q hq
  rw [h0] at this
  simp [patB] at this
 ·unfold nodeB at h
  split at h
  ·cases h
  unfold bindsK at hb
  simp only [Bool.or_eq_true, decide_eq_true_eq] at hb
  have hname : nameN n = true := by
   rcases hb with ((hb | hb) | hb) | hb
   ·simpa [hb] using h
   ·simpa [hb] using h
   ·simp [hb] at h; exact h.1
   ·simpa [hb] using h
  simp only [nameN, Bool.and_eq_true] at hname
  exact name_pos hname.1
 ·have h1 := hp q hq
  obtain ⟨i, hi, rfl⟩ := List.getElem_of_mem hx
  simp only [patB, Bool.and_eq_true] at h1
  have h2 := allI_iff.1 h1.2 i hi
  have hg : q.nodes.getD i default = q.nodes[i] := by simp [List.getD_eq_getElem?_getD, hi]
  simp only [patIB, hg, Bool.and_eq_true] at h2
  have h3 := h2.1
  have h4 : ¬ (q.nodes[i].kind = 1 ∨ q.nodes[i].kind = 6) := by omega
  rw [pnodeB, if_neg h4, if_pos hk] at h3
  simp only [Bool.and_eq_true] at h3
  exact name_pos h3.2
theorem prog_C {p : Program} (hb : progB p = true) : ∀ n ∈ p.nodes, nodeC n := fun n hn => by
 simp only [progB, shapeP, Bool.and_eq_true, decide_eq_true_eq, List.all_eq_true] at hb
 obtain ⟨⟨⟨⟨⟨h1, h2⟩, h3⟩, h4⟩, h5⟩, h6⟩ := hb
 exact node_C (h4 n hn) (h6 n hn)
theorem tree_facts {p : Program} (hx : Bulk.bulk p ≤ 1048576) (hb : progB p = true) : (treeAt p.nodes 0).ok ∧ (treeAt p.nodes 0).all nodeC ∧ (treeAt p.nodes 0).pne ∧ (treeAt p.nodes 0).size ≤ 600 ∧ (treeAt p.nodes 0).bulk + 1 = Bulk.bulk p.nodes ∧ (treeAt p.nodes 0).wt ≤ 900000 := by
 obtain ⟨f1, f2, f3, f4, f5⟩ := prog_facts hx hb
 have hk : ∀ i, i < p.nodes.length → ∀ k ∈ nkids p.nodes i, (i : Int) < k ∧ k < p.nodes.length := fun i hi k hk => tree_in f3 hi hk
 have h1 := treeAt_ok hk f4 p.nodes.length 0 (by omega) (by omega)
 have h2 := treeAt_all hk (prog_C hb) p.nodes.length 0 (by omega) (by omega)
 have h3 := treeAt_size f3 (i := 0) (by omega)
 have h4 := layT_bulk (treeAt p.nodes 0) 0
 rw [lay_grow f3] at h4
 have h5 := wt_bulk (treeAt p.nodes 0)
 have h6 := (prog_small hx).2.1
 exact ⟨h1, h2, pne_of _ h2, by omega, by omega, by omega⟩
end Go.Proofs.YtmlckdffkbbbhaaGreat

namespace Go.Proofs.YtmlckdffkbbbhaaGreat
open Go.RowKit Go.Proofs.YtmlckdffkbbbhaaGreat.Av Go.Proofs.YtmlckdffkbbbhaaGreat.Ml
open Go.Proofs.YtmlckdffkbbbhaaGreat.Av.AVal (av)

def Tr.hd : Tr → Node
 | .mk n _ => n
def Tr.ks : Tr → List Tr
 | .mk _ ks => ks
def plainT : Tr → Bool
 | .mk n ks => plainB n ks.length
mutual
def replT (s : ByteArray) (a : Node) : Tr → Tr
 | .mk n ks => if n.kind = 3 then (if n.s = s then .mk { a with pos := n.pos } [] else .mk n ks) else .mk n (replTs s a n 0 ks)
def replTs (s : ByteArray) (a : Node) (n : Node) : Nat → List Tr → List Tr
 | _, [] => []
 | i, t :: ts => (if boundB n i s = true then t else replT s a t) :: replTs s a n (i + 1) ts
end
mutual
def rewT (R : Tr → Tr) : Tr → Tr
 | .mk n ks => R (.mk n (rewTs R ks))
def rewTs (R : Tr → Tr) : List Tr → List Tr
 | [] => []
 | t :: ts => rewT R t :: rewTs R ts
end
theorem rewTs_map (R : Tr → Tr) : ∀ ks, rewTs R ks = ks.map (rewT R)
 | [] => by rw [rewTs]; rfl
 | t :: ts => by rw [rewTs, rewTs_map R ts]; rfl
theorem rewT_mk (R : Tr → Tr) (n : Node) (ks : List Tr) : rewT R (.mk n ks) = R (.mk n (ks.map (rewT R))) := by rw [rewT, rewTs_map]
def spreadR : Tr → Tr
 | .mk n ks => if n.kind = 7 ∧ plainT (ks.getD 0 (.mk default [])) = true then replT n.s (ks.getD 0 (.mk default [])).hd (ks.getD 1 (.mk default [])) else .mk n ks
def hitsB (q : Pat) (a : Node) : Bool :=
 let x := q.nodes.getD 0 default
 if x.kind = 1 ∨ x.kind = 2 then true
 else if x.kind = 3 then decide (a.kind = 1) && decide (a.n = x.n)
 else if x.kind = 6 then decide (a.kind = 12)
 else if x.kind = 4 then decide (a.kind = 4) && decide (a.s = x.s) && decide (x.kids.length = 0)
 else false
def firstF (a : Node) : List Pat → Option Nat
 | [] => none
 | q :: l => if hitsB q a = true then some 0 else (firstF a l).map (· + 1)
def chosenR : Tr → Tr
 | .mk n ks =>
  if n.kind = 13 ∧ plainT (ks.getD 0 (.mk default [])) = true ∧ ¬ (ks.getD 0 (.mk default [])).hd.kind = 2 then
   match firstF (ks.getD 0 (.mk default [])).hd n.pats with
   | none => .mk n ks
   | some i =>
    let x := (n.pats.getD i default).nodes.getD 0 default
    if x.kind = 2 then .mk ⟨7, n.pos, 0, x.s, [], []⟩ [ks.getD 0 (.mk default []), ks.getD (i + 1) (.mk default [])]
    else ks.getD (i + 1) (.mk default [])
  else .mk n ks
end Go.Proofs.YtmlckdffkbbbhaaGreat

namespace Go.Proofs.YtmlckdffkbbbhaaGreat
open Go.RowKit Go.Proofs.YtmlckdffkbbbhaaGreat.Av Go.Proofs.YtmlckdffkbbbhaaGreat.Ml
open Go.Proofs.YtmlckdffkbbbhaaGreat.Av.AVal (av)

def nodeK (n : Node) (m : Nat) : Prop := (n.kind = 1 ∨ n.kind = 2 ∨ n.kind = 3 ∨ n.kind = 12 → m = 0) ∧ (n.kind = 7 → m = 2) ∧ (n.kind = 13 → m = n.pats.length + 1) ∧ (¬ n.kind = 13 → n.pats = []) ∧ (∀ q ∈ n.pats, q.nodes ≠ []) ∧ nodeW n m ≤ 1048576 ∧ Bulk.bulk n ≤ 1048576
mutual
def Tr.rk : Tr → Prop
 | .mk n ks => nodeK n ks.length ∧ Tr.rks ks
def Tr.rks : List Tr → Prop
 | [] => True
 | t :: ts => t.rk ∧ Tr.rks ts
end
theorem rks_iff : ∀ {ks : List Tr}, Tr.rks ks ↔ ∀ k ∈ ks, k.rk
 | [] => by rw [Tr.rks]; simp
 | t :: ts => by rw [Tr.rks, rks_iff (ks := ts)]; simp
theorem rk_ok : ∀ t : Tr, t.rk → t.ok := Tr.ind fun n ks ih h => by
 rw [Tr.rk] at h
 rw [Tr.ok]
 obtain ⟨⟨h1, h2, h3, h4, h5, h6, h7⟩, hs⟩ := h
 exact ⟨⟨fun e => h1 (.inr (.inr (.inl e))), h3, h7⟩, oks_of fun k hk => ih k hk (rks_iff.1 hs k hk)⟩
theorem node_K {l : List Node} {n : Node} (h : nodeB nameN l n = true) (hp : ∀ q ∈ n.pats, patB q.nodes = true) (hb : Bulk.bulk n ≤ 1048576) : nodeK n n.kids.length := by
 have hb2 := bulk_node n
 have h5 : ∀ q ∈ n.pats, q.nodes ≠ [] := fun q hq h0 => by
  have := hp q hq
  rw [h0] at this
  simp [patB] at this
 have ht := node_T h hb
 unfold nodeB at h
 split at h
 ·cases h
 rename_i h0
 refine ⟨fun hk => ?_, fun hk => ?_, ht.2.1, fun hk => ?_, h5, by omega, hb⟩
 ·have ha : arityK n.kind = 0 := by rcases hk with hk | hk | hk | hk <;> rw [hk] <;> rfl
  rw [ha] at h0; omega
 ·have ha : arityK n.kind = 2 := by rw [hk]; rfl
  rw [ha] at h0; omega
 ·cases hp2 : n.pats with
  | nil => rfl
  | cons a r => exact absurd (.inr (.inr (.inl ⟨hk, by rw [hp2]; exact fun e => by cases e⟩))) h0
theorem tree_K {p : Program} (hx : Bulk.bulk p ≤ 1048576) (hb : progB p = true) : (treeAt p.nodes 0).rk := by
 obtain ⟨f1, f2, f3, f4, f5⟩ := prog_facts hx hb
 have hk : ∀ i, i < p.nodes.length → ∀ k ∈ nkids p.nodes i, (i : Int) < k ∧ k < p.nodes.length := fun i hi k hk => tree_in f3 hi hk
 have hq := (prog_small hx).2.1
 have hn : ∀ n ∈ p.nodes, nodeK n n.kids.length := fun n hn => by
  have h1 := bulk_mem hn
  simp only [progB, shapeP, Bool.and_eq_true, decide_eq_true_eq, List.all_eq_true] at hb
  obtain ⟨⟨⟨⟨⟨_, _⟩, _⟩, h4⟩, _⟩, h6⟩ := hb
  exact node_K (h4 n hn) (h6 n hn) (by omega)
 have key : ∀ (f i : Nat), i < p.nodes.length → p.nodes.length - i ≤ f → (growT p.nodes f i).rk := by
  intro f
  induction f with
  | zero => intro i hi hf; omega
  | succ f ih =>
   intro i hi hf
   rw [growT, Tr.rk]
   have e : p.nodes.getD i default = p.nodes[i] := by simp [List.getD_eq_getElem?_getD, hi]
   refine ⟨?_, rks_iff.2 fun t ht => ?_⟩
   ·rw [List.length_map, nkids, e]; exact hn _ (List.getElem_mem hi)
   ·obtain ⟨k, hk', rfl⟩ := List.mem_map.1 ht
    have := hk i hi k hk'
    exact ih k.toNat (by omega) (by omega)
 exact key p.nodes.length 0 (by omega) (by omega)
theorem plain_mk {t : Tr} (h : t.rk) (hp : plainT t = true) : t = .mk t.hd [] ∧ nodeK t.hd 0 ∧ t.hd.pats = [] := by
 obtain ⟨n, ks⟩ := t
 rw [Tr.rk] at h
 obtain ⟨h, _⟩ := h
 have hl : ks.length = 0 := by
  simp only [plainT, plainB, Bool.or_eq_true, Bool.and_eq_true, decide_eq_true_eq] at hp
  rcases hp with ((hp | hp) | hp) | hp
  ·exact h.1 (.inl hp)
  ·exact h.1 (.inr (.inl hp))
  ·exact h.1 (.inr (.inr (.inr hp)))
  ·omega
 have hks := List.eq_nil_of_length_eq_zero hl
 subst hks
 refine ⟨rfl, h, h.2.2.2.1 fun e => ?_⟩
 replace e : n.kind = 13 := e
 simp only [plainT, plainB, Bool.or_eq_true, Bool.and_eq_true, decide_eq_true_eq] at hp
 omega
theorem getD_rk {ks : List Tr} (h : Tr.rks ks) {i : Nat} (hi : i < ks.length) : (ks.getD i (.mk default [])).rk ∧ (ks.getD i (.mk default [])).size ≤ Tr.sizes ks := by
 have e : ks.getD i (.mk default []) = ks[i] := by simp [List.getD_eq_getElem?_getD, hi]
 rw [e]
 exact ⟨rks_iff.1 h _ (List.getElem_mem hi), sizes_mem (List.getElem_mem hi)⟩
theorem firstF_lt {a : Node} : ∀ {l : List Pat} {i : Nat}, firstF a l = some i → i < l.length
 | [], i, h => by rw [firstF] at h; cases h
 | q :: l, i, h => by
  rw [firstF] at h
  split at h
  ·cases h; simp
  ·cases hf : firstF a l with
   | none => rw [hf] at h; cases h
   | some j =>
    rw [hf] at h
    cases h
    have := firstF_lt hf
    simp only [List.length_cons]; omega
theorem chosenR_rk {t : Tr} (h : t.rk) : (chosenR t).rk ∧ (chosenR t).size ≤ t.size := by
 obtain ⟨n, ks⟩ := t
 have h0 := h
 rw [Tr.rk] at h
 rw [chosenR]
 split
 ·rename_i hc
  have hl := h.1.2.2.1 hc.1
  have g0 := getD_rk h.2 (i := 0) (by omega)
  obtain ⟨p1, p2, p3⟩ := plain_mk g0.1 hc.2.1
  split
  ·exact ⟨h0, Nat.le_refl _⟩
  ·rename_i i hi
   have hlt := firstF_lt hi
   have g1 := getD_rk h.2 (i := i + 1) (by omega)
   have hp : n.pats.getD i default = n.pats[i] := by simp [List.getD_eq_getElem?_getD, hlt]
   dsimp only
   rw [hp]
   split
   ·have hne := h.1.2.2.2.2.1 _ (List.getElem_mem hlt)
    have hx : n.pats[i].nodes.getD 0 default ∈ n.pats[i].nodes := by
     cases hn : n.pats[i].nodes with
     | nil => exact absurd hn hne
     | cons x r => simp
    have b1 := bulk_mem hx
    have b2 := bulk_mem (List.getElem_mem hlt)
    have b3 : Bulk.bulk n.pats[i] = Bulk.bulk n.pats[i].nodes + 1 := rfl
    generalize n.pats[i].nodes.getD 0 default = x at *
    have b4 : Bulk.bulk x = Bulk.bulk x.kind + Bulk.bulk x.n + (x.s.size + 1) + Bulk.bulk x.kids + 1 := rfl
    have b5 : Bulk.bulk n = Bulk.bulk n.kind + Bulk.bulk n.pos + Bulk.bulk n.n + Bulk.bulk n.s + Bulk.bulk n.kids + Bulk.bulk n.pats + 1 := rfl
    have b6 := h.1.2.2.2.2.2.2
    have c1 : Bulk.bulk x.kind = 1 := rfl
    have c2 : Bulk.bulk x.n = 1 := rfl
    have c3 : Bulk.bulk n.kind = 1 := rfl
    have c4 : Bulk.bulk n.pos = 1 := rfl
    have c5 : Bulk.bulk n.n = 1 := rfl
    have c6 : Bulk.bulk n.s = n.s.size + 1 := rfl
    have c7 := bulk_length n.kids
    have c8 := bulk_length x.kids
    have d1 : nodeW (⟨7, n.pos, 0, x.s, [], []⟩ : Node) 2 = 6 + x.s.size + 2 + 1 := rfl
    have d2 : Bulk.bulk (⟨7, n.pos, 0, x.s, [], []⟩ : Node) = 1 + 1 + 1 + (x.s.size + 1) + 1 + 1 + 1 := rfl
    rw [Tr.rk, Tr.rks, Tr.rks, Tr.rks]
    refine ⟨⟨⟨fun e => ?_, fun _ => rfl, fun e => ?_, fun _ => rfl, fun q hq => (by cases hq), ?_, ?_⟩, g0.1, g1.1, trivial⟩, ?_⟩
    ·simp at e
    ·simp at e
    ·show nodeW (⟨7, n.pos, 0, x.s, [], []⟩ : Node) 2 ≤ _
     omega
    ·omega
    ·have q1 : ks.getD 0 (.mk default []) = ks[0]'(by omega) := by simp [List.getD_eq_getElem?_getD, show 0 < ks.length by omega]
     have q2 : ks.getD (i + 1) (.mk default []) = ks[i + 1]'(by omega) := by simp [List.getD_eq_getElem?_getD, show i + 1 < ks.length by omega]
     rw [Tr.size, Tr.size, Tr.sizes, Tr.sizes, Tr.sizes, q1, q2]
     have s1 := sizes_take ks (i + 1) (by omega)
     have s2 : (ks[0]'(by omega)).size ≤ Tr.sizes (ks.take (i + 1)) := sizes_mem (by
      rw [show ks[0]'(by omega) = (ks.take (i + 1))[0]'(by simp; omega) by simp]
      exact List.getElem_mem _)
     omega
   ·refine ⟨g1.1, ?_⟩
    have := g1.2
    rw [Tr.size]; omega
 ·exact ⟨h0, Nat.le_refl _⟩
theorem rewT_rk {R : Tr → Tr} (hR : ∀ t : Tr, t.rk → (R t).rk ∧ (R t).size ≤ t.size) : ∀ t : Tr, t.rk → (rewT R t).rk ∧ (rewT R t).size ≤ t.size := Tr.ind fun n ks ih h => by
 rw [Tr.rk] at h
 rw [rewT_mk]
 have hks := rks_iff.1 h.2
 have h1 : (Tr.mk n (ks.map (rewT R))).rk := by
  rw [Tr.rk, List.length_map]
  refine ⟨h.1, rks_iff.2 fun k hk => ?_⟩
  obtain ⟨q, hq, rfl⟩ := List.mem_map.1 hk
  exact (ih q hq (hks q hq)).1
 have h2 : Tr.sizes (ks.map (rewT R)) ≤ Tr.sizes ks := by
  have : ∀ l : List Tr, (∀ k ∈ l, (rewT R k).size ≤ k.size) → Tr.sizes (l.map (rewT R)) ≤ Tr.sizes l := by
   intro l
   induction l with
   | nil => intro _; exact Nat.le_refl _
   | cons t ts iht =>
    intro hl
    have a1 := hl t (by simp)
    have a2 := iht fun k hk => hl k (by simp [hk])
    rw [List.map_cons, Tr.sizes, Tr.sizes]; omega
  exact this ks fun k hk => (ih k hk (hks k hk)).2
 obtain ⟨r1, r2⟩ := hR _ h1
 refine ⟨r1, ?_⟩
 rw [Tr.size] at r2
 rw [Tr.size]; omega
def rewP (R : Tr → Tr) (p : Program) : Program := if progB p = true then ⟨p.types, layT 0 (rewT R (treeAt p.nodes 0))⟩ else ⟨[], []⟩
theorem layTs_mem {P : Node → Prop} {ks : List Tr} (h : ∀ k ∈ ks, ∀ b, ∀ n ∈ layT b k, P n) : ∀ b, ∀ n ∈ layTs b ks, P n := by
 induction ks with
 | nil => intro b n hn; rw [layTs] at hn; cases hn
 | cons k ks ih =>
  intro b n hn
  rw [layTs] at hn
  rcases List.mem_append.1 hn with hn | hn
  ·exact h k (by simp) _ n hn
  ·exact ih (fun k hk => h k (by simp [hk])) _ n hn
theorem layT_mem : ∀ t : Tr, t.rk → ∀ b, ∀ n ∈ layT b t, Bulk.bulk n ≤ 1048576 := Tr.ind fun n ks ih h b m hm => by
 rw [Tr.rk] at h
 rw [layT] at hm
 rcases List.mem_cons.1 hm with rfl | hm
 ·rw [bulk_node]
  have h1 := h.1.2.2.2.2.2.1
  simp only [nodeW, kidT_len] at h1 ⊢
  exact h1
 ·exact layTs_mem (fun k hk => ih k hk (rks_iff.1 h.2 k hk)) _ m hm
theorem rewP_facts {R : Tr → Tr} (hR : ∀ t : Tr, t.rk → (R t).rk ∧ (R t).size ≤ t.size) {p : Program} (hx : Bulk.bulk p ≤ 1048576) : Bulk.bulk (rewP R p).types ≤ 1048576 ∧ (rewP R p).nodes.length ≤ 600 ∧ (∀ n ∈ (rewP R p).nodes, Bulk.bulk n ≤ 1048576) ∧ Bulk.bulk (rewP R p) ≤ 700000000 := by
 have key : Bulk.bulk (rewP R p).types ≤ 1048576 ∧ (rewP R p).nodes.length ≤ 600 ∧ (∀ n ∈ (rewP R p).nodes, Bulk.bulk n ≤ 1048576) := by
  unfold rewP
  split
  ·rename_i hb
   have h1 := rewT_rk hR _ (tree_K hx hb)
   have h2 := (tree_facts hx hb).2.2.2.1
   refine ⟨(prog_small hx).1, ?_, layT_mem _ h1.1 0⟩
   show (layT 0 _).length ≤ 600
   rw [layT_len]; omega
  ·exact ⟨by show 1 ≤ _; omega, Nat.zero_le _, fun n hn => by cases hn⟩
 refine ⟨key.1, key.2.1, key.2.2, ?_⟩
 have e : Bulk.bulk (rewP R p) = Bulk.bulk (rewP R p).types + Bulk.bulk (rewP R p).nodes + 1 := rfl
 have h3 : ∀ l : List Node, (∀ n ∈ l, Bulk.bulk n ≤ 1048576) → Bulk.bulk l ≤ 1048576 * l.length + 1 := by
  intro l
  induction l with
  | nil => intro _; exact Nat.le_refl _
  | cons n l ih =>
   intro h
   have a1 := h n (by simp)
   have a2 := ih fun k hk => h k (by simp [hk])
   have a3 : Bulk.bulk (n :: l) = Bulk.bulk n + Bulk.bulk l := rfl
   simp only [List.length_cons]; omega
 have h4 := h3 _ key.2.2
 have := key.1
 have := key.2.1
 omega
end Go.Proofs.YtmlckdffkbbbhaaGreat
