/-
 THE GROUND OF DATA, in one text. Conditions: none.
-/
import Derived.Test.YtjifpdcflankpaaGreatRPackR
import Derived.Test.YtjifpdcflankpaaGreatRPackP
import Derived.Test.YtjifpdcflankpaaGreatRPackT
import Derived.Test.YtjifpdcflankpaaGreatRIrC
import Derived.Test.YtjifpdcflankpaaGreatRPackO

set_option linter.unusedVariables false
set_option linter.unusedSimpArgs false
set_option maxRecDepth 100000
namespace Go.Proofs.YtjifpdcflankpaaGreat
open Go.RowKit Go.Proofs.YtjifpdcflankpaaGreat.Av Go.Proofs.YtjifpdcflankpaaGreat.Ml
open Go.Proofs.YtjifpdcflankpaaGreat.Av.AVal (av)

theorem node_T {nm : Node → Bool} {l : List Node} {n : Node} (h : nodeB nm l n = true) (hb : Bulk.bulk n ≤ 4294967296) : nodeT n n.kids.length := by
 unfold nodeB at h
 split at h
 ·cases h
 rename_i h0
 refine ⟨fun hk => ?_, fun hk => ?_, hb⟩
 ·have ha : arityK n.kind = 0 := by rw [hk]; rfl
  rw [ha] at h0
  omega
 ·simp [hk] at h
  omega
theorem prog_facts {p : Program} (hx : Bulk.bulk p ≤ 4294967296) (hb : progB p = true) : 1 ≤ p.nodes.length ∧ p.nodes.length ≤ 600 ∧ treeB (nkids p.nodes) p.nodes.length = true ∧ (∀ n ∈ p.nodes, nodeT n n.kids.length) ∧ (∀ n ∈ p.nodes, ∀ q ∈ n.pats, q.nodes ≠ []) := by
 obtain ⟨q1, q2, q3, q4⟩ := prog_small hx
 simp only [progB, shapeP, Bool.and_eq_true, decide_eq_true_eq, List.all_eq_true] at hb
 obtain ⟨⟨⟨⟨⟨h1, h2⟩, h3⟩, h4⟩, h5⟩, h6⟩ := hb
 refine ⟨by omega, by omega, h3, fun n hn => node_T (h4 n hn) ?_, fun n hn q hq => ?_⟩
 ·have := bulk_mem hn; omega
 ·have := h6 n hn q hq
  intro h
  rw [h] at this
  simp [patB] at this

end Go.Proofs.YtjifpdcflankpaaGreat

namespace Go.Proofs.YtjifpdcflankpaaGreat
open Go.RowKit Go.Proofs.YtjifpdcflankpaaGreat.Av Go.Proofs.YtjifpdcflankpaaGreat.Ml
open Go.Proofs.YtjifpdcflankpaaGreat.Av.AVal (av)

def toCoreO (p : Program) : Option Program := if progB p = true then (coreT (treeAt p.nodes 0) []).map fun t => ⟨p.types, layT 0 t⟩ else none
def toCoreR (p : Program) : Program := (toCoreO p).getD ⟨[], []⟩
def toCoreB (p : Program) : Bool := (toCoreO p).isSome
theorem word_pos {s : ByteArray} (h : wordB 1 s = true) : 1 ≤ s.size := by
 simp only [wordB, Bool.and_eq_true, decide_eq_true_eq] at h
 omega
theorem name_pos {s : ByteArray} (h : nameB s = true) : 1 ≤ s.size := by
 simp only [nameB, Bool.and_eq_true] at h
 exact word_pos h.1
theorem node_C {l : List Node} {n : Node} (h : nodeB nameN l n = true) (hp : ∀ q ∈ n.pats, patB q.nodes = true) : nodeC n := by
 refine ⟨fun h3 => ?_, fun q hq h0 => ?_, fun hb => ?_, fun q hq x hx hk => ?_⟩
 ·unfold nodeB at h
  split at h
  ·cases h
  ·rename_i h0
   cases hp2 : n.pats with
   | nil => rfl
   | cons a r => exact absurd (.inr (.inr (.inl ⟨by omega, by rw [hp2]; exact fun e => by cases e⟩))) h0
 ·have := hp q hq
  rw [h0] at this
  simp [patB] at this
 ·unfold nodeB at h
  split at h
  ·cases h
  unfold bindsK at hb
  simp only [Bool.or_eq_true, decide_eq_true_eq] at hb
  have hname : nameN n = true := by
   rcases hb with ((hb | hb) | hb) | hb
   ·simpa [hb] using h
   ·simpa [hb] using h
   ·simp [hb] at h; exact h.1
   ·simpa [hb] using h
  simp only [nameN, Bool.and_eq_true] at hname
  exact name_pos hname.1
 ·have h1 := hp q hq
  obtain ⟨i, hi, rfl⟩ := List.getElem_of_mem hx
  simp only [patB, Bool.and_eq_true] at h1
  have h2 := allI_iff.1 h1.2 i hi
  have hg : q.nodes.getD i default = q.nodes[i] := by simp [List.getD_eq_getElem?_getD, hi]
  simp only [patIB, hg, Bool.and_eq_true] at h2
  have h3 := h2.1
  have h4 : ¬ (q.nodes[i].kind = 1 ∨ q.nodes[i].kind = 6) := by omega
  rw [pnodeB, if_neg h4, if_pos hk] at h3
  simp only [Bool.and_eq_true] at h3
  exact name_pos h3.2
theorem prog_C {p : Program} (hb : progB p = true) : ∀ n ∈ p.nodes, nodeC n := fun n hn => by
 simp only [progB, shapeP, Bool.and_eq_true, decide_eq_true_eq, List.all_eq_true] at hb
 obtain ⟨⟨⟨⟨⟨h1, h2⟩, h3⟩, h4⟩, h5⟩, h6⟩ := hb
 exact node_C (h4 n hn) (h6 n hn)
theorem tree_facts {p : Program} (hx : Bulk.bulk p ≤ 4294967296) (hb : progB p = true) : (treeAt p.nodes 0).ok ∧ (treeAt p.nodes 0).all nodeC ∧ (treeAt p.nodes 0).pne ∧ (treeAt p.nodes 0).size ≤ 600 ∧ (treeAt p.nodes 0).bulk + 1 = Bulk.bulk p.nodes ∧ (treeAt p.nodes 0).wt ≤ 3000000000 := by
 obtain ⟨f1, f2, f3, f4, f5⟩ := prog_facts hx hb
 have hk : ∀ i, i < p.nodes.length → ∀ k ∈ nkids p.nodes i, (i : Int) < k ∧ k < p.nodes.length := fun i hi k hk => tree_in f3 hi hk
 have h1 := treeAt_ok hk f4 p.nodes.length 0 (by omega) (by omega)
 have h2 := treeAt_all hk (prog_C hb) p.nodes.length 0 (by omega) (by omega)
 have h3 := treeAt_size f3 (i := 0) (by omega)
 have h4 := layT_bulk (treeAt p.nodes 0) 0
 rw [lay_grow f3] at h4
 have h5 := wt_bulk (treeAt p.nodes 0)
 have h6 := (prog_small hx).2.1
 exact ⟨h1, h2, pne_of _ h2, by omega, by omega, by omega⟩
theorem toCore_as {p : Program} (hx : Bulk.bulk p ≤ 4294967296) (hb : progB p = true) : toCoreO p = if coreB (treeAt p.nodes 0) [] = true then some ⟨p.types, layT 0 (coreS (treeAt p.nodes 0) [])⟩ else none := by
 obtain ⟨h1, h2, _⟩ := tree_facts hx hb
 rw [toCoreO, if_pos hb, coreT_as _ h1 h2]
 cases coreB (treeAt p.nodes 0) [] <;> rfl
theorem toCoreR_bulk {p : Program} (hx : Bulk.bulk p ≤ 4294967296) : Bulk.bulk (toCoreR p) ≤ Bulk.bulk p := by
 have e : Bulk.bulk p = Bulk.bulk p.types + Bulk.bulk p.nodes + 1 := rfl
 have hmin : 1 ≤ Bulk.bulk p.types ∧ 1 ≤ Bulk.bulk p.nodes := ⟨by have := bulk_length p.types; omega, by have := bulk_length p.nodes; omega⟩
 have h0 : Bulk.bulk (⟨[], []⟩ : Program) = 3 := rfl
 unfold toCoreR
 cases hb : progB p with
 | false =>
  have : toCoreO p = none := by rw [toCoreO, if_neg (by rw [hb]; simp)]
  rw [this]
  show Bulk.bulk (⟨[], []⟩ : Program) ≤ _
  omega
 | true =>
  obtain ⟨h1, h2, h3, h4, h5, h6⟩ := tree_facts hx hb
  rw [toCore_as hx hb]
  split
  ·have h7 := layT_bulk (coreS (treeAt p.nodes 0) []) 0
   have h8 := coreS_bulk (treeAt p.nodes 0) h2 []
   show Bulk.bulk p.types + Bulk.bulk (layT 0 (coreS (treeAt p.nodes 0) [])) + 1 ≤ _
   omega
  ·show Bulk.bulk (⟨[], []⟩ : Program) ≤ _
   omega
end Go.Proofs.YtjifpdcflankpaaGreat

namespace Go.Proofs.YtjifpdcflankpaaGreat
open Go.RowKit Go.Proofs.YtjifpdcflankpaaGreat.Av Go.Proofs.YtjifpdcflankpaaGreat.Ml
open Go.Proofs.YtjifpdcflankpaaGreat.Av.AVal (av)

def ityA (l : List Nat) : AV := .agg [.int .i64 0, .str (bs l), .int .i64 0]
def arrowA : AV := .agg [.int .i64 0, .str (bs [45, 62]), .int .i64 2]
def givenV (s : ByteArray) : AV :=
 if s = bs [112, 114, 105, 110, 116] then .sl [arrowA, ityA [105, 110, 116], ityA [117, 110, 105, 116]]
 else if s = bs [115, 97, 121] then .sl [arrowA, ityA [115, 116, 114, 105, 110, 103], ityA [117, 110, 105, 116]]
 else if s = bs [114, 101, 97, 100] then .sl [arrowA, ityA [117, 110, 105, 116], ityA [105, 110, 116]]
 else if s = bs [115, 105, 122, 101] then .sl [arrowA, ityA [115, 116, 114, 105, 110, 103], ityA [105, 110, 116]]
 else .nils
theorem given_ok (s : ByteArray) : CallsF Tryz.prog 63 [.str s] (givenV s) := by
 have hi : ∀ l, ∀ y ∈ (ityA l).cells, AvPure y := fun l y hy => by
  simp only [ityA, AV.cells, List.mem_cons, List.not_mem_nil, or_false] at hy
  rcases hy with rfl | rfl | rfl
  ·exact AvPure.int _ _
  ·exact AvPure.str _
  ·exact AvPure.int _ _
 have ha : ∀ y ∈ arrowA.cells, AvPure y := fun y hy => by
  simp only [arrowA, AV.cells, List.mem_cons, List.not_mem_nil, or_false] at hy
  rcases hy with rfl | rfl | rfl
  ·exact AvPure.int _ _
  ·exact AvPure.str _
  ·exact AvPure.int _ _
 have hs : ∀ a b, AvPure (.sl [arrowA, ityA a, ityA b]) := fun a b => AvPure.sl fun e he y hy => by
  simp only [List.mem_cons, List.not_mem_nil, or_false] at he
  rcases he with rfl | rfl | rfl
  ·exact ha y hy
  ·exact hi _ y hy
  ·exact hi _ y hy
 have hp : AvPure (givenV s) := by
  unfold givenV
  repeat' split
  all_goals first | exact hs _ _ | exact AvPure.nils
 refine ir_impl_given.F rfl (by simp; exact AvPure.str _) hp ?_
 unfold givenV
 by_cases h1 : s = bs [112, 114, 105, 110, 116]
 ·rw [if_pos h1]
  have e1 := eq_true h1
  clear h1
  simp +contextual -dsimp (maxSteps := 2000000) only [↓SD, SU, SB, simprocAttr, ir_impl_given, e1]
  rfl
 by_cases h2 : s = bs [115, 97, 121]
 ·rw [if_neg h1, if_pos h2]
  have e2 := eq_true h2
  clear h2
  simp +contextual -dsimp (maxSteps := 2000000) only [↓SD, SU, SB, simprocAttr, ir_impl_given, h1, e2]
  rfl
 by_cases h3 : s = bs [114, 101, 97, 100]
 ·rw [if_neg h1, if_neg h2, if_pos h3]
  have e3 := eq_true h3
  clear h3
  simp +contextual -dsimp (maxSteps := 2000000) only [↓SD, SU, SB, simprocAttr, ir_impl_given, h1, h2, e3]
  rfl
 by_cases h4 : s = bs [115, 105, 122, 101]
 ·rw [if_neg h1, if_neg h2, if_neg h3, if_pos h4]
  have e4 := eq_true h4
  clear h4
  simp +contextual -dsimp (maxSteps := 2000000) only [↓SD, SU, SB, simprocAttr, ir_impl_given, h1, h2, h3, e4]
  rfl
 rw [if_neg h1, if_neg h2, if_neg h3, if_neg h4]
 simp +contextual -dsimp (maxSteps := 2000000) only [↓SD, SU, SB, simprocAttr, ir_impl_given, h1, h2, h3, h4]
def CopyPost (l : List PNode) (r : AV) (hp' : Hp) : Prop := ∃ u, r = .agg [.row 8 u l.length] ∧ hp' = [(8, ⟨u, false, 94, 4, l.map av⟩)]
theorem copyPatH_ok (l : List PNode) (hq : l ≠ []) (hx : Bulk.bulk l ≤ 4294967296) : CallsH Tryz.prog 130 [.agg [.sl (l.map av)]] [] (CopyPost l) := by
 have hl := bulk_length l
 refine ir_impl_copyPat_H.H rfl ?_
 have C := ClonePNode_ok' l hq (by omega)
 simp +contextual -dsimp (maxSteps := 2000000) only [↓SD, SU, SB, simprocAttr, ir_impl_copyPat_H, map_len]
 intro v
 refine aCallH_of [] C (by simp +contextual -dsimp only [↓SD, SU, SB, simprocAttr]) ?_
 rintro r hp' ⟨u, rfl, rfl⟩
 simp +contextual -dsimp (maxSteps := 2000000) only [↓SD, SU, SB, simprocAttr, map_len]
 intro v3
 refine aLoop_of (X := Nat) (fun k => ⟨[(2, .ptr 2 v 0 0), (3, .ptr 3 v3 0 0), (11, .row 8 u l.length), (12, .int .i64 l.length), (13, .int .i64 k)], [(2, ⟨v, false, 89, 1, [.agg [.nils]]⟩), (3, ⟨v3, false, 89, 1, [.agg [.row 8 u l.length]]⟩), (8, ⟨u, false, 94, 4, l.map av⟩)]⟩) (fun k => k ≤ l.length) (fun k => l.length - k) 0 (Nat.zero_le _) (by simp +contextual -dsimp only [↓SD, SU, SB, simprocAttr]) (by simp +contextual -dsimp only [↓SD, SU, SB, simprocAttr]) ?_
 rintro k hk
 by_cases hlt : k < l.length
 ·have e := getD_map av l k .top hlt
  have hm := bulk_mem (List.getElem_mem hlt)
  have hset : (l.map av).set k (av l[k]) = l.map av := by
   apply List.ext_getElem?
   intro i
   by_cases h : i = k
   ·subst h; simp [hlt]
   ·simp [List.getElem?_set, Ne.symm h]
  have hb1 : Bulk.bulk l[k] = Bulk.bulk l[k].kind + Bulk.bulk l[k].n + Bulk.bulk l[k].s + Bulk.bulk l[k].kids + 1 := rfl
  have hl1 := bulk_length l[k].kids
  have CI := CloneInt_ok l[k].kids (by omega)
  generalize l[k] = a at *
  rw [av_PNode] at hset
  simp +contextual -dsimp (maxSteps := 2000000) only [↓SD, SU, SB, simprocAttr, map_len, hlt, e, av_PNode]
  intro w5
  refine aCallK_of _ CI ?_
  simp +contextual -dsimp (maxSteps := 2000000) only [↓SD, SU, SB, simprocAttr, map_len, hlt, e, av_PNode, hset]
  exact ⟨by omega, Goes.le ⟨k + 1, ⟨hlt, (by first | omega | (simp only; omega))⟩, rfl⟩ (by simp +contextual -dsimp only [↓SD, SU, SB, simprocAttr, Int.natCast_add]) (by simp +contextual -dsimp only [↓SD, SU, SB, simprocAttr])⟩
 ·obtain rfl : k = l.length := by omega
  simp +contextual -dsimp (maxSteps := 2000000) only [↓SD, SU, SB, simprocAttr, map_len, Nat.lt_irrefl]
  refine Goes.post [(8, ⟨u, false, 94, 4, l.map av⟩)] ?_
  simp +contextual -dsimp (maxSteps := 2000000) only [↓SD, SU, SB, simprocAttr, false_and]
  exact ⟨u, rfl, rfl⟩
theorem core1_ok (i : Int) : CallsF Tryz.prog 68 [.int .i64 i] (.str (bs [120])) := by
 refine ir_impl_core_1.F rfl (by simp; exact pint _) (AvPure.str _) ?_
 simp +contextual -dsimp (maxSteps := 2000000) only [↓SD, SU, SB, simprocAttr, ir_impl_core_1]
def renN (n : PNode) : PNode := if n.kind = 2 then { n with s := bs [120] } else n
def renE (l : List PNode) (j : Nat) : List PNode := (l.take j).map renN ++ l.drop j
theorem renE_len (l : List PNode) (j : Nat) (h : j ≤ l.length) : (renE l j).length = l.length := by unfold renE; simp; omega
theorem renE_get (l : List PNode) (j : Nat) (h : j < l.length) : (renE l j)[j]? = some l[j] := by
 unfold renE
 rw [List.getElem?_append_right (by simp; omega)]
 simp [Nat.min_eq_left (Nat.le_of_lt h), h]
theorem renE_set (l : List PNode) (j : Nat) (h : j < l.length) : (renE l j).set j (renN l[j]) = renE l (j + 1) := by
 unfold renE
 rw [List.take_succ_eq_append_getElem h, List.map_append, List.drop_eq_getElem_cons h]
 have : ((l.take j).map renN).length = j := by simp; omega
 rw [List.set_append_right _ _ (by omega), this, Nat.sub_self, List.set_cons_zero]
 simp only [List.map_cons, List.map_nil, List.append_assoc, List.cons_append, List.nil_append]
structure RnS where
 j : Nat
 c : Nat
theorem renamePat_ok (q : Pat) (hq : q.nodes ≠ []) (hx : Bulk.bulk q ≤ 4294967296) : CallsF Tryz.prog 67 [av q, .fn 68 []] (av (renX q)) := by
 obtain ⟨l⟩ := q
 have hl := bulk_length l
 have hb : Bulk.bulk l + 1 ≤ 4294967296 := hx
 refine ir_impl_renamePat.F rfl (fun x hx => by
  rcases List.mem_cons.1 hx with rfl | hx
  ·exact AVal.clean _
  ·rw [List.mem_singleton.1 hx]; exact AvPure.fn (by simp)) (AVal.clean _) ?_
 have C := copyPatH_ok l hq (by omega)
 have hfin : (renX ⟨l⟩).nodes = renE l l.length := by unfold renX renE renN; simp
 simp +contextual -dsimp (maxSteps := 2000000) only [↓SD, SU, SB, simprocAttr, ir_impl_renamePat, av_Pat, map_len]
 intro v4
 refine aCallH_of [] C (by simp +contextual -dsimp only [↓SD, SU, SB, simprocAttr]) ?_
 rintro r hp' ⟨u, rfl, rfl⟩
 simp +contextual -dsimp (maxSteps := 2000000) only [↓SD, SU, SB, simprocAttr, map_len]
 intro v5
 refine aLoop_of (X := RnS) (fun s => ⟨[(1, .fn 68 []), (4, .ptr 4 v4 0 0), (5, .ptr 5 v5 0 0), (6, .int .i64 s.c), (12, .row 8 u l.length), (13, .int .i64 l.length), (14, .int .i64 s.j)], [(4, ⟨v4, false, 89, 1, [.agg [.nils]]⟩), (5, ⟨v5, false, 89, 1, [.agg [.row 8 u l.length]]⟩), (8, ⟨u, false, 94, 4, (renE l s.j).map av⟩)]⟩) (fun s => s.j ≤ l.length ∧ s.c ≤ s.j) (fun s => l.length - s.j) ⟨0, 0⟩ ⟨Nat.zero_le _, Nat.le_refl _⟩ (by simp +contextual -dsimp only [↓SD, SU, SB, simprocAttr]) (by simp +contextual -dsimp only [↓SD, SU, SB, simprocAttr, renE, List.take_zero, List.map_nil, List.nil_append, List.drop_zero]) ?_
 rintro ⟨j, c⟩ ⟨hj, hc⟩
 dsimp only at hj hc ⊢
 by_cases hlt : j < l.length
 ·have e : ((renE l j).map (av : PNode → AV)).getD j .top = av l[j] := by
   rw [List.getD_eq_getElem?_getD, List.getElem?_map, renE_get l j hlt]; rfl
  have hlE : ((renE l j).map (av : PNode → AV)).length = l.length := by rw [List.length_map, renE_len l j hj]
  have hset : ((renE l j).map (av : PNode → AV)).set j (av (renN l[j])) = (renE l (j + 1)).map av := by rw [← renE_set l j hlt, List.map_set]
  have hsame : ¬ l[j].kind = 2 → renE l (j + 1) = renE l j := fun h => by
   rw [← renE_set l j hlt, renN, if_neg h]
   apply List.ext_getElem?
   intro i
   by_cases hi : i = j
   ·subst hi; rw [List.getElem?_set_self (by rw [renE_len l i hj]; exact hlt), renE_get l i hlt]
   ·rw [List.getElem?_set_ne (Ne.symm hi)]
  generalize l[j] = a at *
  obtain ⟨E, hE⟩ : ∃ E, E = (renE l j).map (av : PNode → AV) := ⟨_, rfl⟩
  rw [← hE] at e hlE hset ⊢
  by_cases h2 : a.kind = 2
  ·have ha : av (renN a) = .agg [.int .i64 2, .int .i64 a.n, .str (bs [120]), .sl (a.kids.map av)] := by rw [renN, if_pos h2, av_PNode, ← h2]
   rw [ha] at hset
   have C1 := core1_ok c
   simp +contextual -dsimp (maxSteps := 2000000) only [↓SD, SU, SB, simprocAttr, hlt, hlE, e, av_PNode, h2]
   intro w8
   refine aCallK_of _ C1 ?_
   simp +contextual -dsimp (maxSteps := 2000000) only [↓SD, SU, SB, simprocAttr, hlt, hlE, e, av_PNode, h2, hset]
   exact ⟨by omega, by omega, Goes.le ⟨⟨j + 1, c + 1⟩, ⟨⟨hlt, by simp only; omega⟩, (by first | omega | (simp only; omega))⟩, rfl⟩ (by simp +contextual -dsimp only [↓SD, SU, SB, simprocAttr, Int.natCast_add]) (by simp +contextual -dsimp only [↓SD, SU, SB, simprocAttr])⟩
  ·have hEq : (renE l (j + 1)).map (av : PNode → AV) = E := by rw [hsame h2, hE]
   clear hset
   simp +contextual -dsimp (maxSteps := 2000000) only [↓SD, SU, SB, simprocAttr, hlt, hlE, e, av_PNode, h2]
   intro w8
   exact ⟨by omega, Goes.le ⟨⟨j + 1, c⟩, ⟨⟨hlt, by simp only; omega⟩, (by first | omega | (simp only; omega))⟩, rfl⟩ (by simp +contextual -dsimp only [↓SD, SU, SB, simprocAttr, Int.natCast_add]) (by simp +contextual -dsimp only [↓SD, SU, SB, simprocAttr, hEq])⟩
 ·obtain rfl : j = l.length := by omega
  rw [hfin]
  have hlE : ((renE l l.length).map (av : PNode → AV)).length = l.length := by rw [List.length_map, renE_len l _ (Nat.le_refl _)]
  have hEm : ∀ hp, ((renE l l.length).map (av : PNode → AV)).map (AV.pur hp) = (renE l l.length).map av := fun hp => map_nop _ hp
  have hEt : List.take l.length ((renE l l.length).map (av : PNode → AV)) = (renE l l.length).map av := List.take_of_length_le (by omega)
  simp +contextual -dsimp (maxSteps := 2000000) only [↓SD, SU, SB, simprocAttr, Nat.lt_irrefl, hlE, hEm, hEt]
end Go.Proofs.YtjifpdcflankpaaGreat

namespace Go.Proofs.YtjifpdcflankpaaGreat
open Go.RowKit Go.Proofs.YtjifpdcflankpaaGreat.Av Go.Proofs.YtjifpdcflankpaaGreat.Ml
open Go.Proofs.YtjifpdcflankpaaGreat.Av.AVal (av)

def GrowS (n : Int) (r : AV) (hp' : Hp) : Prop := (n = 0 ∧ r = .nils ∧ hp' = []) ∨ ∃ v E, r = .row 22 v 0 ∧ hp' = [(22, ⟨v, false, 9, 1, E⟩)]
theorem GrowStr_ok (n : Int) (h0 : 0 ≤ n) (h1 : n ≤ 4294967296) : CallsH Tryz.prog 129 [.nils, .int .i64 n] [] (GrowS n) := by
 refine ir_slices_Grow_string_string.H rfl ?_
 have hn : ¬ n < 0 := by omega
 have hz : n - 0 = n := by omega
 by_cases h00 : n = 0
 ·subst h00
  simp +contextual -dsimp (maxSteps := 2000000) only [↓SD, SU, SB, simprocAttr, ir_slices_Grow_string_string, Int.sub_zero]
  refine Goes.post [] ?_
  simp +contextual -dsimp (maxSteps := 2000000) only [↓SD, SU, SB, simprocAttr]
  exact .inl ⟨rfl, rfl, rfl⟩
 have hp : 0 < n := by omega
 simp +contextual -dsimp (maxSteps := 2000000) only [↓SD, SU, SB, simprocAttr, ir_slices_Grow_string_string, hn, hp, hz, Int.sub_zero]
 (repeat' (first | intro _ | refine And.intro ?_ ?_))
 all_goals first | omega | skip
 rename_i v
 refine Goes.post [(22, ⟨v, false, 9, 1, List.replicate n.toNat (.str (bs []))⟩)] ?_
 simp +contextual -dsimp (maxSteps := 2000000) only [↓SD, SU, SB, simprocAttr]
 exact .inr ⟨v, _, rfl, rfl⟩
def ConcQ (l : List ByteArray) (r : AV) (hp' : Hp) : Prop := r = .sl (l.map av) ∨ (r = .nils ∧ AV.sl (l.map av) = .sl [])
structure CdS where
 k : Nat
 u : Nat
 n : Nat
 E : List AV
def CdI (p q : List ByteArray) (x : CdS) : Prop := (x.k = 0 ∧ x.n = 0) ∨ (x.k = 1 ∧ x.n = p.length ∧ x.E = p.map av) ∨ (x.k = 2 ∧ x.n = p.length + q.length ∧ x.E = (p ++ q).map av)
def CdJ (p q : List ByteArray) (x : Nat × Int) : Prop := (x.1 = 0 ∧ x.2 = 0) ∨ (x.1 = 1 ∧ x.2 = p.length) ∨ (x.1 = 2 ∧ x.2 = (p.length : Int) + q.length)
theorem ConcStrH_ok (p q : List ByteArray) (hl : p.length + q.length ≤ 4200000000) : CallsH Tryz.prog 65 [.sl [.sl (p.map av), .sl (q.map av)]] [] (ConcQ (p ++ q)) := by
 refine ir_slices_Concat_string_string.H rfl ?_
 have CG := GrowStr_ok ((p.length : Int) + q.length) (by omega) (by omega)
 simp +contextual -dsimp (maxSteps := 2000000) only [↓SD, SU, SB, simprocAttr, ir_slices_Concat_string_string]
 refine aLoop_of (X := Nat × Int) (fun x => ⟨[(0, .sl [.sl (p.map av), .sl (q.map av)]), (3, .int .i64 x.2), (9, .sl [.sl (p.map av), .sl (q.map av)]), (10, .int .i64 2), (11, .int .i64 x.1)], []⟩) (CdJ p q) (fun x => 2 - x.1) (0, 0) (.inl ⟨rfl, rfl⟩) (by simp +contextual -dsimp only [↓SD, SU, SB, simprocAttr]) trivial ?_
 rintro ⟨k, z⟩ (⟨rfl, rfl⟩ | ⟨rfl, rfl⟩ | ⟨rfl, rfl⟩)
 ·simp +contextual -dsimp (maxSteps := 2000000) only [↓SD, SU, SB, simprocAttr, map_len]
  have hg : ¬ (p.length : Int) < 0 := by omega
  simp +contextual -dsimp (maxSteps := 2000000) only [↓SD, SU, SB, simprocAttr, hg, Int.zero_add]
  (repeat' (first | intro _ | refine And.intro ?_ ?_))
  all_goals first | omega | skip
  exact Goes.le ⟨(1, (p.length : Int)), ⟨.inr (.inl ⟨rfl, rfl⟩), by simp only; omega⟩, rfl⟩ (by simp +contextual -dsimp only [↓SD, SU, SB, simprocAttr, Int.zero_add]) trivial
 ·have hg : ¬ (p.length : Int) + q.length < 0 := by omega
  simp +contextual -dsimp (maxSteps := 2000000) only [↓SD, SU, SB, simprocAttr, map_len, hg]
  (repeat' (first | intro _ | refine And.intro ?_ ?_))
  all_goals first | omega | skip
  exact Goes.le ⟨(2, (p.length : Int) + q.length), ⟨.inr (.inr ⟨rfl, rfl⟩), by simp only; omega⟩, rfl⟩ (by simp +contextual -dsimp only [↓SD, SU, SB, simprocAttr, Int.reduceAdd]) trivial
 simp +contextual -dsimp (maxSteps := 2000000) only [↓SD, SU, SB, simprocAttr]
 refine aCallH_of [] CG (by simp +contextual -dsimp only [↓SD, SU, SB, simprocAttr]) ?_
 rintro r hp' (⟨h00, rfl, rfl⟩ | ⟨v, E, rfl, rfl⟩)
 case' inl =>
  simp +contextual -dsimp (maxSteps := 2000000) only [↓SD, SU, SB, simprocAttr]
  refine aLoop_goes (X := CdS) (fun x => ⟨[(6, .row 22 x.u x.n), (25, .sl [.sl (p.map av), .sl (q.map av)]), (26, .int .i64 2), (27, .int .i64 x.k)], [(22, ⟨x.u, false, 9, 1, x.E⟩)]⟩) (CdI p q) (fun x => 2 - x.k) (Goes.adopt 6 22 9 1 rfl fun v => Goes.le ⟨⟨0, v, 0, []⟩, .inl ⟨rfl, rfl⟩, rfl⟩ (by simp +contextual -dsimp only [↓SD, SU, SB, simprocAttr]) (by simp +contextual -dsimp only [↓SD, SU, SB, simprocAttr])) ?_
 case' inr =>
  simp +contextual -dsimp (maxSteps := 2000000) only [↓SD, SU, SB, simprocAttr]
  refine aLoop_of (X := CdS) (fun x => ⟨[(6, .row 22 x.u x.n), (25, .sl [.sl (p.map av), .sl (q.map av)]), (26, .int .i64 2), (27, .int .i64 x.k)], [(22, ⟨x.u, false, 9, 1, x.E⟩)]⟩) (CdI p q) (fun x => 2 - x.k) ⟨0, v, 0, E⟩ (.inl ⟨rfl, rfl⟩) (by simp +contextual -dsimp only [↓SD, SU, SB, simprocAttr]) (by simp +contextual -dsimp only [↓SD, SU, SB, simprocAttr]) ?_
 all_goals
  rintro ⟨k, u, n, E⟩ (⟨rfl, rfl⟩ | ⟨rfl, rfl, rfl⟩ | ⟨rfl, rfl, rfl⟩)
  ·simp +contextual -dsimp (maxSteps := 2000000) only [↓SD, SU, SB, simprocAttr, map_len, map_nop]
   refine ⟨⟨fun y hy => (by obtain ⟨x, _, rfl⟩ := List.mem_map.1 hy; exact AVal.len x), by omega, by unfold maxLen; omega⟩, fun w => ?_⟩
   exact Goes.le ⟨⟨1, w, p.length, p.map av⟩, ⟨.inr (.inl ⟨rfl, rfl, rfl⟩), by simp only; omega⟩, rfl⟩ (by simp +contextual -dsimp only [↓SD, SU, SB, simprocAttr, Int.zero_add]) (by simp +contextual -dsimp only [↓SD, SU, SB, simprocAttr])
  ·have ht : List.take p.length (p.map (av : ByteArray → AV)) = p.map av := List.take_of_length_le (by simp)
   simp +contextual -dsimp (maxSteps := 2000000) only [↓SD, SU, SB, simprocAttr, map_len, map_nop, ht]
   refine ⟨⟨fun y hy => (by obtain ⟨x, _, rfl⟩ := List.mem_map.1 hy; exact AVal.len x), by omega, by unfold maxLen; omega⟩, fun w => ?_⟩
   exact Goes.le ⟨⟨2, w, p.length + q.length, (p ++ q).map av⟩, ⟨.inr (.inr ⟨rfl, rfl, rfl⟩), by simp only; omega⟩, rfl⟩ (by simp +contextual -dsimp only [↓SD, SU, SB, simprocAttr, Int.reduceAdd]) (by simp +contextual -dsimp only [↓SD, SU, SB, simprocAttr, List.map_append])
  ·simp +contextual -dsimp (maxSteps := 2000000) only [↓SD, SU, SB, simprocAttr]
   have hln : ((p ++ q).map (av : ByteArray → AV)).length = p.length + q.length := by simp
   have ht : List.take (p.length + q.length) ((p ++ q).map (av : ByteArray → AV)) = (p ++ q).map av := List.take_of_length_le (by omega)
   refine Goes.post [] ?_
   simp +contextual -dsimp (maxSteps := 2000000) only [↓SD, SU, SB, simprocAttr, map_nop, hln, ht, Nat.le_refl]
   exact .inl rfl
theorem ConcStr_ok (p q : List ByteArray) (hl : p.length + q.length ≤ 4200000000) : CallsF Tryz.prog 65 [.sl [.sl (p.map av), .sl (q.map av)]] (.sl ((p ++ q).map av)) := by
 refine callsF_of_H (ConcStrH_ok p q hl) (by
  simp only [List.mem_singleton, forall_eq]
  refine AvPure.sl fun e he x hx => ?_
  simp only [List.mem_cons, List.not_mem_nil, or_false] at he
  rcases he with rfl | rfl
  ·simp only [AV.cells, List.mem_singleton] at hx; subst hx; exact lav_clean p
  ·simp only [AV.cells, List.mem_singleton] at hx; subst hx; exact lav_clean q) (lav_clean _) ?_
 exact fun r hp' h => h
end Go.Proofs.YtjifpdcflankpaaGreat

namespace Go.Proofs.YtjifpdcflankpaaGreat
open Go.RowKit Go.Proofs.YtjifpdcflankpaaGreat.Av Go.Proofs.YtjifpdcflankpaaGreat.Ml
open Go.Proofs.YtjifpdcflankpaaGreat.Av.AVal (av)

theorem givenV_yes {s : ByteArray} (h : givenB s = true) : ∃ a b c, givenV s = .sl [a, b, c] := by
 unfold givenB at h
 simp only [Bool.or_eq_true, decide_eq_true_eq] at h
 unfold givenV
 repeat' split
 all_goals first | exact ⟨_, _, _, rfl⟩ | skip
 simp_all
theorem givenV_no {s : ByteArray} (h : givenB s = false) : givenV s = .nils := by
 unfold givenB at h
 simp only [Bool.or_eq_false_iff, decide_eq_false_iff_not] at h
 unfold givenV
 rw [if_neg h.1.1.1, if_neg h.1.1.2, if_neg h.1.2, if_neg h.2]
def coreW (t : Tr) (env : List ByteArray) : AV :=
 match coreT t env with
 | some t' => .tup [av t', .bool true]
 | none => match t with
  | .mk n ks => .tup [if n.kind = 3 then av (Tr.mk { n with pos := 0, pats := [] } []) else .nilp, .bool false]
theorem coreW_pure (t : Tr) (env : List ByteArray) : AvPure (coreW t env) := by
 unfold coreW
 split
 ·exact AvPure.tup (by simp; exact ⟨AVal.clean _, AvPure.bool _⟩)
 ·split
  rename_i n ks _
  have h : AvPure (if n.kind = 3 then av (Tr.mk { n with pos := 0, pats := [] } []) else .nilp) := by
   split
   ·exact AVal.clean _
   ·exact AvPure.nilp
  exact AvPure.tup (by simp only [List.mem_cons, List.not_mem_nil, or_false]; rintro x (rfl | rfl); exact h; exact AvPure.bool _)
theorem coreTs_step (n : Node) (env : List ByteArray) (j : Nat) (ks : List Tr) (h : j < ks.length) : coreTs n j (ks.drop j) env = match coreT ks[j] (innerE n j env) with
  | some t' => (coreTs n (j + 1) (ks.drop (j + 1)) env).map fun l => t' :: l
  | none => none := by
 rw [List.drop_eq_getElem_cons h, coreTs]
 cases coreT ks[j] (innerE n j env) with
 | none => rfl
 | some t' => cases coreTs n (j + 1) (ks.drop (j + 1)) env <;> rfl
theorem wts_mem : ∀ {ks : List Tr} {k : Tr}, k ∈ ks → k.wt ≤ Tr.wts ks
 | t :: ts, k, h => by
  rw [Tr.wts]
  rcases List.mem_cons.1 h with rfl | h
  ·omega
  ·have := wts_mem h; omega
theorem wt_pos : ∀ t : Tr, 1 ≤ t.wt
 | .mk n ks => by rw [Tr.wt]; omega
theorem wts_len : ∀ ks : List Tr, ks.length ≤ Tr.wts ks
 | [] => Nat.zero_le _
 | t :: ts => by
  have h1 := wt_pos t
  have h2 := wts_len ts
  rw [Tr.wts, List.length_cons]; omega
theorem vars_sum {l : List Pat} {q : Pat} (h : q ∈ l) : (varsOf q.nodes).length ≤ (l.map fun q => (varsOf q.nodes).length).sum := by
 induction l with
 | nil => cases h
 | cons a l ih =>
  simp only [List.map_cons, List.sum_cons]
  rcases List.mem_cons.1 h with rfl | h
  ·omega
  ·have := ih h; omega
theorem innerE_len (n : Node) (i : Nat) (env : List ByteArray) : (innerE n i env).length ≤ env.length + (1 + (n.pats.map fun q => (varsOf q.nodes).length).sum) := by
 unfold innerE
 split
 ·rw [List.length_append]
  by_cases h : i - 1 < n.pats.length
  ·have e : n.pats.getD (i - 1) ⟨[]⟩ = n.pats[i - 1] := by simp [h]
   rw [e]
   have := vars_sum (List.getElem_mem h)
   omega
  ·have e : n.pats.getD (i - 1) ⟨[]⟩ = ⟨[]⟩ := by rw [List.getD_eq_getElem?_getD, List.getElem?_eq_none (by omega)]; rfl
   rw [e]; simp [varsOf]
 ·split
  ·rw [List.length_append, List.length_singleton]; omega
  ·omega
structure CkS where
 j : Nat
 u : Nat
 v : Nat
 L : List Tr
structure CoS where
 m : Nat
 a : Nat
 b : Nat
set_option maxHeartbeats 4000000 in
theorem core_ok : ∀ (t : Tr), t.ok → t.pne → ∀ (env : List ByteArray), env.length + t.wt ≤ 4100000000 → CallsF Tryz.prog 30 [av t, .sl (env.map av)] (coreW t env) := by
 refine Tr.ind fun n ks ih hok hpn env hb => ?_
 refine ir_impl_core.F rfl (by simp; exact ⟨AVal.clean _, lav_clean env⟩) (coreW_pure _ _) ?_
 rw [Tr.ok] at hok
 obtain ⟨⟨ht3, ht13, hbn⟩, hoks⟩ := hok
 rw [Tr.pne] at hpn
 by_cases h3 : n.kind = 3
 ·have hks : ks = [] := List.eq_nil_of_length_eq_zero (ht3 h3)
  subst hks
  have hW : coreW (.mk n []) env = match lastIx n.s env with
    | some k => .tup [av (Tr.mk { n with pos := 0, n := (k : Int), s := bs [], pats := [] } []), .bool true]
    | none => .tup [av (Tr.mk { n with pos := 0, pats := [] } []), .bool (givenB n.s)] := by
   unfold coreW
   rw [coreT, if_pos h3]
   cases lastIx n.s env with
   | some k => rfl
   | none =>
    dsimp only
    cases hg : givenB n.s <;> simp [h3]
  rw [hW]
  simp +contextual -dsimp (maxSteps := 2000000) only [↓SD, SU, SB, simprocAttr, ir_impl_core, av_Tr, h3, map_len]
  intro u28
  refine ⟨by omega, ?_⟩
  refine aLoop_goes (X := CoS) (fun x => ⟨[(0, .obj [.int .i64 3, .int .i64 n.pos, .int .i64 n.n, .str n.s, .sl [], .sl (n.pats.map av)]), (1, .sl (env.map av)), (6, .ptr 28 u28 0 0), (7, .int .i64 ((x.m : Int) - 1))], [(28, ⟨u28, false, 103, 6, [.agg [.int .i64 3, .int .i64 0, .int .i64 n.n, .str n.s, .row 165 x.a 0, .row 186 x.b 0]]⟩), (165, ⟨x.a, false, 55, 1, []⟩), (186, ⟨x.b, false, 89, 1, []⟩)]⟩) (fun x => x.m ≤ env.length ∧ lastIx n.s env = lastF n.s env x.m) (fun x => x.m) ?_ ?_
  ·refine Goes.adoptB 28 0 4 165 55 1 rfl rfl Nat.zero_lt_one rfl (by decide) fun a => ?_
   refine Goes.adoptB 28 0 5 186 89 1 rfl rfl Nat.zero_lt_one rfl (by decide) fun b => ?_
   exact Goes.le ⟨⟨env.length, a, b⟩, ⟨Nat.le_refl _, rfl⟩, rfl⟩ (by simp +contextual -dsimp only [↓SD, SU, SB, simprocAttr, List.map_nil, List.length_map]) (by simp +contextual -dsimp only [↓SD, SU, SB, simprocAttr])
  rintro ⟨m, a, b⟩ ⟨hm, hl⟩
  dsimp only at hm hl ⊢
  rw [hl]
  cases m with
  | zero =>
   rw [lastF]
   have CG := given_ok n.s
   cases hg : givenB n.s with
   | true =>
    obtain ⟨x, y, z, he⟩ := givenV_yes hg
    rw [he] at CG
    simp +contextual -dsimp (maxSteps := 2000000) only [↓SD, SU, SB, simprocAttr]
    refine aCallK_of _ CG ?_
    simp +contextual -dsimp (maxSteps := 2000000) only [↓SD, SU, SB, simprocAttr, av_Tr, List.map_nil, List.take_zero, h3]
   | false =>
    rw [givenV_no hg] at CG
    simp +contextual -dsimp (maxSteps := 2000000) only [↓SD, SU, SB, simprocAttr]
    refine aCallK_of _ CG ?_
    simp +contextual -dsimp (maxSteps := 2000000) only [↓SD, SU, SB, simprocAttr, av_Tr, List.map_nil, List.take_zero, h3]
  | succ m =>
   have hmi : ((m + 1 : Nat) : Int) - 1 = (m : Int) := by omega
   have hlt : m < env.length := by omega
   have e1 := getD_map av env m .top hlt
   rw [hmi, lastF]
   rw [av_str] at e1
   by_cases he : env[m] = n.s
   ·have he2 : env[m]? = some n.s := by rw [List.getElem?_eq_getElem hlt, he]
    rw [he] at e1
    rw [if_pos he2]
    have hci : ((env.length - 1 - m : Nat) : Int) = (env.length : Int) - 1 - m := by omega
    simp +contextual -dsimp (maxSteps := 2000000) only [↓SD, SU, SB, simprocAttr, hlt, e1, map_len, av_Tr, List.map_nil, h3, hci]
    exact ⟨by omega, by omega⟩
   ·have he2 : ¬ env[m]? = some n.s := by rw [List.getElem?_eq_getElem hlt]; simpa using he
    rw [if_neg he2]
    simp +contextual -dsimp (maxSteps := 2000000) only [↓SD, SU, SB, simprocAttr, hlt, e1, map_len, he]
    exact ⟨by omega, Goes.le ⟨⟨m, a, b⟩, ⟨⟨by simp only; omega, rfl⟩, by simp only; omega⟩, rfl⟩ (by simp +contextual -dsimp only [↓SD, SU, SB, simprocAttr]) (by simp +contextual -dsimp only [↓SD, SU, SB, simprocAttr])⟩
 have hW : coreW (.mk n ks) env = match coreTs n 0 ks env with
   | some ks' => .tup [av (Tr.mk { n with pos := 0, s := if bindsK n.kind = true then bs [120] else n.s, pats := n.pats.map renX } ks'), .bool true]
   | none => .tup [.nilp, .bool false] := by
  unfold coreW
  rw [coreT, if_neg h3]
  cases coreTs n 0 ks env with
  | some ks' => rfl
  | none => simp [h3]
 rw [hW]
 have CC := ContainsInt_ok [5, 7, 8, 15] n.kind (by decide)
 have hany : ([5, 7, 8, 15] : List Int).any (fun y => decide (n.kind = y)) = bindsK n.kind := by simp [bindsK, Bool.or_assoc]
 rw [hany] at CC
 have hl5 : ([5, 7, 8, 15] : List Int).map av = [AV.int .i64 5, AV.int .i64 7, AV.int .i64 8, AV.int .i64 15] := rfl
 rw [hl5] at CC
 obtain ⟨s0, hs0⟩ : ∃ s0, s0 = if bindsK n.kind = true then bs [120] else n.s := ⟨_, rfl⟩
 rw [← hs0]
 cases hbk : bindsK n.kind
 all_goals
  rw [hbk] at CC hs0
  simp only [Bool.false_eq_true, if_true, if_false] at hs0
  simp +contextual -dsimp (maxSteps := 2000000) only [↓SD, SU, SB, simprocAttr, ir_impl_core, av_Tr, h3, map_len]
  intro u28
  refine aCallK_of _ CC ?_
  simp +contextual -dsimp (maxSteps := 2000000) only [↓SD, SU, SB, simprocAttr, map_len]
  refine aLoop_goes (X := CkS) (fun x => ⟨[(0, .obj [.int .i64 n.kind, .int .i64 n.pos, .int .i64 n.n, .str n.s, .sl (ks.map av), .sl (n.pats.map av)]), (1, .sl (env.map av)), (6, .ptr 28 u28 0 0), (81, .sl (ks.map av)), (82, .int .i64 ks.length), (83, .int .i64 x.j)], [(28, ⟨u28, false, 103, 6, [.agg [.int .i64 n.kind, .int .i64 0, .int .i64 n.n, .str s0, .row 165 x.u x.j, .row 186 x.v 0]]⟩), (165, ⟨x.u, false, 55, 1, x.L.map av⟩), (186, ⟨x.v, false, 89, 1, []⟩)]⟩) (fun x => x.j ≤ ks.length ∧ x.L.length = x.j ∧ coreTs n 0 ks env = (coreTs n x.j (ks.drop x.j) env).map fun l => x.L ++ l) (fun x => ks.length - x.j) ?_ ?_
  ·refine Goes.adoptB 28 0 4 165 55 1 rfl rfl Nat.zero_lt_one rfl (by decide) fun a => ?_
   refine Goes.adoptB 28 0 5 186 89 1 rfl rfl Nat.zero_lt_one rfl (by decide) fun b => ?_
   exact Goes.le ⟨⟨0, a, b, []⟩, ⟨Nat.zero_le _, rfl, by rw [List.drop_zero]; cases coreTs n 0 ks env <;> rfl⟩, rfl⟩ (by simp +contextual -dsimp only [↓SD, SU, SB, simprocAttr]) (by simp +contextual -dsimp only [↓SD, SU, SB, simprocAttr, List.map_nil, hs0])
  rintro ⟨j, u, v, L⟩ ⟨hj, hLl, hco⟩
  dsimp only at hj hLl hco ⊢
  by_cases hlt : j < ks.length
  ·have e1 := getD_map av ks j .top hlt
   have hst := coreTs_step n env j ks hlt
   have hkm := List.getElem_mem hlt
   have hw := wts_mem hkm
   have hb2 := hb
   rw [Tr.wt] at hb2
   have hwl := wts_len ks
   have hin := innerE_len n j env
   have CI := ih ks[j] hkm (oks_mem hoks hkm) (pnes_mem hpn.2 hkm) (innerE n j env) (by rw [Tr.wt] at hb; omega)
   rw [hst] at hco
   have hres : (∃ y, CallsF Tryz.prog 30 [av ks[j], .sl ((innerE n j env).map av)] (.tup [y, .bool false]) ∧ coreTs n 0 ks env = none) ∨ (∃ t', CallsF Tryz.prog 30 [av ks[j], .sl ((innerE n j env).map av)] (.tup [av t', .bool true]) ∧ coreTs n 0 ks env = (coreTs n (j + 1) (ks.drop (j + 1)) env).map fun l => (L ++ [t']) ++ l) := by
    unfold coreW at CI
    cases hk : coreT ks[j] (innerE n j env) with
    | none =>
     rw [hk] at CI hco
     dsimp only at CI hco
     generalize ks[j] = k at *
     obtain ⟨kn, kks⟩ := k
     exact .inl ⟨_, CI, hco⟩
    | some t' =>
     rw [hk] at CI hco
     dsimp only at CI hco
     refine .inr ⟨t', CI, ?_⟩
     rw [hco]
     cases coreTs n (j + 1) (ks.drop (j + 1)) env with
     | none => rfl
     | some l => simp
   clear CI hco hst ih
   generalize ks[j] = k at *
   have hcase : (n.kind = 13 ∧ 0 < j) ∨ (n.kind = 13 ∧ j = 0) ∨ n.kind = 5 ∨ n.kind = 8 ∨ (j = 1 ∧ n.kind = 7) ∨ (j = 1 ∧ n.kind = 15) ∨ (j = 1 ∧ ¬ n.kind = 13 ∧ ¬ n.kind = 5 ∧ ¬ n.kind = 8 ∧ ¬ n.kind = 7 ∧ ¬ n.kind = 15) ∨ (¬ j = 1 ∧ ¬ n.kind = 13 ∧ ¬ n.kind = 5 ∧ ¬ n.kind = 8) := by omega
   rcases hres with ⟨y, CI, hnone⟩ | ⟨y, CI, hco⟩
   all_goals
    try rw [hnone]
    have hLt : List.take j (L.map (av : Tr → AV)) = L.map av := List.take_of_length_le (by rw [List.length_map]; omega)
    rcases hcase with ⟨h13, h0⟩ | ⟨h13, h0⟩ | h5 | h8 | ⟨h1, h7⟩ | ⟨h1, h15⟩ | ⟨h1, g1, g2, g3, g4, g5⟩ | ⟨h1, g1, g2, g3⟩
    ·have F13 : (n.kind = 13) = True := eq_true (by omega)
     have F5 : (n.kind = 5) = False := eq_false (by omega)
     have F8 : (n.kind = 8) = False := eq_false (by omega)
     have F7 : (n.kind = 7) = False := eq_false (by omega)
     have F15 : (n.kind = 15) = False := eq_false (by omega)
     have J0 : ((0 : Int) < (j : Int)) = True := eq_true (by omega)
     have J1 : 0 = 0 := rfl
     have hlp : j - 1 < n.pats.length := by have := ht13 h13; omega
     have hji : (j : Int) - 1 = ((j - 1 : Nat) : Int) := by omega
     have e2 := getD_map av n.pats (j - 1) .top hlp
     have hpg : n.pats.getD (j - 1) ⟨[]⟩ = n.pats[j - 1] := by simp [hlp]
     have hie : innerE n j env = env ++ varsOf n.pats[j - 1].nodes := by unfold innerE; rw [if_pos ⟨h13, h0⟩, hpg]
     have hvs := vars_sum (List.getElem_mem hlp)
     have hbp : Bulk.bulk n.pats ≤ Bulk.bulk n := by simp only [Bulk.bulk]; omega
     have hbq : Bulk.bulk n.pats[j - 1].nodes + 1 + 1 ≤ Bulk.bulk n.pats := bulk_mem (List.getElem_mem hlp)
     have CP := patNames_ok n.pats[j - 1].nodes (by omega)
     have CA := ConcStr_ok env (varsOf n.pats[j - 1].nodes) (by rw [Tr.wt] at hb; omega)
     rw [← hie] at CA
     generalize n.pats[j - 1] = q at *
     simp +contextual -dsimp (maxSteps := 2000000) only [↓SD, SU, SB, simprocAttr, hlt, e1, map_len, F13, F5, F8, F7, F15, J0, J1, hji, e2, hlp, av_Pat, tr_cells, tr_pur, tr_pur1, tr_purA, tr_one, tr_ok]
     have hpl := bulk_length n.pats
     have hp13 := ht13 h13
     refine ⟨by omega, ?_⟩
     refine aCallK_of _ CP ?_
     simp +contextual -dsimp (maxSteps := 2000000) only [↓SD, SU, SB, simprocAttr]
     refine aCallK_of _ CA ?_
     simp +contextual -dsimp (maxSteps := 2000000) only [↓SD, SU, SB, simprocAttr, tr_cells, tr_pur, tr_pur1, tr_purA, tr_one, tr_ok]
     refine aCallK_of _ CI ?_
     simp +contextual -dsimp (maxSteps := 2000000) only [↓SD, SU, SB, simprocAttr, hLl, hLt, map_len, tr_cells, tr_pur, tr_pur1, tr_purA, tr_one, tr_ok]
     try exact ⟨⟨by omega, by unfold maxLen; omega⟩, fun u' => ⟨by omega, Goes.le ⟨⟨j + 1, u', v, L ++ [y]⟩, ⟨⟨hlt, by simp only [List.length_append, List.length_cons, List.length_nil]; omega, hco⟩, (by first | omega | (simp only; omega))⟩, rfl⟩ (by simp +contextual -dsimp only [↓SD, SU, SB, simprocAttr, Int.natCast_add]) (by simp +contextual -dsimp only [↓SD, SU, SB, simprocAttr, List.map_append])⟩⟩
    ·have F13 : (n.kind = 13) = True := eq_true (by omega)
     have F5 : (n.kind = 5) = False := eq_false (by omega)
     have F8 : (n.kind = 8) = False := eq_false (by omega)
     have F7 : (n.kind = 7) = False := eq_false (by omega)
     have F15 : (n.kind = 15) = False := eq_false (by omega)
     have J0 : ((0 : Int) < (j : Int)) = False := eq_false (by omega)
     have J1 : ((j : Int) = 1) = False := eq_false (by omega)
     have hji : 0 = 0 := rfl
     have e2 : 0 = 0 := rfl
     have hlp : 0 = 0 := rfl
     have hie : innerE n j env = env := by unfold innerE; rw [if_neg (by omega), if_neg (by omega)]
     simp +contextual -dsimp (maxSteps := 2000000) only [↓SD, SU, SB, simprocAttr, hlt, e1, map_len, F13, F5, F8, F7, F15, J0, J1, hji, e2, hlp, av_Pat, tr_cells, tr_pur, tr_pur1, tr_purA, tr_one, tr_ok]
     rw [hie] at CI
     refine aCallK_of _ CI ?_
     simp +contextual -dsimp (maxSteps := 2000000) only [↓SD, SU, SB, simprocAttr, hLl, hLt, map_len, tr_cells, tr_pur, tr_pur1, tr_purA, tr_one, tr_ok]
     try exact ⟨⟨by omega, by unfold maxLen; omega⟩, fun u' => ⟨by omega, Goes.le ⟨⟨j + 1, u', v, L ++ [y]⟩, ⟨⟨hlt, by simp only [List.length_append, List.length_cons, List.length_nil]; omega, hco⟩, (by first | omega | (simp only; omega))⟩, rfl⟩ (by simp +contextual -dsimp only [↓SD, SU, SB, simprocAttr, Int.natCast_add]) (by simp +contextual -dsimp only [↓SD, SU, SB, simprocAttr, List.map_append])⟩⟩
    ·have F13 : (n.kind = 13) = False := eq_false (by omega)
     have F5 : (n.kind = 5) = True := eq_true (by omega)
     have F8 : (n.kind = 8) = False := eq_false (by omega)
     have F7 : (n.kind = 7) = False := eq_false (by omega)
     have F15 : (n.kind = 15) = False := eq_false (by omega)
     have J0 : 0 = 0 := rfl
     have J1 : 0 = 0 := rfl
     have hji : 0 = 0 := rfl
     have e2 : 0 = 0 := rfl
     have hlp : 0 = 0 := rfl
     have hie : innerE n j env = env ++ [n.s] := by unfold innerE; rw [if_neg (by omega), if_pos (by omega)]
     have CA : CallsF Tryz.prog 65 [.sl [.sl (env.map av), .sl [.str n.s]]] (.sl ((innerE n j env).map av)) := by rw [hie]; exact ConcStr_ok env [n.s] (by rw [Tr.wt] at hb; simp only [List.length_singleton]; omega)
     simp +contextual -dsimp (maxSteps := 2000000) only [↓SD, SU, SB, simprocAttr, hlt, e1, map_len, F13, F5, F8, F7, F15, J0, J1, hji, e2, hlp, av_Pat, tr_cells, tr_pur, tr_pur1, tr_purA, tr_one, tr_ok]
     refine aCallK_of _ CA ?_
     simp +contextual -dsimp (maxSteps := 2000000) only [↓SD, SU, SB, simprocAttr, tr_cells, tr_pur, tr_pur1, tr_purA, tr_one, tr_ok]
     refine aCallK_of _ CI ?_
     simp +contextual -dsimp (maxSteps := 2000000) only [↓SD, SU, SB, simprocAttr, hLl, hLt, map_len, tr_cells, tr_pur, tr_pur1, tr_purA, tr_one, tr_ok]
     try exact ⟨⟨by omega, by unfold maxLen; omega⟩, fun u' => ⟨by omega, Goes.le ⟨⟨j + 1, u', v, L ++ [y]⟩, ⟨⟨hlt, by simp only [List.length_append, List.length_cons, List.length_nil]; omega, hco⟩, (by first | omega | (simp only; omega))⟩, rfl⟩ (by simp +contextual -dsimp only [↓SD, SU, SB, simprocAttr, Int.natCast_add]) (by simp +contextual -dsimp only [↓SD, SU, SB, simprocAttr, List.map_append])⟩⟩
    ·have F13 : (n.kind = 13) = False := eq_false (by omega)
     have F5 : (n.kind = 5) = False := eq_false (by omega)
     have F8 : (n.kind = 8) = True := eq_true (by omega)
     have F7 : (n.kind = 7) = False := eq_false (by omega)
     have F15 : (n.kind = 15) = False := eq_false (by omega)
     have J0 : 0 = 0 := rfl
     have J1 : 0 = 0 := rfl
     have hji : 0 = 0 := rfl
     have e2 : 0 = 0 := rfl
     have hlp : 0 = 0 := rfl
     have hie : innerE n j env = env ++ [n.s] := by unfold innerE; rw [if_neg (by omega), if_pos (by omega)]
     have CA : CallsF Tryz.prog 65 [.sl [.sl (env.map av), .sl [.str n.s]]] (.sl ((innerE n j env).map av)) := by rw [hie]; exact ConcStr_ok env [n.s] (by rw [Tr.wt] at hb; simp only [List.length_singleton]; omega)
     simp +contextual -dsimp (maxSteps := 2000000) only [↓SD, SU, SB, simprocAttr, hlt, e1, map_len, F13, F5, F8, F7, F15, J0, J1, hji, e2, hlp, av_Pat, tr_cells, tr_pur, tr_pur1, tr_purA, tr_one, tr_ok]
     refine aCallK_of _ CA ?_
     simp +contextual -dsimp (maxSteps := 2000000) only [↓SD, SU, SB, simprocAttr, tr_cells, tr_pur, tr_pur1, tr_purA, tr_one, tr_ok]
     refine aCallK_of _ CI ?_
     simp +contextual -dsimp (maxSteps := 2000000) only [↓SD, SU, SB, simprocAttr, hLl, hLt, map_len, tr_cells, tr_pur, tr_pur1, tr_purA, tr_one, tr_ok]
     try exact ⟨⟨by omega, by unfold maxLen; omega⟩, fun u' => ⟨by omega, Goes.le ⟨⟨j + 1, u', v, L ++ [y]⟩, ⟨⟨hlt, by simp only [List.length_append, List.length_cons, List.length_nil]; omega, hco⟩, (by first | omega | (simp only; omega))⟩, rfl⟩ (by simp +contextual -dsimp only [↓SD, SU, SB, simprocAttr, Int.natCast_add]) (by simp +contextual -dsimp only [↓SD, SU, SB, simprocAttr, List.map_append])⟩⟩
    ·have F13 : (n.kind = 13) = False := eq_false (by omega)
     have F5 : (n.kind = 5) = False := eq_false (by omega)
     have F8 : (n.kind = 8) = False := eq_false (by omega)
     have F7 : (n.kind = 7) = True := eq_true (by omega)
     have F15 : (n.kind = 15) = False := eq_false (by omega)
     have J0 : 0 = 0 := rfl
     have J1 : ((j : Int) = 1) = True := eq_true (by omega)
     have hji : 0 = 0 := rfl
     have e2 : 0 = 0 := rfl
     have hlp : 0 = 0 := rfl
     have hie : innerE n j env = env ++ [n.s] := by unfold innerE; rw [if_neg (by omega), if_pos (by omega)]
     have CA : CallsF Tryz.prog 65 [.sl [.sl (env.map av), .sl [.str n.s]]] (.sl ((innerE n j env).map av)) := by rw [hie]; exact ConcStr_ok env [n.s] (by rw [Tr.wt] at hb; simp only [List.length_singleton]; omega)
     simp +contextual -dsimp (maxSteps := 2000000) only [↓SD, SU, SB, simprocAttr, hlt, e1, map_len, F13, F5, F8, F7, F15, J0, J1, hji, e2, hlp, av_Pat, tr_cells, tr_pur, tr_pur1, tr_purA, tr_one, tr_ok]
     refine aCallK_of _ CA ?_
     simp +contextual -dsimp (maxSteps := 2000000) only [↓SD, SU, SB, simprocAttr, tr_cells, tr_pur, tr_pur1, tr_purA, tr_one, tr_ok]
     refine aCallK_of _ CI ?_
     simp +contextual -dsimp (maxSteps := 2000000) only [↓SD, SU, SB, simprocAttr, hLl, hLt, map_len, tr_cells, tr_pur, tr_pur1, tr_purA, tr_one, tr_ok]
     try exact ⟨⟨by omega, by unfold maxLen; omega⟩, fun u' => ⟨by omega, Goes.le ⟨⟨j + 1, u', v, L ++ [y]⟩, ⟨⟨hlt, by simp only [List.length_append, List.length_cons, List.length_nil]; omega, hco⟩, (by first | omega | (simp only; omega))⟩, rfl⟩ (by simp +contextual -dsimp only [↓SD, SU, SB, simprocAttr, Int.natCast_add]) (by simp +contextual -dsimp only [↓SD, SU, SB, simprocAttr, List.map_append])⟩⟩
    ·have F13 : (n.kind = 13) = False := eq_false (by omega)
     have F5 : (n.kind = 5) = False := eq_false (by omega)
     have F8 : (n.kind = 8) = False := eq_false (by omega)
     have F7 : (n.kind = 7) = False := eq_false (by omega)
     have F15 : (n.kind = 15) = True := eq_true (by omega)
     have J0 : 0 = 0 := rfl
     have J1 : ((j : Int) = 1) = True := eq_true (by omega)
     have hji : 0 = 0 := rfl
     have e2 : 0 = 0 := rfl
     have hlp : 0 = 0 := rfl
     have hie : innerE n j env = env ++ [n.s] := by unfold innerE; rw [if_neg (by omega), if_pos (by omega)]
     have CA : CallsF Tryz.prog 65 [.sl [.sl (env.map av), .sl [.str n.s]]] (.sl ((innerE n j env).map av)) := by rw [hie]; exact ConcStr_ok env [n.s] (by rw [Tr.wt] at hb; simp only [List.length_singleton]; omega)
     simp +contextual -dsimp (maxSteps := 2000000) only [↓SD, SU, SB, simprocAttr, hlt, e1, map_len, F13, F5, F8, F7, F15, J0, J1, hji, e2, hlp, av_Pat, tr_cells, tr_pur, tr_pur1, tr_purA, tr_one, tr_ok]
     refine aCallK_of _ CA ?_
     simp +contextual -dsimp (maxSteps := 2000000) only [↓SD, SU, SB, simprocAttr, tr_cells, tr_pur, tr_pur1, tr_purA, tr_one, tr_ok]
     refine aCallK_of _ CI ?_
     simp +contextual -dsimp (maxSteps := 2000000) only [↓SD, SU, SB, simprocAttr, hLl, hLt, map_len, tr_cells, tr_pur, tr_pur1, tr_purA, tr_one, tr_ok]
     try exact ⟨⟨by omega, by unfold maxLen; omega⟩, fun u' => ⟨by omega, Goes.le ⟨⟨j + 1, u', v, L ++ [y]⟩, ⟨⟨hlt, by simp only [List.length_append, List.length_cons, List.length_nil]; omega, hco⟩, (by first | omega | (simp only; omega))⟩, rfl⟩ (by simp +contextual -dsimp only [↓SD, SU, SB, simprocAttr, Int.natCast_add]) (by simp +contextual -dsimp only [↓SD, SU, SB, simprocAttr, List.map_append])⟩⟩
    ·have F13 : (n.kind = 13) = False := eq_false (by omega)
     have F5 : (n.kind = 5) = False := eq_false (by omega)
     have F8 : (n.kind = 8) = False := eq_false (by omega)
     have F7 : (n.kind = 7) = False := eq_false (by omega)
     have F15 : (n.kind = 15) = False := eq_false (by omega)
     have J1 : ((j : Int) = 1) = True := eq_true (by omega)
     have hie : innerE n j env = env := by unfold innerE; rw [if_neg (by omega), if_neg (by omega)]
     rw [hie] at CI
     simp +contextual -dsimp (maxSteps := 2000000) only [↓SD, SU, SB, simprocAttr, hlt, e1, map_len, F13, F5, F8, F7, F15, J1, tr_cells, tr_pur, tr_pur1, tr_purA, tr_one, tr_ok]
     refine aCallK_of _ CI ?_
     simp +contextual -dsimp (maxSteps := 2000000) only [↓SD, SU, SB, simprocAttr, hLl, hLt, map_len, tr_cells, tr_pur, tr_pur1, tr_purA, tr_one, tr_ok]
     try exact ⟨⟨by omega, by unfold maxLen; omega⟩, fun u' => ⟨by omega, Goes.le ⟨⟨j + 1, u', v, L ++ [y]⟩, ⟨⟨hlt, by simp only [List.length_append, List.length_cons, List.length_nil]; omega, hco⟩, (by first | omega | (simp only; omega))⟩, rfl⟩ (by simp +contextual -dsimp only [↓SD, SU, SB, simprocAttr, Int.natCast_add]) (by simp +contextual -dsimp only [↓SD, SU, SB, simprocAttr, List.map_append])⟩⟩
    ·have F13 : (n.kind = 13) = False := eq_false (by omega)
     have F5 : (n.kind = 5) = False := eq_false (by omega)
     have F8 : (n.kind = 8) = False := eq_false (by omega)
     have F7 : 0 = 0 := rfl
     have F15 : 0 = 0 := rfl
     have J1 : ((j : Int) = 1) = False := eq_false (by omega)
     have hie : innerE n j env = env := by unfold innerE; rw [if_neg (by omega), if_neg (by omega)]
     rw [hie] at CI
     simp +contextual -dsimp (maxSteps := 2000000) only [↓SD, SU, SB, simprocAttr, hlt, e1, map_len, F13, F5, F8, F7, F15, J1, tr_cells, tr_pur, tr_pur1, tr_purA, tr_one, tr_ok]
     refine aCallK_of _ CI ?_
     simp +contextual -dsimp (maxSteps := 2000000) only [↓SD, SU, SB, simprocAttr, hLl, hLt, map_len, tr_cells, tr_pur, tr_pur1, tr_purA, tr_one, tr_ok]
     try exact ⟨⟨by omega, by unfold maxLen; omega⟩, fun u' => ⟨by omega, Goes.le ⟨⟨j + 1, u', v, L ++ [y]⟩, ⟨⟨hlt, by simp only [List.length_append, List.length_cons, List.length_nil]; omega, hco⟩, (by first | omega | (simp only; omega))⟩, rfl⟩ (by simp +contextual -dsimp only [↓SD, SU, SB, simprocAttr, Int.natCast_add]) (by simp +contextual -dsimp only [↓SD, SU, SB, simprocAttr, List.map_append])⟩⟩
  ·obtain rfl : j = ks.length := by omega
   have hdn : coreTs n ks.length (ks.drop ks.length) env = some [] := by rw [List.drop_length, coreTs]
   rw [hdn] at hco
   simp only [Option.map_some, List.append_nil] at hco
   rw [hco]
   dsimp only
   have hLt : List.take ks.length (L.map (av : Tr → AV)) = L.map av := List.take_of_length_le (by rw [List.length_map]; omega)
   have hLm : ∀ hp, (L.map (av : Tr → AV)).map (AV.pur hp) = L.map av := fun hp => map_nop _ hp
   have hbp : Bulk.bulk n.pats ≤ Bulk.bulk n := by simp only [Bulk.bulk]; omega
   have hpl := bulk_length n.pats
   simp +contextual -dsimp (maxSteps := 2000000) only [↓SD, SU, SB, simprocAttr, Nat.lt_irrefl, map_len]
   refine aLoop_of (X := Nat × Nat) (fun x => ⟨[(6, .ptr 28 u28 0 0), (172, .sl (n.pats.map av)), (173, .int .i64 n.pats.length), (174, .int .i64 x.1)], [(28, ⟨u28, false, 103, 6, [.agg [.int .i64 n.kind, .int .i64 0, .int .i64 n.n, .str s0, .row 165 u ks.length, .row 186 x.2 x.1]]⟩), (165, ⟨u, false, 55, 1, L.map av⟩), (186, ⟨x.2, false, 89, 1, ((n.pats.take x.1).map renX).map av⟩)]⟩) (fun x => x.1 ≤ n.pats.length) (fun x => n.pats.length - x.1) (0, v) (Nat.zero_le _) (by simp +contextual -dsimp only [↓SD, SU, SB, simprocAttr]) (by simp +contextual -dsimp only [↓SD, SU, SB, simprocAttr, List.take_zero, List.map_nil]) ?_
   rintro ⟨i, w⟩ hi
   dsimp only at hi ⊢
   by_cases hlt2 : i < n.pats.length
   ·have e1 := getD_map av n.pats i .top hlt2
    have hqm := List.getElem_mem hlt2
    have hbq := bulk_mem hqm
    have CR := renamePat_ok n.pats[i] (hpn.1 _ hqm) (by omega)
    have ht : (n.pats.take (i + 1)).map renX = (n.pats.take i).map renX ++ [renX n.pats[i]] := by rw [List.take_succ_eq_append_getElem hlt2, List.map_append]; rfl
    have hRl : (((n.pats.take i).map renX).map (av : Pat → AV)).length = i := by simp; omega
    have hRt : List.take i (((n.pats.take i).map renX).map (av : Pat → AV)) = ((n.pats.take i).map renX).map av := List.take_of_length_le (by omega)
    generalize n.pats[i] = q at *
    generalize (n.pats.take i).map renX = RR at *
    rw [av_Pat, av_Pat] at CR
    simp +contextual -dsimp (maxSteps := 2000000) only [↓SD, SU, SB, simprocAttr, hlt2, e1, map_len, av_Pat]
    intro w14
    refine aCallK_of _ CR ?_
    simp +contextual -dsimp (maxSteps := 2000000) only [↓SD, SU, SB, simprocAttr, hRl, hRt, av_Pat, map_len, map_nop]
    exact ⟨⟨by omega, by unfold maxLen; omega⟩, fun w' => ⟨by omega, Goes.le ⟨(i + 1, w'), ⟨hlt2, (by first | omega | (simp only; omega))⟩, rfl⟩ (by simp +contextual -dsimp only [↓SD, SU, SB, simprocAttr, Int.natCast_add]) (by simp +contextual -dsimp only [↓SD, SU, SB, simprocAttr, ht, List.map_append, av_Pat])⟩⟩
   ·obtain rfl : i = n.pats.length := by omega
    rw [List.take_length]
    have hPl : ((n.pats.map renX).map (av : Pat → AV)).length = n.pats.length := by simp
    have hPt : List.take n.pats.length ((n.pats.map renX).map (av : Pat → AV)) = (n.pats.map renX).map av := List.take_of_length_le (by omega)
    have hPm : ∀ hp, ((n.pats.map renX).map (av : Pat → AV)).map (AV.pur hp) = (n.pats.map renX).map av := fun hp => map_nop _ hp
    have hLl2 : (L.map (av : Tr → AV)).length = ks.length := by rw [List.length_map, hLl]
    simp +contextual -dsimp (maxSteps := 2000000) only [↓SD, SU, SB, simprocAttr, Nat.lt_irrefl, hPl, hPt, hPm, hLl2, hLt, hLm]
end Go.Proofs.YtjifpdcflankpaaGreat

namespace Go.Proofs.YtjifpdcflankpaaGreat
open Go.RowKit Go.Proofs.YtjifpdcflankpaaGreat.Av Go.Proofs.YtjifpdcflankpaaGreat.Ml
open Go.Proofs.YtjifpdcflankpaaGreat.Av.AVal (av)

theorem l15Given_ok (s : ByteArray) : CallsF Tryz.prog 52 [.str s] (.bool (givenB s)) := by
 refine ir_spec_l15Given.F rfl (by simp; exact AvPure.str _) (AvPure.bool _) ?_
 unfold givenB
 cases h1 : decide (s = bs [112, 114, 105, 110, 116]) <;> cases h2 : decide (s = bs [115, 97, 121]) <;> cases h3 : decide (s = bs [114, 101, 97, 100]) <;> cases h4 : decide (s = bs [115, 105, 122, 101])
 all_goals
  try (have e1 := eq_true (of_decide_eq_true h1))
  try (have e1 := eq_false (of_decide_eq_false h1))
  try (have e2 := eq_true (of_decide_eq_true h2))
  try (have e2 := eq_false (of_decide_eq_false h2))
  try (have e3 := eq_true (of_decide_eq_true h3))
  try (have e3 := eq_false (of_decide_eq_false h3))
  try (have e4 := eq_true (of_decide_eq_true h4))
  try (have e4 := eq_false (of_decide_eq_false h4))
  clear h1 h2 h3 h4
  simp +contextual -dsimp (maxSteps := 2000000) only [↓SD, SU, SB, simprocAttr, ir_spec_l15Given, e1, e2, e3, e4, Bool.or_true, Bool.or_false, Bool.true_or, Bool.false_or]
def countV (o : Option Nat) : Int := match o with
 | some k => (k : Int)
 | none => -1
theorem l15Count_ok (env : List ByteArray) (s : ByteArray) (hl : env.length ≤ 1099511627776) : CallsF Tryz.prog 51 [.sl (env.map av), .str s] (.int .i64 (countV (lastIx s env))) := by
 refine ir_spec_l15Count.F rfl (by simp; exact ⟨lav_clean env, AvPure.str _⟩) (pint _) ?_
 simp +contextual -dsimp (maxSteps := 2000000) only [↓SD, SU, SB, simprocAttr, ir_spec_l15Count, map_len]
 refine ⟨by omega, ?_⟩
 refine aLoop_of (X := Nat) (fun m => ⟨[(0, .sl (env.map av)), (1, .str s), (5, .int .i64 ((m : Int) - 1))], []⟩) (fun m => m ≤ env.length ∧ lastIx s env = lastF s env m) (fun m => m) env.length ⟨Nat.le_refl _, rfl⟩ (by simp +contextual -dsimp only [↓SD, SU, SB, simprocAttr]) trivial ?_
 rintro m ⟨hm, hl2⟩
 rw [hl2]
 cases m with
 | zero =>
  rw [lastF]
  simp +contextual -dsimp (maxSteps := 2000000) only [↓SD, SU, SB, simprocAttr, countV]
 | succ m =>
  have hmi : ((m + 1 : Nat) : Int) - 1 = (m : Int) := by omega
  have hlt : m < env.length := by omega
  have e1 := getD_map av env m .top hlt
  rw [av_str] at e1
  rw [hmi, lastF]
  by_cases he : env[m] = s
  ·have he2 : env[m]? = some s := by rw [List.getElem?_eq_getElem hlt, he]
   rw [he] at e1
   rw [if_pos he2]
   have hci : ((env.length - 1 - m : Nat) : Int) = (env.length : Int) - 1 - m := by omega
   simp +contextual -dsimp (maxSteps := 2000000) only [↓SD, SU, SB, simprocAttr, hlt, e1, map_len, hci, countV]
   exact ⟨by omega, by omega⟩
  ·have he2 : ¬ env[m]? = some s := by rw [List.getElem?_eq_getElem hlt]; simpa using he
   rw [if_neg he2]
   simp +contextual -dsimp (maxSteps := 2000000) only [↓SD, SU, SB, simprocAttr, hlt, e1, map_len, he]
   exact ⟨by omega, Goes.le ⟨m, ⟨⟨by omega, rfl⟩, by omega⟩, rfl⟩ (by simp +contextual -dsimp only [↓SD, SU, SB, simprocAttr]) trivial⟩
end Go.Proofs.YtjifpdcflankpaaGreat

namespace Go.Proofs.YtjifpdcflankpaaGreat
open Go.RowKit Go.Proofs.YtjifpdcflankpaaGreat.Av Go.Proofs.YtjifpdcflankpaaGreat.Ml
open Go.Proofs.YtjifpdcflankpaaGreat.Av.AVal (av)

theorem vars_step {l : List PNode} {j : Nat} (h : j < l.length) : varsOf (l.take (j + 1)) = varsOf (l.take j) ++ if l[j].kind = 2 then [l[j].s] else [] := by
 unfold varsOf
 rw [List.take_succ_eq_append_getElem h, List.filterMap_append]
 congr 1
 by_cases hk : l[j].kind = 2 <;> simp [hk]
structure LpS where
 j : Nat
 a : Nat
 b : Nat
theorem l15Pat_ok (l : List PNode) (hx : Bulk.bulk l ≤ 4294967296) : CallsF Tryz.prog 53 [.agg [.sl (l.map av)], .nils] (.tup [.agg [.sl ((l.map renN).map av)], .sl ((varsOf l).map av)]) := by
 refine ir_spec_l15Pat.F rfl (by simp; exact ⟨AvPure.agg (by simp; exact lav_clean l), AvPure.nils⟩) (AvPure.tup (fun x hx => by
  rcases List.mem_cons.1 hx with rfl | hx
  ·exact AvPure.agg (fun y hy => by rw [List.mem_singleton.1 hy]; exact lav_clean (l.map renN))
  ·rw [List.mem_singleton.1 hx]; exact lav_clean (varsOf l))) ?_
 have hl := bulk_length l
 simp +contextual -dsimp (maxSteps := 2000000) only [↓SD, SU, SB, simprocAttr, ir_spec_l15Pat, map_len]
 intro u4 u6 u11
 refine aLoop_goes (X := LpS) (fun x => ⟨[(1, .nils), (4, .ptr 4 u4 0 0), (6, .ptr 6 u6 0 0), (7, .row 11 x.a (varsOf (l.take x.j)).length), (13, .sl (l.map av)), (14, .int .i64 l.length), (15, .int .i64 x.j)], [(4, ⟨u4, false, 89, 1, [.agg [.nils]]⟩), (6, ⟨u6, false, 89, 1, [.agg [.row 49 x.b x.j]]⟩), (49, ⟨x.b, false, 94, 4, ((l.take x.j).map renN).map av⟩), (11, ⟨x.a, false, 9, 1, (varsOf (l.take x.j)).map av⟩)]⟩) (fun x => x.j ≤ l.length) (fun x => l.length - x.j) ?_ ?_
 ·refine Goes.adoptB 6 0 0 49 94 4 rfl rfl Nat.zero_lt_one rfl (by decide) fun b => ?_
  exact Goes.le ⟨⟨0, u11, b⟩, Nat.zero_le _, rfl⟩ (by simp +contextual -dsimp only [↓SD, SU, SB, simprocAttr, List.take_zero, varsOf, List.filterMap_nil]) (by simp +contextual -dsimp only [↓SD, SU, SB, simprocAttr, List.take_zero, varsOf, List.filterMap_nil, List.map_nil])
 rintro ⟨j, a, b⟩ hj
 dsimp only at hj ⊢
 by_cases hlt : j < l.length
 ·have e1 := getD_map av l j .top hlt
  have vs := vars_step hlt
  have ht : (l.take (j + 1)).map renN = (l.take j).map renN ++ [renN l[j]] := by rw [List.take_succ_eq_append_getElem hlt, List.map_append]; rfl
  have hRl : (((l.take j).map renN).map (av : PNode → AV)).length = j := by simp; omega
  have hRt : List.take j (((l.take j).map renN).map (av : PNode → AV)) = ((l.take j).map renN).map av := List.take_of_length_le (by omega)
  have hk1 := (pnode_small hx j hlt).1
  have hvl : (varsOf (l.take j)).length ≤ j := by
   have h1 := List.length_filterMap_le (fun n : PNode => if n.kind = 2 then some n.s else none) (l.take j)
   have h2 : (l.take j).length = j := by simp; omega
   unfold varsOf; omega
  generalize l[j] = n at *
  generalize (l.take j).map renN = RR at *
  generalize varsOf (l.take j) = V at *
  have hVl : (V.map (av : ByteArray → AV)).length = V.length := List.length_map _
  have hVt : List.take V.length (V.map (av : ByteArray → AV)) = V.map av := List.take_of_length_le (by omega)
  have hkc : ∀ x ∈ n.kids.map (av : Int → AV), x.cells.length = 1 := fun x hx => by obtain ⟨y, _, rfl⟩ := List.mem_map.1 hx; rfl
  have hkm : ∀ hp, (n.kids.map (av : Int → AV)).map (AV.pur hp) = n.kids.map av := fun hp => map_nop _ hp
  have hkt : List.take n.kids.length (n.kids.map (av : Int → AV)) = n.kids.map av := List.take_of_length_le (by simp)
  have hle : ¬ (((V.length + 1 : Nat) : Int) ≤ 0) := by omega
  by_cases h2 : n.kind = 2
  ·have ha : av (renN n) = .agg [.int .i64 2, .int .i64 n.n, .str (bs [120]), .sl (n.kids.map av)] := by rw [renN, if_pos h2, av_PNode, ← h2]
   rw [if_pos h2] at vs
   simp +contextual -dsimp (maxSteps := 2000000) only [↓SD, SU, SB, simprocAttr, hlt, e1, map_len, av_PNode, h2, hRl, hRt, hVl, hVt, hkm, hkt, hle]
   intro u9 v19
   refine ⟨⟨hkc, by omega, by unfold maxLen; omega⟩, fun w => ⟨⟨by omega, by unfold maxLen; omega⟩, fun a' => ?_⟩⟩
   exact ⟨⟨by omega, by unfold maxLen; omega⟩, fun b' => ⟨by omega, Goes.le ⟨⟨j + 1, a', b'⟩, ⟨hlt, (by first | omega | (simp only; omega))⟩, rfl⟩ (by simp +contextual -dsimp only [↓SD, SU, SB, simprocAttr, Int.natCast_add, vs, List.length_append]) (by simp +contextual -dsimp only [↓SD, SU, SB, simprocAttr, vs, ht, ha, List.map_append, av_str])⟩⟩
  ·have ha : av (renN n) = av n := by rw [renN, if_neg h2]
   rw [if_neg h2, List.append_nil] at vs
   simp +contextual -dsimp (maxSteps := 2000000) only [↓SD, SU, SB, simprocAttr, hlt, e1, map_len, av_PNode, h2, hRl, hRt, hVl, hVt, hkm, hkt, hle]
   intro u9 v19
   refine ⟨⟨hkc, by omega, by unfold maxLen; omega⟩, fun w => ?_⟩
   exact ⟨⟨by omega, by unfold maxLen; omega⟩, fun b' => ⟨by omega, Goes.le ⟨⟨j + 1, a, b'⟩, ⟨hlt, (by first | omega | (simp only; omega))⟩, rfl⟩ (by simp +contextual -dsimp only [↓SD, SU, SB, simprocAttr, Int.natCast_add, vs]) (by simp +contextual -dsimp only [↓SD, SU, SB, simprocAttr, vs, ht, ha, List.map_append, av_PNode])⟩⟩
 ·obtain rfl : j = l.length := by omega
  rw [List.take_length]
  have hRl : ((l.map renN).map (av : PNode → AV)).length = l.length := by simp
  have hRt : List.take l.length ((l.map renN).map (av : PNode → AV)) = (l.map renN).map av := List.take_of_length_le (by omega)
  have hRm : ∀ hp, ((l.map renN).map (av : PNode → AV)).map (AV.pur hp) = (l.map renN).map av := fun hp => map_nop _ hp
  have hVl : ((varsOf l).map (av : ByteArray → AV)).length = (varsOf l).length := List.length_map _
  have hVt : List.take (varsOf l).length ((varsOf l).map (av : ByteArray → AV)) = (varsOf l).map av := List.take_of_length_le (by omega)
  have hVm : ∀ hp, ((varsOf l).map (av : ByteArray → AV)).map (AV.pur hp) = (varsOf l).map av := fun hp => map_nop _ hp
  simp +contextual -dsimp (maxSteps := 2000000) only [↓SD, SU, SB, simprocAttr, Nat.lt_irrefl, hRl, hRt, hRm, hVl, hVt, hVm]
end Go.Proofs.YtjifpdcflankpaaGreat

namespace Go.Proofs.YtjifpdcflankpaaGreat
open Go.RowKit Go.Proofs.YtjifpdcflankpaaGreat.Av Go.Proofs.YtjifpdcflankpaaGreat.Ml
open Go.Proofs.YtjifpdcflankpaaGreat.Av.AVal (av)

def innA (n : Node) : List AV := n.pats.map fun q => .sl ((varsOf q.nodes).map av)
theorem l15In_ok (n : Node) (i : Nat) (env : List ByteArray) (hl : env.length + (1 + (n.pats.map fun q => (varsOf q.nodes).length).sum) ≤ 4100000000) (h13 : n.kind = 13 → i ≤ n.pats.length) (hi : i ≤ 4294967296) :
  CallsF Tryz.prog 54 [av n, .int .i64 i, .sl (env.map av), .str n.s, .sl (innA n)] (.sl ((innerE n i env).map av)) := by
 refine ir_spec_l15In.F rfl (fun x hx => by
  simp only [List.mem_cons, List.not_mem_nil, or_false] at hx
  rcases hx with rfl | rfl | rfl | rfl | rfl
  ·exact AVal.clean n
  ·exact pint _
  ·exact lav_clean env
  ·exact AvPure.str _
  ·refine AvPure.sl fun e he y hy => ?_
   obtain ⟨q, _, rfl⟩ := List.mem_map.1 he
   simp only [AV.cells, List.mem_singleton] at hy
   subst hy
   exact lav_clean _) (lav_clean _) ?_
 have hem : ∀ hp, (env.map (av : ByteArray → AV)).map (AV.pur hp) = env.map av := fun hp => map_nop _ hp
 have hec : ∀ x ∈ env.map (av : ByteArray → AV), x.cells.length = 1 := fun x hx => by obtain ⟨y, _, rfl⟩ := List.mem_map.1 hx; rfl
 have het : List.take env.length (env.map (av : ByteArray → AV)) = env.map av := List.take_of_length_le (by simp)
 have hcase : (n.kind = 13 ∧ 0 < i) ∨ (n.kind = 13 ∧ i = 0) ∨ n.kind = 5 ∨ n.kind = 8 ∨ (i = 1 ∧ n.kind = 7) ∨ (i = 1 ∧ n.kind = 15) ∨ (i = 1 ∧ ¬ n.kind = 13 ∧ ¬ n.kind = 5 ∧ ¬ n.kind = 8 ∧ ¬ n.kind = 7 ∧ ¬ n.kind = 15) ∨ (¬ i = 1 ∧ ¬ n.kind = 13 ∧ ¬ n.kind = 5 ∧ ¬ n.kind = 8) := by omega
 rcases hcase with ⟨g, h0⟩ | ⟨g, h0⟩ | g | g | ⟨h1, g⟩ | ⟨h1, g⟩ | ⟨h1, g1, g2, g3, g4, g5⟩ | ⟨h1, g1, g2, g3⟩
 ·have F13 : (n.kind = 13) = True := eq_true (by omega)
  have F5 : (n.kind = 5) = False := eq_false (by omega)
  have F8 : (n.kind = 8) = False := eq_false (by omega)
  have F7 : (n.kind = 7) = False := eq_false (by omega)
  have F15 : (n.kind = 15) = False := eq_false (by omega)
  have J0 : ((0 : Int) < (i : Int)) = True := eq_true (by omega)
  have J1 : 0 = 0 := rfl
  have hlp : i - 1 < n.pats.length := by have := h13 (by omega); omega
  have hji : (i : Int) - 1 = ((i - 1 : Nat) : Int) := by omega
  have hpg : n.pats.getD (i - 1) ⟨[]⟩ = n.pats[i - 1] := by simp [hlp]
  have hie : innerE n i env = env ++ varsOf n.pats[i - 1].nodes := by unfold innerE; rw [if_pos (by omega), hpg]
  have hil : (innA n).length = n.pats.length := List.length_map _
  have e2 : (innA n).getD (i - 1) .top = .sl ((varsOf n.pats[i - 1].nodes).map av) := by unfold innA; simp [List.getD_eq_getElem?_getD, hlp]
  have hvs := vars_sum (List.getElem_mem hlp)
  generalize varsOf n.pats[i - 1].nodes = V at *
  have hVm : ∀ hp, (V.map (av : ByteArray → AV)).map (AV.pur hp) = V.map av := fun hp => map_nop _ hp
  have hVc : ∀ x ∈ V.map (av : ByteArray → AV), x.cells.length = 1 := fun x hx => by obtain ⟨y, _, rfl⟩ := List.mem_map.1 hx; rfl
  have hpk : (env ++ V).map (av : ByteArray → AV) = env.map av ++ V.map av := List.map_append
  have hm2 : ∀ hp, (env.map (av : ByteArray → AV) ++ V.map av).map (AV.pur hp) = env.map av ++ V.map av := fun hp => by rw [List.map_append, hem, hVm]
  have hl2 : (env.map (av : ByteArray → AV) ++ V.map (av : ByteArray → AV)).length = env.length + V.length := by simp
  have ht2 : List.take (env.length + V.length) (env.map (av : ByteArray → AV) ++ V.map (av : ByteArray → AV)) = env.map av ++ V.map av := List.take_of_length_le (by omega)
  rw [hie, hpk]
  simp +contextual -dsimp (maxSteps := 2000000) only [↓SD, SU, SB, simprocAttr, ir_spec_l15In, av_Node, map_len, hem, het, F13, F5, F8, F7, F15, J0, J1, hm2, hl2, ht2, Nat.le_refl, hVm, hil, e2, hji, hlp]
  exact ⟨⟨hec, by omega, by unfold maxLen; omega⟩, by omega, hVc, by omega, by unfold maxLen; omega⟩
 ·have F13 : (n.kind = 13) = True := eq_true (by omega)
  have F5 : (n.kind = 5) = False := eq_false (by omega)
  have F8 : (n.kind = 8) = False := eq_false (by omega)
  have F7 : (n.kind = 7) = False := eq_false (by omega)
  have F15 : (n.kind = 15) = False := eq_false (by omega)
  have J0 : ((0 : Int) < (i : Int)) = False := eq_false (by omega)
  have J1 : ((i : Int) = 1) = False := eq_false (by omega)
  have hie : innerE n i env = env := by unfold innerE; rw [if_neg (by omega), if_neg (by omega)]
  rw [hie]
  simp +contextual -dsimp (maxSteps := 2000000) only [↓SD, SU, SB, simprocAttr, ir_spec_l15In, av_Node, map_len, hem, het, F13, F5, F8, F7, F15, J0, J1]
  exact ⟨hec, by omega, by unfold maxLen; omega⟩
 ·have F13 : (n.kind = 13) = False := eq_false (by omega)
  have F5 : (n.kind = 5) = True := eq_true (by omega)
  have F8 : (n.kind = 8) = False := eq_false (by omega)
  have F7 : (n.kind = 7) = False := eq_false (by omega)
  have F15 : (n.kind = 15) = False := eq_false (by omega)
  have J0 : 0 = 0 := rfl
  have J1 : 0 = 0 := rfl
  have hie : innerE n i env = env ++ [n.s] := by unfold innerE; rw [if_neg (by omega), if_pos (by omega)]
  have hpk : (env ++ [n.s]).map (av : ByteArray → AV) = env.map av ++ [.str n.s] := by rw [List.map_append]; rfl
  have hm2 : ∀ hp, (env.map (av : ByteArray → AV) ++ [AV.str n.s]).map (AV.pur hp) = env.map av ++ [AV.str n.s] := fun hp => by rw [List.map_append, hem]; rfl
  have hl2 : (env.map (av : ByteArray → AV) ++ [AV.str n.s]).length = env.length + 1 := by simp
  have ht2 : List.take (env.length + 1) (env.map (av : ByteArray → AV) ++ [AV.str n.s]) = env.map av ++ [AV.str n.s] := List.take_of_length_le (by omega)
  rw [hie, hpk]
  simp +contextual -dsimp (maxSteps := 2000000) only [↓SD, SU, SB, simprocAttr, ir_spec_l15In, av_Node, map_len, hem, het, F13, F5, F8, F7, F15, J0, J1, hm2, hl2, ht2, Nat.le_refl]
  exact ⟨⟨hec, by omega, by unfold maxLen; omega⟩, by omega, by unfold maxLen; omega⟩
 ·have F13 : (n.kind = 13) = False := eq_false (by omega)
  have F5 : (n.kind = 5) = False := eq_false (by omega)
  have F8 : (n.kind = 8) = True := eq_true (by omega)
  have F7 : (n.kind = 7) = False := eq_false (by omega)
  have F15 : (n.kind = 15) = False := eq_false (by omega)
  have J0 : 0 = 0 := rfl
  have J1 : 0 = 0 := rfl
  have hie : innerE n i env = env ++ [n.s] := by unfold innerE; rw [if_neg (by omega), if_pos (by omega)]
  have hpk : (env ++ [n.s]).map (av : ByteArray → AV) = env.map av ++ [.str n.s] := by rw [List.map_append]; rfl
  have hm2 : ∀ hp, (env.map (av : ByteArray → AV) ++ [AV.str n.s]).map (AV.pur hp) = env.map av ++ [AV.str n.s] := fun hp => by rw [List.map_append, hem]; rfl
  have hl2 : (env.map (av : ByteArray → AV) ++ [AV.str n.s]).length = env.length + 1 := by simp
  have ht2 : List.take (env.length + 1) (env.map (av : ByteArray → AV) ++ [AV.str n.s]) = env.map av ++ [AV.str n.s] := List.take_of_length_le (by omega)
  rw [hie, hpk]
  simp +contextual -dsimp (maxSteps := 2000000) only [↓SD, SU, SB, simprocAttr, ir_spec_l15In, av_Node, map_len, hem, het, F13, F5, F8, F7, F15, J0, J1, hm2, hl2, ht2, Nat.le_refl]
  exact ⟨⟨hec, by omega, by unfold maxLen; omega⟩, by omega, by unfold maxLen; omega⟩
 ·have F13 : (n.kind = 13) = False := eq_false (by omega)
  have F5 : (n.kind = 5) = False := eq_false (by omega)
  have F8 : (n.kind = 8) = False := eq_false (by omega)
  have F7 : (n.kind = 7) = True := eq_true (by omega)
  have F15 : (n.kind = 15) = False := eq_false (by omega)
  have J0 : 0 = 0 := rfl
  have J1 : ((i : Int) = 1) = True := eq_true (by omega)
  have hie : innerE n i env = env ++ [n.s] := by unfold innerE; rw [if_neg (by omega), if_pos (by omega)]
  have hpk : (env ++ [n.s]).map (av : ByteArray → AV) = env.map av ++ [.str n.s] := by rw [List.map_append]; rfl
  have hm2 : ∀ hp, (env.map (av : ByteArray → AV) ++ [AV.str n.s]).map (AV.pur hp) = env.map av ++ [AV.str n.s] := fun hp => by rw [List.map_append, hem]; rfl
  have hl2 : (env.map (av : ByteArray → AV) ++ [AV.str n.s]).length = env.length + 1 := by simp
  have ht2 : List.take (env.length + 1) (env.map (av : ByteArray → AV) ++ [AV.str n.s]) = env.map av ++ [AV.str n.s] := List.take_of_length_le (by omega)
  rw [hie, hpk]
  simp +contextual -dsimp (maxSteps := 2000000) only [↓SD, SU, SB, simprocAttr, ir_spec_l15In, av_Node, map_len, hem, het, F13, F5, F8, F7, F15, J0, J1, hm2, hl2, ht2, Nat.le_refl]
  exact ⟨⟨hec, by omega, by unfold maxLen; omega⟩, by omega, by unfold maxLen; omega⟩
 ·have F13 : (n.kind = 13) = False := eq_false (by omega)
  have F5 : (n.kind = 5) = False := eq_false (by omega)
  have F8 : (n.kind = 8) = False := eq_false (by omega)
  have F7 : (n.kind = 7) = False := eq_false (by omega)
  have F15 : (n.kind = 15) = True := eq_true (by omega)
  have J0 : 0 = 0 := rfl
  have J1 : ((i : Int) = 1) = True := eq_true (by omega)
  have hie : innerE n i env = env ++ [n.s] := by unfold innerE; rw [if_neg (by omega), if_pos (by omega)]
  have hpk : (env ++ [n.s]).map (av : ByteArray → AV) = env.map av ++ [.str n.s] := by rw [List.map_append]; rfl
  have hm2 : ∀ hp, (env.map (av : ByteArray → AV) ++ [AV.str n.s]).map (AV.pur hp) = env.map av ++ [AV.str n.s] := fun hp => by rw [List.map_append, hem]; rfl
  have hl2 : (env.map (av : ByteArray → AV) ++ [AV.str n.s]).length = env.length + 1 := by simp
  have ht2 : List.take (env.length + 1) (env.map (av : ByteArray → AV) ++ [AV.str n.s]) = env.map av ++ [AV.str n.s] := List.take_of_length_le (by omega)
  rw [hie, hpk]
  simp +contextual -dsimp (maxSteps := 2000000) only [↓SD, SU, SB, simprocAttr, ir_spec_l15In, av_Node, map_len, hem, het, F13, F5, F8, F7, F15, J0, J1, hm2, hl2, ht2, Nat.le_refl]
  exact ⟨⟨hec, by omega, by unfold maxLen; omega⟩, by omega, by unfold maxLen; omega⟩
 ·have F13 : (n.kind = 13) = False := eq_false (by omega)
  have F5 : (n.kind = 5) = False := eq_false (by omega)
  have F8 : (n.kind = 8) = False := eq_false (by omega)
  have F7 : (n.kind = 7) = False := eq_false (by omega)
  have F15 : (n.kind = 15) = False := eq_false (by omega)
  have J0 : 0 = 0 := rfl
  have J1 : ((i : Int) = 1) = True := eq_true (by omega)
  have hie : innerE n i env = env := by unfold innerE; rw [if_neg (by omega), if_neg (by omega)]
  rw [hie]
  simp +contextual -dsimp (maxSteps := 2000000) only [↓SD, SU, SB, simprocAttr, ir_spec_l15In, av_Node, map_len, hem, het, F13, F5, F8, F7, F15, J0, J1]
  exact ⟨hec, by omega, by unfold maxLen; omega⟩
 ·have F13 : (n.kind = 13) = False := eq_false (by omega)
  have F5 : (n.kind = 5) = False := eq_false (by omega)
  have F8 : (n.kind = 8) = False := eq_false (by omega)
  have F7 : 0 = 0 := rfl
  have F15 : 0 = 0 := rfl
  have J0 : 0 = 0 := rfl
  have J1 : ((i : Int) = 1) = False := eq_false (by omega)
  have hie : innerE n i env = env := by unfold innerE; rw [if_neg (by omega), if_neg (by omega)]
  rw [hie]
  simp +contextual -dsimp (maxSteps := 2000000) only [↓SD, SU, SB, simprocAttr, ir_spec_l15In, av_Node, map_len, hem, het, F13, F5, F8, F7, F15, J0, J1]
  exact ⟨hec, by omega, by unfold maxLen; omega⟩
end Go.Proofs.YtjifpdcflankpaaGreat

namespace Go.Proofs.YtjifpdcflankpaaGreat
open Go.RowKit Go.Proofs.YtjifpdcflankpaaGreat.Av Go.Proofs.YtjifpdcflankpaaGreat.Ml
open Go.Proofs.YtjifpdcflankpaaGreat.Av.AVal (av)

structure CwS where
 j : Nat
 u : Nat
 w : Nat
theorem coreN_kind (n : Node) (env : List ByteArray) : (coreN n env).kind = n.kind ∧ (coreN n env).pos = 0 ∧ (coreN n env).kids = n.kids ∧ (coreN n env).pats = n.pats.map renX := by
 unfold coreN
 split
 ·split <;> exact ⟨rfl, rfl, rfl, rfl⟩
 ·exact ⟨rfl, rfl, rfl, rfl⟩
set_option maxHeartbeats 4000000 in
theorem l15Core_ok : ∀ (t : Tr), t.ok → ∀ (env : List ByteArray), env.length + t.wt ≤ 4100000000 → CallsF Tryz.prog 23 [av (Sub.mk t), .sl (env.map av)] (.tup [av (Sub.mk (coreS t env)), .bool (coreB t env)]) := by
 refine Tr.ind fun n ks ih hok env hb => ?_
 refine ir_spec_l15Core.F rfl (by simp; exact ⟨AVal.clean _, lav_clean env⟩) (AvPure.tup (by simp; exact ⟨AVal.clean _, AvPure.bool _⟩)) ?_
 rw [Tr.ok] at hok
 obtain ⟨⟨ht3, ht13, hbn⟩, hoks⟩ := hok
 have hbp : Bulk.bulk n.pats ≤ Bulk.bulk n := by simp only [Bulk.bulk]; omega
 have hpl := bulk_length n.pats
 have hwl := wts_len ks
 have hb2 := hb
 rw [Tr.wt] at hb2
 rw [coreS, coreB]
 obtain ⟨A, hA⟩ : ∃ A : Int, A = (coreN n env).n := ⟨_, rfl⟩
 obtain ⟨B, hB⟩ : ∃ B, B = (coreN n env).s := ⟨_, rfl⟩
 obtain ⟨b0, hb0⟩ : ∃ b0, b0 = knownB n env := ⟨_, rfl⟩
 have hN := coreN_kind n env
 have hav : av (Sub.mk (Tr.mk (coreN n env) (coreSs n 0 ks env))) = .agg [.int .i64 n.kind, .int .i64 0, .int .i64 A, .str B, .sl (n.kids.map av), .sl ((n.pats.map renX).map av), .sl (((coreSs n 0 ks env).map Sub.mk).map av)] := by
  rw [av_Sub, hN.1, hN.2.1, hN.2.2.1, hN.2.2.2, ← hA, ← hB]
 rw [hav, ← hb0]
 have CB := l15Binds_ok n.kind
 have CC := l15Count_ok env n.s (by omega)
 have CG := l15Given_ok n.s
 have hbb : bindB n.kind = bindsK n.kind := by simp [bindB, bindKs, bindsK, Bool.or_assoc]
 rw [hbb] at CB
 have hil : (innA n).length = n.pats.length := List.length_map _
 have hcase : (n.kind = 3 ∧ ∃ k, lastIx n.s env = some k) ∨ (n.kind = 3 ∧ lastIx n.s env = none) ∨ (¬ n.kind = 3 ∧ bindsK n.kind = true) ∨ (¬ n.kind = 3 ∧ bindsK n.kind = false) := by
  by_cases h3 : n.kind = 3
  ·cases lastIx n.s env with
   | some k => exact .inl ⟨h3, k, rfl⟩
   | none => exact .inr (.inl ⟨h3, rfl⟩)
  ·cases bindsK n.kind
   ·exact .inr (.inr (.inr ⟨h3, rfl⟩))
   ·exact .inr (.inr (.inl ⟨h3, rfl⟩))
 rcases hcase with ⟨h3, k, hi⟩ | ⟨h3, hi⟩ | ⟨h3, hbk⟩ | ⟨h3, hbk⟩
 case' inl =>
  have hkb : bindsK n.kind = false := by rw [h3]; rfl
  rw [hkb] at CB
  rw [coreN, if_pos h3, hi] at hA hB
  rw [knownB, if_pos h3, hi] at hb0
  rw [hi] at CC
  simp only [Option.isSome_some, Bool.true_or] at hA hB hb0
  have hk0 : (0 : Int) ≤ (k : Int) := by omega
  simp +contextual -dsimp (maxSteps := 2000000) only [↓SD, SU, SB, simprocAttr, ir_spec_l15Core, av_Sub, map_len]
  intro v4 v6
  refine aCallK_of _ CB ?_
  simp +contextual -dsimp (maxSteps := 2000000) only [↓SD, SU, SB, simprocAttr, h3]
  refine aCallK_of _ CC ?_
  simp +contextual -dsimp (maxSteps := 2000000) only [↓SD, SU, SB, simprocAttr, countV]
  intro v50
  rw [map_len]
  refine aLoop_goes (X := CwS) (fun x => ⟨[(1, .sl (env.map av)), (2, .obj [.int .i64 n.kind, .int .i64 n.pos, .int .i64 n.n, .str n.s, .sl (n.kids.map av), .sl (n.pats.map av), .sl ((ks.map Sub.mk).map av)]), (4, .ptr 4 v4 0 0), (6, .ptr 6 v6 0 0), (7, .str n.s), (8, .bool b0), (10, .row 50 x.u x.j), (53, .sl (n.pats.map av)), (54, .int .i64 n.pats.length), (55, .int .i64 x.j)], [(4, ⟨v4, false, 47, 7, [.agg [.int .i64 0, .int .i64 0, .int .i64 0, .str (bs []), .nils, .nils, .nils]]⟩), (6, ⟨v6, false, 47, 7, [.agg [.int .i64 n.kind, .int .i64 0, .int .i64 A, .str B, .sl (n.kids.map av), .row 73 x.w x.j, .nils]]⟩), (50, ⟨x.u, false, 83, 1, (innA n).take x.j⟩), (73, ⟨x.w, false, 89, 1, ((n.pats.take x.j).map renX).map av⟩)]⟩) (fun x => x.j ≤ n.pats.length) (fun x => n.pats.length - x.j) ?_ ?_
  ·refine Goes.adoptB 6 0 5 73 89 1 rfl rfl Nat.zero_lt_one rfl (by decide) fun w => ?_
   exact Goes.le ⟨⟨0, v50, w⟩, Nat.zero_le _, rfl⟩ (by simp +contextual -dsimp only [↓SD, SU, SB, simprocAttr, hA, hB, hb0]) (by simp +contextual -dsimp only [↓SD, SU, SB, simprocAttr, hA, hB, hb0, List.take_zero, List.map_nil])
 case' inr.inl =>
  have hkb : bindsK n.kind = false := by rw [h3]; rfl
  rw [hkb] at CB
  rw [coreN, if_pos h3, hi] at hA hB
  rw [knownB, if_pos h3, hi] at hb0
  rw [hi] at CC
  simp only [Option.isSome_none, Bool.false_or] at hA hB hb0
  simp +contextual -dsimp (maxSteps := 2000000) only [↓SD, SU, SB, simprocAttr, ir_spec_l15Core, av_Sub, map_len]
  intro v4 v6
  refine aCallK_of _ CB ?_
  simp +contextual -dsimp (maxSteps := 2000000) only [↓SD, SU, SB, simprocAttr, h3]
  refine aCallK_of _ CC ?_
  simp +contextual -dsimp (maxSteps := 2000000) only [↓SD, SU, SB, simprocAttr, countV]
  refine aCallK_of _ CG ?_
  simp +contextual -dsimp (maxSteps := 2000000) only [↓SD, SU, SB, simprocAttr]
  intro v50
  rw [map_len]
  refine aLoop_goes (X := CwS) (fun x => ⟨[(1, .sl (env.map av)), (2, .obj [.int .i64 n.kind, .int .i64 n.pos, .int .i64 n.n, .str n.s, .sl (n.kids.map av), .sl (n.pats.map av), .sl ((ks.map Sub.mk).map av)]), (4, .ptr 4 v4 0 0), (6, .ptr 6 v6 0 0), (7, .str n.s), (8, .bool b0), (10, .row 50 x.u x.j), (53, .sl (n.pats.map av)), (54, .int .i64 n.pats.length), (55, .int .i64 x.j)], [(4, ⟨v4, false, 47, 7, [.agg [.int .i64 0, .int .i64 0, .int .i64 0, .str (bs []), .nils, .nils, .nils]]⟩), (6, ⟨v6, false, 47, 7, [.agg [.int .i64 n.kind, .int .i64 0, .int .i64 A, .str B, .sl (n.kids.map av), .row 73 x.w x.j, .nils]]⟩), (50, ⟨x.u, false, 83, 1, (innA n).take x.j⟩), (73, ⟨x.w, false, 89, 1, ((n.pats.take x.j).map renX).map av⟩)]⟩) (fun x => x.j ≤ n.pats.length) (fun x => n.pats.length - x.j) ?_ ?_
  ·refine Goes.adoptB 6 0 5 73 89 1 rfl rfl Nat.zero_lt_one rfl (by decide) fun w => ?_
   exact Goes.le ⟨⟨0, v50, w⟩, Nat.zero_le _, rfl⟩ (by simp +contextual -dsimp only [↓SD, SU, SB, simprocAttr, hA, hB, hb0]) (by simp +contextual -dsimp only [↓SD, SU, SB, simprocAttr, hA, hB, hb0, List.take_zero, List.map_nil])
 case' inr.inr.inl =>
  rw [hbk] at CB
  rw [coreN, if_neg h3] at hA hB
  rw [knownB, if_neg h3] at hb0
  simp only [hbk, if_true] at hA hB hb0
  simp +contextual -dsimp (maxSteps := 2000000) only [↓SD, SU, SB, simprocAttr, ir_spec_l15Core, av_Sub, map_len]
  intro v4 v6
  refine aCallK_of _ CB ?_
  simp +contextual -dsimp (maxSteps := 2000000) only [↓SD, SU, SB, simprocAttr, h3]
  intro v50
  rw [map_len]
  refine aLoop_goes (X := CwS) (fun x => ⟨[(1, .sl (env.map av)), (2, .obj [.int .i64 n.kind, .int .i64 n.pos, .int .i64 n.n, .str n.s, .sl (n.kids.map av), .sl (n.pats.map av), .sl ((ks.map Sub.mk).map av)]), (4, .ptr 4 v4 0 0), (6, .ptr 6 v6 0 0), (7, .str n.s), (8, .bool b0), (10, .row 50 x.u x.j), (53, .sl (n.pats.map av)), (54, .int .i64 n.pats.length), (55, .int .i64 x.j)], [(4, ⟨v4, false, 47, 7, [.agg [.int .i64 0, .int .i64 0, .int .i64 0, .str (bs []), .nils, .nils, .nils]]⟩), (6, ⟨v6, false, 47, 7, [.agg [.int .i64 n.kind, .int .i64 0, .int .i64 A, .str B, .sl (n.kids.map av), .row 73 x.w x.j, .nils]]⟩), (50, ⟨x.u, false, 83, 1, (innA n).take x.j⟩), (73, ⟨x.w, false, 89, 1, ((n.pats.take x.j).map renX).map av⟩)]⟩) (fun x => x.j ≤ n.pats.length) (fun x => n.pats.length - x.j) ?_ ?_
  ·refine Goes.adoptB 6 0 5 73 89 1 rfl rfl Nat.zero_lt_one rfl (by decide) fun w => ?_
   exact Goes.le ⟨⟨0, v50, w⟩, Nat.zero_le _, rfl⟩ (by simp +contextual -dsimp only [↓SD, SU, SB, simprocAttr, hA, hB, hb0]) (by simp +contextual -dsimp only [↓SD, SU, SB, simprocAttr, hA, hB, hb0, List.take_zero, List.map_nil])
 case' inr.inr.inr =>
  rw [hbk] at CB
  rw [coreN, if_neg h3] at hA hB
  rw [knownB, if_neg h3] at hb0
  simp only [hbk, Bool.false_eq_true, if_false] at hA hB hb0
  simp +contextual -dsimp (maxSteps := 2000000) only [↓SD, SU, SB, simprocAttr, ir_spec_l15Core, av_Sub, map_len]
  intro v4 v6
  refine aCallK_of _ CB ?_
  simp +contextual -dsimp (maxSteps := 2000000) only [↓SD, SU, SB, simprocAttr, h3]
  intro v50
  rw [map_len]
  refine aLoop_goes (X := CwS) (fun x => ⟨[(1, .sl (env.map av)), (2, .obj [.int .i64 n.kind, .int .i64 n.pos, .int .i64 n.n, .str n.s, .sl (n.kids.map av), .sl (n.pats.map av), .sl ((ks.map Sub.mk).map av)]), (4, .ptr 4 v4 0 0), (6, .ptr 6 v6 0 0), (7, .str n.s), (8, .bool b0), (10, .row 50 x.u x.j), (53, .sl (n.pats.map av)), (54, .int .i64 n.pats.length), (55, .int .i64 x.j)], [(4, ⟨v4, false, 47, 7, [.agg [.int .i64 0, .int .i64 0, .int .i64 0, .str (bs []), .nils, .nils, .nils]]⟩), (6, ⟨v6, false, 47, 7, [.agg [.int .i64 n.kind, .int .i64 0, .int .i64 A, .str B, .sl (n.kids.map av), .row 73 x.w x.j, .nils]]⟩), (50, ⟨x.u, false, 83, 1, (innA n).take x.j⟩), (73, ⟨x.w, false, 89, 1, ((n.pats.take x.j).map renX).map av⟩)]⟩) (fun x => x.j ≤ n.pats.length) (fun x => n.pats.length - x.j) ?_ ?_
  ·refine Goes.adoptB 6 0 5 73 89 1 rfl rfl Nat.zero_lt_one rfl (by decide) fun w => ?_
   exact Goes.le ⟨⟨0, v50, w⟩, Nat.zero_le _, rfl⟩ (by simp +contextual -dsimp only [↓SD, SU, SB, simprocAttr, hA, hB, hb0]) (by simp +contextual -dsimp only [↓SD, SU, SB, simprocAttr, hA, hB, hb0, List.take_zero, List.map_nil])
 all_goals
  clear hA hB hb0 CB CC CG hbb
  rintro ⟨j, u, w⟩ hj
  dsimp only at hj ⊢
  by_cases hlt : j < n.pats.length
  ·have e1 := getD_map av n.pats j .top hlt
   have hbq := bulk_mem (List.getElem_mem hlt)
   have hbq2 : Bulk.bulk n.pats[j] = Bulk.bulk n.pats[j].nodes + 1 := rfl
   have CP := l15Pat_ok n.pats[j].nodes (by omega)
   have hti : (innA n).take (j + 1) = (innA n).take j ++ [.sl ((varsOf n.pats[j].nodes).map av)] := by
    rw [List.take_succ_eq_append_getElem (by omega)]; unfold innA; simp
   have htr : ((n.pats.take (j + 1)).map renX).map (av : Pat → AV) = ((n.pats.take j).map renX).map av ++ [.agg [.sl ((n.pats[j].nodes.map renN).map av)]] := by
    rw [List.take_succ_eq_append_getElem hlt, List.map_append, List.map_append]; rfl
   have hIl : ((innA n).take j).length = j := by simp; omega
   have hRl : (((n.pats.take j).map renX).map (av : Pat → AV)).length = j := by simp; omega
   generalize (innA n).take j = I at *
   generalize ((n.pats.take j).map renX).map (av : Pat → AV) = R at *
   generalize n.pats[j] = q at *
   have hIt : List.take j I = I := List.take_of_length_le (by omega)
   have hRt : List.take j R = R := List.take_of_length_le (by omega)
   simp +contextual -dsimp (maxSteps := 2000000) only [↓SD, SU, SB, simprocAttr, hlt, e1, map_len, av_Pat]
   intro v12
   refine aCallK_of _ CP ?_
   simp +contextual -dsimp (maxSteps := 2000000) only [↓SD, SU, SB, simprocAttr, hIl, hIt, hRl, hRt, map_nop]
   intro v13
   refine ⟨⟨by omega, by unfold maxLen; omega⟩, fun u' => ⟨⟨by omega, by unfold maxLen; omega⟩, fun w' => ⟨by omega, Goes.le ⟨⟨j + 1, u', w'⟩, ⟨hlt, (by first | omega | (simp only; omega))⟩, rfl⟩ (by simp +contextual -dsimp only [↓SD, SU, SB, simprocAttr, Int.natCast_add]) (by simp +contextual -dsimp only [↓SD, SU, SB, simprocAttr, hti, htr])⟩⟩⟩
  ·obtain rfl : j = n.pats.length := by omega
   have hIt : (innA n).take n.pats.length = innA n := List.take_of_length_le (by omega)
   have hIm : ∀ hp, (innA n).map (AV.pur hp) = innA n := fun hp => by
    refine (List.map_congr_left (g := id) fun x hx => ?_).trans (List.map_id _)
    obtain ⟨q, _, rfl⟩ := List.mem_map.1 hx
    rfl
   rw [hIt, List.take_length]
   have hRl : ((n.pats.map renX).map (av : Pat → AV)).length = n.pats.length := by simp
   have hRt : List.take n.pats.length ((n.pats.map renX).map (av : Pat → AV)) = (n.pats.map renX).map av := List.take_of_length_le (by omega)
   have hRm : ∀ hp, ((n.pats.map renX).map (av : Pat → AV)).map (AV.pur hp) = (n.pats.map renX).map av := fun hp => map_nop _ hp
   have hkl : ((ks.map Sub.mk).map (av : Sub → AV)).length = ks.length := by simp
   simp +contextual -dsimp (maxSteps := 2000000) only [↓SD, SU, SB, simprocAttr, Nat.lt_irrefl]
   refine ghost_of (Goes.frz 50 (Goes.pur 10 (Goes.here ?_)))
   simp +contextual -dsimp (maxSteps := 2000000) only [↓SD, SU, SB, simprocAttr, hIm, hil, hIt, Nat.le_refl, hkl]
   refine aLoop_goes (X := Nat × Nat) (fun x => ⟨[(1, .sl (env.map av)), (2, .obj [.int .i64 n.kind, .int .i64 n.pos, .int .i64 n.n, .str n.s, .sl (n.kids.map av), .sl (n.pats.map av), .sl ((ks.map Sub.mk).map av)]), (4, .ptr 4 v4 0 0), (6, .ptr 6 v6 0 0), (7, .str n.s), (8, .bool (b0 && coreBs n 0 (ks.take x.1) env)), (10, .sl (innA n)), (79, .int .i64 ks.length), (80, .int .i64 x.1)], [(4, ⟨v4, false, 47, 7, [.agg [.int .i64 0, .int .i64 0, .int .i64 0, .str (bs []), .nils, .nils, .nils]]⟩), (6, ⟨v6, false, 47, 7, [.agg [.int .i64 n.kind, .int .i64 0, .int .i64 A, .str B, .sl (n.kids.map av), .row 73 w n.pats.length, .row 103 x.2 x.1]]⟩), (73, ⟨w, false, 89, 1, (n.pats.map renX).map av⟩), (103, ⟨x.2, false, 47, 7, ((coreSs n 0 (ks.take x.1) env).map Sub.mk).map av⟩)]⟩) (fun x => x.1 ≤ ks.length) (fun x => ks.length - x.1) ?_ ?_
   ·refine Goes.adoptB 6 0 6 103 47 7 rfl rfl Nat.zero_lt_one rfl (by decide) fun z => ?_
    exact Goes.le ⟨(0, z), Nat.zero_le _, rfl⟩ (by simp +contextual -dsimp only [↓SD, SU, SB, simprocAttr, List.take_zero, coreBs, Bool.and_true]) (by simp +contextual -dsimp only [↓SD, SU, SB, simprocAttr, List.take_zero, coreSs, List.map_nil])
   rintro ⟨i, z⟩ hi
   dsimp only at hi ⊢
   by_cases hlt2 : i < ks.length
   ·have hlt3 : i < (ks.map Sub.mk).length := by rw [List.length_map]; exact hlt2
    have e1 := getD_map av (ks.map Sub.mk) i .top hlt3
    rw [List.getElem_map] at e1
    have ht : ks.take (i + 1) = ks.take i ++ [ks[i]] := List.take_succ_eq_append_getElem hlt2
    have hti : (ks.take i).length = i := by simp; omega
    have hw := wts_mem (List.getElem_mem hlt2)
    have hin := innerE_len n i env
    have CI := l15In_ok n i env (by omega) (fun h13 => by have := ht13 h13; omega) (by omega)
    have CR := ih ks[i] (List.getElem_mem hlt2) (oks_mem hoks (List.getElem_mem hlt2)) (innerE n i env) (by omega)
    have hS : ((coreSs n 0 (ks.take (i + 1)) env).map Sub.mk).map (av : Sub → AV) = ((coreSs n 0 (ks.take i) env).map Sub.mk).map av ++ [av (Sub.mk (coreS ks[i] (innerE n i env)))] := by
     rw [ht, coreSs_snoc, List.map_append, List.map_append, hti, Nat.zero_add]; rfl
    have hBs : coreBs n 0 (ks.take (i + 1)) env = (coreBs n 0 (ks.take i) env && coreB ks[i] (innerE n i env)) := by
     rw [ht, coreBs_snoc, hti, Nat.zero_add]
    have hSl : (((coreSs n 0 (ks.take i) env).map Sub.mk).map (av : Sub → AV)).length = i := by simp [coreSs_len]; omega
    rw [av_Node] at CI
    generalize ((coreSs n 0 (ks.take i) env).map Sub.mk).map (av : Sub → AV) = SS at *
    generalize coreBs n 0 (ks.take i) env = bb at *
    generalize coreB ks[i] (innerE n i env) = bk at *
    generalize coreS ks[i] (innerE n i env) = tk at *
    generalize innerE n i env = E1 at *
    generalize ks[i] = k at *
    have hSt : List.take i SS = SS := List.take_of_length_le (by omega)
    have hmn : ∀ hp, (env.map (av : ByteArray → AV)).map (AV.pur hp) = env.map av := fun hp => map_nop _ hp
    have hmi : ∀ hp, (E1.map (av : ByteArray → AV)).map (AV.pur hp) = E1.map av := fun hp => map_nop _ hp
    obtain ⟨c, hc⟩ : ∃ c, c = (b0 && bb) := ⟨_, rfl⟩
    have hBs2 : (b0 && coreBs n 0 (ks.take (i + 1)) env) = (c && bk) := by rw [hBs, hc, Bool.and_assoc]
    rw [← hc]
    clear hc hBs
    cases c
    all_goals
     simp +contextual -dsimp (maxSteps := 2000000) only [↓SD, SU, SB, simprocAttr, hlt2, hkl, e1, sub_len, sub_agg, sub_pur, sub_purA, sub_ok]
     refine aCallK_of _ CI ?_
     simp +contextual -dsimp (maxSteps := 2000000) only [↓SD, SU, SB, simprocAttr, sub_purA, hmi]
     refine aCallK_of _ CR ?_
     simp +contextual -dsimp (maxSteps := 2000000) only [↓SD, SU, SB, simprocAttr, sub_len, sub_agg, sub_pur, sub_purA, sub_ok, elem1_ok, hSl, hSt]
     intro v16
     refine ⟨⟨by omega, by unfold maxLen; omega⟩, fun z' => ⟨by omega, Goes.le ⟨(i + 1, z'), ⟨hlt2, (by first | omega | (simp only; omega))⟩, rfl⟩ (by simp +contextual -dsimp only [↓SD, SU, SB, simprocAttr, Int.natCast_add, hBs2, Bool.true_and, Bool.false_and]) (by simp +contextual -dsimp only [↓SD, SU, SB, simprocAttr, hS])⟩⟩
   ·obtain rfl : i = ks.length := by omega
    rw [List.take_length]
    have hSl : (((coreSs n 0 ks env).map Sub.mk).map (av : Sub → AV)).length = ks.length := by simp [coreSs_len]
    have hSt : List.take ks.length (((coreSs n 0 ks env).map Sub.mk).map (av : Sub → AV)) = ((coreSs n 0 ks env).map Sub.mk).map av := List.take_of_length_le (by omega)
    have hSm : ∀ hp, (((coreSs n 0 ks env).map Sub.mk).map (av : Sub → AV)).map (AV.pur hp) = ((coreSs n 0 ks env).map Sub.mk).map av := fun hp => map_nop _ hp
    have hRm : ∀ hp, ((n.pats.map renX).map (av : Pat → AV)).map (AV.pur hp) = (n.pats.map renX).map av := fun hp => map_nop _ hp
    simp +contextual -dsimp (maxSteps := 2000000) only [↓SD, SU, SB, simprocAttr, Nat.lt_irrefl, hSl, hSt, hSm, hRl, hRt, hRm]
end Go.Proofs.YtjifpdcflankpaaGreat
