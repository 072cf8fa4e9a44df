/-
  THE GROUND OF DATA, in one text. Conditions: none.
-/
import Derived.Test.YtbcifdnfhoikiaaGreatBindsW
import Derived.Test.YtbcifdnfhoikiaaGreatSortH
import Derived.Test.YtbcifdnfhoikiaaGreatIrNames
import Derived.Test.YtbcifdnfhoikiaaGreatPackQ
import Derived.Test.YtbcifdnfhoikiaaGreatPackM

set_option linter.unusedVariables false
set_option linter.unusedSimpArgs false
namespace Go.Proofs.YtbcifdnfhoikiaaGreat
open Go.RowKit Go.Proofs.YtbcifdnfhoikiaaGreat.Av Go.Proofs.YtbcifdnfhoikiaaGreat.Ml
open Go.Proofs.YtbcifdnfhoikiaaGreat.Av.AVal (av)

def nodeNames (n : Node) : List ByteArray := (if n.kind = 3 ∨ bindB n.kind = true then [n.s] else []) ++ n.pats.flatMap fun q => varsOf q.nodes
def allNames (l : List Node) : List ByteArray := l.flatMap nodeNames
theorem flat_take {α β : Type} (f : α → List β) {l : List α} {k : Nat} (h : k < l.length) : (l.take (k + 1)).flatMap f = (l.take k).flatMap f ++ f l[k] := by
  rw [List.take_succ_eq_append_getElem h, List.flatMap_append]; simp
theorem flat_len {α β : Type} (f : α → List β) (l : List α) : (l.flatMap f).length = (l.map fun x => (f x).length).sum := by
  rw [List.length_flatMap]
theorem pats_names (l : List Pat) (k : Nat) : ((l.take k).flatMap fun q => varsOf q.nodes).length ≤ Bulk.bulk l := by
  rw [flat_len]; exact patsN_bulk l k
theorem node_names (n : Node) : (nodeNames n).length ≤ Bulk.bulk n := by
  have h := pats_names n.pats n.pats.length
  rw [List.take_length] at h
  have hb : Bulk.bulk n = Bulk.bulk n.kind + Bulk.bulk n.pos + Bulk.bulk n.n + Bulk.bulk n.s + Bulk.bulk n.kids + Bulk.bulk n.pats + 1 := rfl
  unfold nodeNames
  rw [List.length_append]
  split <;> simp only [List.length_cons, List.length_nil] <;> omega
theorem all_names (l : List Node) (k : Nat) : (allNames (l.take k)).length ≤ Bulk.bulk l := by
  unfold allNames
  rw [flat_len]; exact sum_le_bulk _ node_names l k


/-- a name put into a rising list -/
def lessS (a b : ByteArray) : Bool := Op.bytesLess a.toList b.toList
def insG (s : ByteArray) : List ByteArray → List ByteArray
  | [] => []
  | x :: r => if lessS s x = true then s :: x :: r else x :: insG s r
def putS (l : List ByteArray) (s : ByteArray) : List ByteArray := if l.any (fun x => decide (x = s)) = true then l else if l.any (lessS s) = true then insG s l else l ++ [s]
theorem insG_snoc (s x : ByteArray) : ∀ a, insG s (a ++ [x]) = insG s a ++ (if a.any (lessS s) = false ∧ lessS s x = true then [s, x] else [x])
  | [] => by
    by_cases h : lessS s x = true <;> simp [insG, h]
  | y :: r => by
    simp only [List.cons_append, insG, List.any_cons]
    split
    · rename_i h; simp [h]
    · rename_i h
      rw [insG_snoc s x r]
      simp [h]
theorem insG_none (s : ByteArray) : ∀ {a}, a.any (lessS s) = false → insG s a = a
  | [], _ => rfl
  | y :: r, h => by
    simp only [List.any_cons, Bool.or_eq_false_iff] at h
    simp only [insG]
    rw [if_neg (by rw [h.1]; decide), insG_none s h.2]
theorem insG_len (s : ByteArray) : ∀ a, (insG s a).length = a.length + (if a.any (lessS s) = true then 1 else 0)
  | [] => rfl
  | y :: r => by
    have ih := insG_len s r
    by_cases h : lessS s y = true
    · simp [insG, h]
    · simp only [insG, if_neg h, List.length_cons, ih]
      simp only [Bool.not_eq_true] at h
      simp only [List.any_cons, h, Bool.false_or]
      omega
theorem insG_mem (s y : ByteArray) : ∀ {a}, a.any (lessS s) = true → (y ∈ insG s a ↔ y = s ∨ y ∈ a)
  | [], h => by simp at h
  | x :: r, h => by
    simp only [insG]
    by_cases hx : lessS s x = true
    · rw [if_pos hx]; simp
    · rw [if_neg hx]
      simp only [List.any_cons, hx, Bool.false_or] at h
      simp only [List.mem_cons, insG_mem s y h]
      constructor
      · rintro (h | h | h) <;> simp [h]
      · rintro (h | h | h) <;> simp [h]
theorem putS_mem (s y : ByteArray) (l : List ByteArray) : y ∈ putS l s ↔ y = s ∨ y ∈ l := by
  unfold putS
  split
  · rename_i h
    simp only [List.any_eq_true, decide_eq_true_eq] at h
    obtain ⟨x, hx, rfl⟩ := h
    constructor
    · exact .inr
    · rintro (rfl | h)
      · exact hx
      · exact h
  · split
    · rename_i h; exact insG_mem s y h
    · simp [or_comm]
theorem putS_len (l : List ByteArray) (s : ByteArray) : (putS l s).length ≤ l.length + 1 := by
  unfold putS
  split
  · omega
  · split
    · rename_i h; rw [insG_len, if_pos h]; omega
    · simp
theorem fold_put (m : List ByteArray) : ∀ (l : List ByteArray) (y : ByteArray), y ∈ m.foldl putS l ↔ y ∈ m ∨ y ∈ l := by
  induction m with
  | nil => intro l y; simp
  | cons s m ih =>
    intro l y
    rw [List.foldl_cons, ih, putS_mem]
    simp only [List.mem_cons]
    constructor
    · rintro (h | h | h) <;> simp [h]
    · rintro ((h | h) | h) <;> simp [h]
theorem fold_len (m : List ByteArray) : ∀ (l : List ByteArray), (m.foldl putS l).length ≤ l.length + m.length := by
  induction m with
  | nil => intro l; simp
  | cons s m ih =>
    intro l
    rw [List.foldl_cons]
    have h1 := ih (putS l s)
    have h2 := putS_len l s
    simp only [List.length_cons]
    omega
end Go.Proofs.YtbcifdnfhoikiaaGreat


set_option linter.unusedVariables false
set_option linter.unusedSimpArgs false
set_option maxRecDepth 100000
namespace Go.Proofs.YtbcifdnfhoikiaaGreat
open Go.RowKit Go.Proofs.YtbcifdnfhoikiaaGreat.Av Go.Proofs.YtbcifdnfhoikiaaGreat.Ml
open Go.Proofs.YtbcifdnfhoikiaaGreat.Av.AVal (av)

theorem pats_take {l : List Pat} {k : Nat} (h : k < l.length) : (l.take (k + 1)).flatMap (fun q => varsOf q.nodes) = (l.take k).flatMap (fun q => varsOf q.nodes) ++ varsOf l[k].nodes := flat_take _ h
theorem names_take {l : List Node} {k : Nat} (h : k < l.length) : allNames (l.take (k + 1)) = allNames (l.take k) ++ nodeNames l[k] := flat_take _ h

def namesL (p : Program) : List ByteArray := dedS (sortS (allNames p.nodes))
def NamesPost (p : Program) (r : AV) (hp' : Hp) : Prop := ∃ v, r = .row 11 v (namesL p).length ∧ hp' = [(11, ⟨v, false, 9, 1, (namesL p ++ restS (sortS (allNames p.nodes))).map av⟩)]
theorem implNames_ok (p : Program) (hx : Bulk.bulk p ≤ 1048576) (hb : progB p = true) : CallsH Tryz.prog 9 [av p] [] (NamesPost p) := by
  obtain ⟨q1, q2, q3, q4⟩ := prog_small hx
  refine funH_impl_Names rfl ?_
  have C := implProgramOk_ok p hx
  rw [av_Program, hb] at C
  simp +contextual -dsimp only [↓SD, SU, SB, Nat.reduceAdd, Nat.reduceBEq, Nat.reduceEqDiff, Nat.reduceLeDiff, Nat.reduceLT, Nat.reduceSub, ↓reduceIte, zA, zI, zN, reduceCtorEq, Int.reduceToNat, zE, ir_impl_Names, rs_impl_Names, av_Program, map_len]
  refine aCallK_of _ C ?_
  simp +contextual -dsimp only [↓SD, SU, SB, Nat.reduceAdd, Nat.reduceBEq, Nat.reduceEqDiff, Nat.reduceLeDiff, Nat.reduceLT, Nat.reduceSub, ↓reduceIte, zA, zI, zN, reduceCtorEq, Int.reduceToNat, zE, map_len]
  intro v
  refine aLoop_of (X := Nat × Nat) (fun x => ⟨[(3, .row 11 x.2 (allNames (p.nodes.take x.1)).length), (13, .sl (p.nodes.map av)), (14, .int .i64 p.nodes.length), (15, .int .i64 x.1)], [(11, ⟨x.2, false, 9, 1, (allNames (p.nodes.take x.1)).map av⟩)]⟩) (fun x => x.1 ≤ p.nodes.length) (fun x => p.nodes.length - x.1) (0, v) (Nat.zero_le _) (by simp +contextual -dsimp only [↓SD, SU, SB, Nat.reduceAdd, Nat.reduceBEq, Nat.reduceEqDiff, Nat.reduceLeDiff, Nat.reduceLT, Nat.reduceSub, ↓reduceIte, zA, zI, zN, reduceCtorEq, Int.reduceToNat, zE, allNames, List.flatMap_nil]) (by simp +contextual -dsimp only [↓SD, SU, SB, Nat.reduceAdd, Nat.reduceBEq, Nat.reduceEqDiff, Nat.reduceLeDiff, Nat.reduceLT, Nat.reduceSub, ↓reduceIte, zA, zI, zN, reduceCtorEq, Int.reduceToNat, zE, allNames, List.flatMap_nil]) ?_
  rintro ⟨k, u⟩ hk
  simp only at hk
  by_cases hlt : k < p.nodes.length
  · have e := getD_map av p.nodes k .top hlt
    have hn1 := names_take hlt
    have hb0 := all_names p.nodes k
    have hb1 := all_names p.nodes (k + 1)
    obtain ⟨b1, b2, b3, b4⟩ := node_small q2 (List.getElem_mem hlt)
    rw [hn1, List.length_append] at hb1
    have C2 := bindsName_ok p.nodes[k]
    rw [av_Node] at C2
    have ht2 : List.take (allNames (p.nodes.take k)).length ((allNames (p.nodes.take k)).map (av : ByteArray → AV)) = (allNames (p.nodes.take k)).map av := List.take_of_length_le (by simp)
    generalize p.nodes[k] = n at *
    generalize allNames (p.nodes.take k) = L at *
    by_cases h3 : n.kind = 3
    · simp +contextual -dsimp only [↓SD, SU, SB, Nat.reduceAdd, Nat.reduceBEq, Nat.reduceEqDiff, Nat.reduceLeDiff, Nat.reduceLT, Nat.reduceSub, ↓reduceIte, zA, zI, zN, reduceCtorEq, Int.reduceToNat, zE, Int.reduceEq, Int.reduceLT, Int.reduceLE, Int.reduceNeg, Int.reduceAdd, Int.reduceSub, map_len, hlt, e, av_Node, h3, ht2]
      intro v5
      refine ⟨⟨by omega, by unfold maxLen; omega⟩, fun u1 => ?_⟩
      obtain ⟨M, hM⟩ : ∃ M, M = L ++ [n.s] := ⟨_, rfl⟩
      have hMn : nodeNames n = [n.s] ++ n.pats.flatMap (fun q => varsOf q.nodes) := by simp [nodeNames, *]
      have hMl : M.length + (n.pats.flatMap (fun q => varsOf q.nodes)).length ≤ Bulk.bulk p.nodes := by
        rw [hMn, List.length_append] at hb1; rw [hM, List.length_append]; omega
      have hfin : allNames (p.nodes.take (k + 1)) = M ++ n.pats.flatMap (fun q => varsOf q.nodes) := by rw [hn1, hMn, hM, List.append_assoc]
      refine aLoop_of (X := Nat × Nat) (fun x => ⟨[(3, .row 11 x.2 (M ++ (n.pats.take x.1).flatMap (fun q => varsOf q.nodes)).length), (13, .sl (p.nodes.map av)), (14, .int .i64 p.nodes.length), (15, .int .i64 k), (32, .sl (n.pats.map av)), (33, .int .i64 n.pats.length), (34, .int .i64 x.1)], [(11, ⟨x.2, false, 9, 1, (M ++ (n.pats.take x.1).flatMap (fun q => varsOf q.nodes)).map av⟩)]⟩) (fun x => x.1 ≤ n.pats.length) (fun x => n.pats.length - x.1) (0, u1) (Nat.zero_le _) (by simp +contextual -dsimp only [↓SD, SU, SB, Nat.reduceAdd, Nat.reduceBEq, Nat.reduceEqDiff, Nat.reduceLeDiff, Nat.reduceLT, Nat.reduceSub, ↓reduceIte, zA, zI, zN, reduceCtorEq, Int.reduceToNat, zE, List.flatMap_nil, hM, List.length_append]) (by simp +contextual -dsimp only [↓SD, SU, SB, Nat.reduceAdd, Nat.reduceBEq, Nat.reduceEqDiff, Nat.reduceLeDiff, Nat.reduceLT, Nat.reduceSub, ↓reduceIte, zA, zI, zN, reduceCtorEq, Int.reduceToNat, zE, List.flatMap_nil, hM, List.map_append, av_str]) ?_
      rintro ⟨j, u2⟩ hj
      simp only at hj
      by_cases hlj : j < n.pats.length
      · have e3 := getD_map av n.pats j .top hlj
        have hp1 := pats_take hlj
        have hp2 := pats_names n.pats j
        have hp3 := pats_names n.pats (j + 1)
        have hm3 := bulk_mem (List.getElem_mem hlj)
        rw [hp1, List.length_append] at hp3
        have hqn : Bulk.bulk n.pats[j] = Bulk.bulk n.pats[j].nodes + 1 := rfl
        have C3 := patNames_ok n.pats[j].nodes (by omega)
        generalize n.pats[j] = q at *
        obtain ⟨K, hK⟩ : ∃ K, K = M ++ (n.pats.take j).flatMap (fun q => varsOf q.nodes) := ⟨_, rfl⟩
        have hKl : K.length ≤ 2097152 := by rw [hK, List.length_append]; omega
        have hint : ∀ y ∈ (varsOf q.nodes).map (av : ByteArray → AV), y.cells.length = 1 := fun y hy => by obtain ⟨x, _, rfl⟩ := List.mem_map.1 hy; rfl
        have ht3 : List.take K.length (K.map (av : ByteArray → AV)) = K.map av := List.take_of_length_le (by simp)
        rw [← hK]
        simp +contextual -dsimp only [↓SD, SU, SB, Nat.reduceAdd, Nat.reduceBEq, Nat.reduceEqDiff, Nat.reduceLeDiff, Nat.reduceLT, Nat.reduceSub, ↓reduceIte, zA, zI, zN, reduceCtorEq, Int.reduceToNat, zE, Int.reduceEq, Int.reduceLT, Int.reduceLE, Int.reduceNeg, Int.reduceAdd, Int.reduceSub, map_len, hlj, e3, av_Pat]
        intro v7
        refine aCallK_of _ C3 ?_
        simp +contextual -dsimp only [↓SD, SU, SB, Nat.reduceAdd, Nat.reduceBEq, Nat.reduceEqDiff, Nat.reduceLeDiff, Nat.reduceLT, Nat.reduceSub, ↓reduceIte, zA, zI, zN, reduceCtorEq, Int.reduceToNat, zE, Int.reduceEq, Int.reduceLT, Int.reduceLE, Int.reduceNeg, Int.reduceAdd, Int.reduceSub, map_len, map_nop, ht3]
        refine ⟨⟨hint, by omega, by unfold maxLen; omega⟩, fun u3 => ⟨by omega, Goes.le ⟨(j + 1, u3), ⟨hlj, (by first | omega | (simp only; omega))⟩, rfl⟩ (by simp +contextual -dsimp only [↓SD, SU, SB, Nat.reduceAdd, Nat.reduceBEq, Nat.reduceEqDiff, Nat.reduceLeDiff, Nat.reduceLT, Nat.reduceSub, ↓reduceIte, zA, zI, zN, reduceCtorEq, Int.reduceToNat, zE, Int.natCast_add, hp1, hK, List.length_append, ← List.append_assoc, Nat.add_assoc]) (by simp +contextual -dsimp only [↓SD, SU, SB, Nat.reduceAdd, Nat.reduceBEq, Nat.reduceEqDiff, Nat.reduceLeDiff, Nat.reduceLT, Nat.reduceSub, ↓reduceIte, zA, zI, zN, reduceCtorEq, Int.reduceToNat, zE, hp1, hK, List.map_append, ← List.append_assoc])⟩⟩
      · obtain rfl : j = n.pats.length := by omega
        rw [List.take_length]
        simp +contextual -dsimp only [↓SD, SU, SB, Nat.reduceAdd, Nat.reduceBEq, Nat.reduceEqDiff, Nat.reduceLeDiff, Nat.reduceLT, Nat.reduceSub, ↓reduceIte, zA, zI, zN, reduceCtorEq, Int.reduceToNat, zE, Int.reduceEq, Int.reduceLT, Int.reduceLE, Int.reduceNeg, Int.reduceAdd, Int.reduceSub, map_len, Nat.lt_irrefl]
        exact ⟨by omega, Goes.le ⟨(k + 1, u2), ⟨hlt, (by first | omega | (simp only; omega))⟩, rfl⟩ (by simp +contextual -dsimp only [↓SD, SU, SB, Nat.reduceAdd, Nat.reduceBEq, Nat.reduceEqDiff, Nat.reduceLeDiff, Nat.reduceLT, Nat.reduceSub, ↓reduceIte, zA, zI, zN, reduceCtorEq, Int.reduceToNat, zE, Int.natCast_add, hfin]) (by simp +contextual -dsimp only [↓SD, SU, SB, Nat.reduceAdd, Nat.reduceBEq, Nat.reduceEqDiff, Nat.reduceLeDiff, Nat.reduceLT, Nat.reduceSub, ↓reduceIte, zA, zI, zN, reduceCtorEq, Int.reduceToNat, zE, hfin])⟩
    cases hbd : bindB n.kind with
    | true =>
      rw [hbd] at C2
      simp +contextual -dsimp only [↓SD, SU, SB, Nat.reduceAdd, Nat.reduceBEq, Nat.reduceEqDiff, Nat.reduceLeDiff, Nat.reduceLT, Nat.reduceSub, ↓reduceIte, zA, zI, zN, reduceCtorEq, Int.reduceToNat, zE, Int.reduceEq, Int.reduceLT, Int.reduceLE, Int.reduceNeg, Int.reduceAdd, Int.reduceSub, map_len, hlt, e, av_Node, h3, ht2]
      intro v5
      refine aCallK_of _ C2 ?_
      simp +contextual -dsimp only [↓SD, SU, SB, Nat.reduceAdd, Nat.reduceBEq, Nat.reduceEqDiff, Nat.reduceLeDiff, Nat.reduceLT, Nat.reduceSub, ↓reduceIte, zA, zI, zN, reduceCtorEq, Int.reduceToNat, zE, Int.reduceEq, Int.reduceLT, Int.reduceLE, Int.reduceNeg, Int.reduceAdd, Int.reduceSub, map_len, ht2]
      refine ⟨⟨by omega, by unfold maxLen; omega⟩, fun u1 => ?_⟩
      obtain ⟨M, hM⟩ : ∃ M, M = L ++ [n.s] := ⟨_, rfl⟩
      have hMn : nodeNames n = [n.s] ++ n.pats.flatMap (fun q => varsOf q.nodes) := by simp [nodeNames, *]
      have hMl : M.length + (n.pats.flatMap (fun q => varsOf q.nodes)).length ≤ Bulk.bulk p.nodes := by
        rw [hMn, List.length_append] at hb1; rw [hM, List.length_append]; omega
      have hfin : allNames (p.nodes.take (k + 1)) = M ++ n.pats.flatMap (fun q => varsOf q.nodes) := by rw [hn1, hMn, hM, List.append_assoc]
      refine aLoop_of (X := Nat × Nat) (fun x => ⟨[(3, .row 11 x.2 (M ++ (n.pats.take x.1).flatMap (fun q => varsOf q.nodes)).length), (13, .sl (p.nodes.map av)), (14, .int .i64 p.nodes.length), (15, .int .i64 k), (32, .sl (n.pats.map av)), (33, .int .i64 n.pats.length), (34, .int .i64 x.1)], [(11, ⟨x.2, false, 9, 1, (M ++ (n.pats.take x.1).flatMap (fun q => varsOf q.nodes)).map av⟩)]⟩) (fun x => x.1 ≤ n.pats.length) (fun x => n.pats.length - x.1) (0, u1) (Nat.zero_le _) (by simp +contextual -dsimp only [↓SD, SU, SB, Nat.reduceAdd, Nat.reduceBEq, Nat.reduceEqDiff, Nat.reduceLeDiff, Nat.reduceLT, Nat.reduceSub, ↓reduceIte, zA, zI, zN, reduceCtorEq, Int.reduceToNat, zE, List.flatMap_nil, hM, List.length_append]) (by simp +contextual -dsimp only [↓SD, SU, SB, Nat.reduceAdd, Nat.reduceBEq, Nat.reduceEqDiff, Nat.reduceLeDiff, Nat.reduceLT, Nat.reduceSub, ↓reduceIte, zA, zI, zN, reduceCtorEq, Int.reduceToNat, zE, List.flatMap_nil, hM, List.map_append, av_str]) ?_
      rintro ⟨j, u2⟩ hj
      simp only at hj
      by_cases hlj : j < n.pats.length
      · have e3 := getD_map av n.pats j .top hlj
        have hp1 := pats_take hlj
        have hp2 := pats_names n.pats j
        have hp3 := pats_names n.pats (j + 1)
        have hm3 := bulk_mem (List.getElem_mem hlj)
        rw [hp1, List.length_append] at hp3
        have hqn : Bulk.bulk n.pats[j] = Bulk.bulk n.pats[j].nodes + 1 := rfl
        have C3 := patNames_ok n.pats[j].nodes (by omega)
        generalize n.pats[j] = q at *
        obtain ⟨K, hK⟩ : ∃ K, K = M ++ (n.pats.take j).flatMap (fun q => varsOf q.nodes) := ⟨_, rfl⟩
        have hKl : K.length ≤ 2097152 := by rw [hK, List.length_append]; omega
        have hint : ∀ y ∈ (varsOf q.nodes).map (av : ByteArray → AV), y.cells.length = 1 := fun y hy => by obtain ⟨x, _, rfl⟩ := List.mem_map.1 hy; rfl
        have ht3 : List.take K.length (K.map (av : ByteArray → AV)) = K.map av := List.take_of_length_le (by simp)
        rw [← hK]
        simp +contextual -dsimp only [↓SD, SU, SB, Nat.reduceAdd, Nat.reduceBEq, Nat.reduceEqDiff, Nat.reduceLeDiff, Nat.reduceLT, Nat.reduceSub, ↓reduceIte, zA, zI, zN, reduceCtorEq, Int.reduceToNat, zE, Int.reduceEq, Int.reduceLT, Int.reduceLE, Int.reduceNeg, Int.reduceAdd, Int.reduceSub, map_len, hlj, e3, av_Pat]
        intro v7
        refine aCallK_of _ C3 ?_
        simp +contextual -dsimp only [↓SD, SU, SB, Nat.reduceAdd, Nat.reduceBEq, Nat.reduceEqDiff, Nat.reduceLeDiff, Nat.reduceLT, Nat.reduceSub, ↓reduceIte, zA, zI, zN, reduceCtorEq, Int.reduceToNat, zE, Int.reduceEq, Int.reduceLT, Int.reduceLE, Int.reduceNeg, Int.reduceAdd, Int.reduceSub, map_len, map_nop, ht3]
        refine ⟨⟨hint, by omega, by unfold maxLen; omega⟩, fun u3 => ⟨by omega, Goes.le ⟨(j + 1, u3), ⟨hlj, (by first | omega | (simp only; omega))⟩, rfl⟩ (by simp +contextual -dsimp only [↓SD, SU, SB, Nat.reduceAdd, Nat.reduceBEq, Nat.reduceEqDiff, Nat.reduceLeDiff, Nat.reduceLT, Nat.reduceSub, ↓reduceIte, zA, zI, zN, reduceCtorEq, Int.reduceToNat, zE, Int.natCast_add, hp1, hK, List.length_append, ← List.append_assoc, Nat.add_assoc]) (by simp +contextual -dsimp only [↓SD, SU, SB, Nat.reduceAdd, Nat.reduceBEq, Nat.reduceEqDiff, Nat.reduceLeDiff, Nat.reduceLT, Nat.reduceSub, ↓reduceIte, zA, zI, zN, reduceCtorEq, Int.reduceToNat, zE, hp1, hK, List.map_append, ← List.append_assoc])⟩⟩
      · obtain rfl : j = n.pats.length := by omega
        rw [List.take_length]
        simp +contextual -dsimp only [↓SD, SU, SB, Nat.reduceAdd, Nat.reduceBEq, Nat.reduceEqDiff, Nat.reduceLeDiff, Nat.reduceLT, Nat.reduceSub, ↓reduceIte, zA, zI, zN, reduceCtorEq, Int.reduceToNat, zE, Int.reduceEq, Int.reduceLT, Int.reduceLE, Int.reduceNeg, Int.reduceAdd, Int.reduceSub, map_len, Nat.lt_irrefl]
        exact ⟨by omega, Goes.le ⟨(k + 1, u2), ⟨hlt, (by first | omega | (simp only; omega))⟩, rfl⟩ (by simp +contextual -dsimp only [↓SD, SU, SB, Nat.reduceAdd, Nat.reduceBEq, Nat.reduceEqDiff, Nat.reduceLeDiff, Nat.reduceLT, Nat.reduceSub, ↓reduceIte, zA, zI, zN, reduceCtorEq, Int.reduceToNat, zE, Int.natCast_add, hfin]) (by simp +contextual -dsimp only [↓SD, SU, SB, Nat.reduceAdd, Nat.reduceBEq, Nat.reduceEqDiff, Nat.reduceLeDiff, Nat.reduceLT, Nat.reduceSub, ↓reduceIte, zA, zI, zN, reduceCtorEq, Int.reduceToNat, zE, hfin])⟩
    | false =>
      rw [hbd] at C2
      simp +contextual -dsimp only [↓SD, SU, SB, Nat.reduceAdd, Nat.reduceBEq, Nat.reduceEqDiff, Nat.reduceLeDiff, Nat.reduceLT, Nat.reduceSub, ↓reduceIte, zA, zI, zN, reduceCtorEq, Int.reduceToNat, zE, Int.reduceEq, Int.reduceLT, Int.reduceLE, Int.reduceNeg, Int.reduceAdd, Int.reduceSub, map_len, hlt, e, av_Node, h3]
      intro v5
      refine aCallK_of _ C2 ?_
      simp +contextual -dsimp only [↓SD, SU, SB, Nat.reduceAdd, Nat.reduceBEq, Nat.reduceEqDiff, Nat.reduceLeDiff, Nat.reduceLT, Nat.reduceSub, ↓reduceIte, zA, zI, zN, reduceCtorEq, Int.reduceToNat, zE, Int.reduceEq, Int.reduceLT, Int.reduceLE, Int.reduceNeg, Int.reduceAdd, Int.reduceSub, map_len]
      obtain ⟨M, hM⟩ : ∃ M, M = L ++ ([] : List ByteArray) := ⟨_, rfl⟩
      have hMn : nodeNames n = ([] : List ByteArray) ++ n.pats.flatMap (fun q => varsOf q.nodes) := by simp [nodeNames, *]
      have hMl : M.length + (n.pats.flatMap (fun q => varsOf q.nodes)).length ≤ Bulk.bulk p.nodes := by
        rw [hMn, List.length_append] at hb1; rw [hM, List.length_append]; omega
      have hfin : allNames (p.nodes.take (k + 1)) = M ++ n.pats.flatMap (fun q => varsOf q.nodes) := by rw [hn1, hMn, hM, List.append_assoc]
      refine aLoop_of (X := Nat × Nat) (fun x => ⟨[(3, .row 11 x.2 (M ++ (n.pats.take x.1).flatMap (fun q => varsOf q.nodes)).length), (13, .sl (p.nodes.map av)), (14, .int .i64 p.nodes.length), (15, .int .i64 k), (32, .sl (n.pats.map av)), (33, .int .i64 n.pats.length), (34, .int .i64 x.1)], [(11, ⟨x.2, false, 9, 1, (M ++ (n.pats.take x.1).flatMap (fun q => varsOf q.nodes)).map av⟩)]⟩) (fun x => x.1 ≤ n.pats.length) (fun x => n.pats.length - x.1) (0, u) (Nat.zero_le _) (by simp +contextual -dsimp only [↓SD, SU, SB, Nat.reduceAdd, Nat.reduceBEq, Nat.reduceEqDiff, Nat.reduceLeDiff, Nat.reduceLT, Nat.reduceSub, ↓reduceIte, zA, zI, zN, reduceCtorEq, Int.reduceToNat, zE, List.flatMap_nil, hM, List.length_append]) (by simp +contextual -dsimp only [↓SD, SU, SB, Nat.reduceAdd, Nat.reduceBEq, Nat.reduceEqDiff, Nat.reduceLeDiff, Nat.reduceLT, Nat.reduceSub, ↓reduceIte, zA, zI, zN, reduceCtorEq, Int.reduceToNat, zE, List.flatMap_nil, hM, List.map_append, av_str]) ?_
      rintro ⟨j, u2⟩ hj
      simp only at hj
      by_cases hlj : j < n.pats.length
      · have e3 := getD_map av n.pats j .top hlj
        have hp1 := pats_take hlj
        have hp2 := pats_names n.pats j
        have hp3 := pats_names n.pats (j + 1)
        have hm3 := bulk_mem (List.getElem_mem hlj)
        rw [hp1, List.length_append] at hp3
        have hqn : Bulk.bulk n.pats[j] = Bulk.bulk n.pats[j].nodes + 1 := rfl
        have C3 := patNames_ok n.pats[j].nodes (by omega)
        generalize n.pats[j] = q at *
        obtain ⟨K, hK⟩ : ∃ K, K = M ++ (n.pats.take j).flatMap (fun q => varsOf q.nodes) := ⟨_, rfl⟩
        have hKl : K.length ≤ 2097152 := by rw [hK, List.length_append]; omega
        have hint : ∀ y ∈ (varsOf q.nodes).map (av : ByteArray → AV), y.cells.length = 1 := fun y hy => by obtain ⟨x, _, rfl⟩ := List.mem_map.1 hy; rfl
        have ht3 : List.take K.length (K.map (av : ByteArray → AV)) = K.map av := List.take_of_length_le (by simp)
        rw [← hK]
        simp +contextual -dsimp only [↓SD, SU, SB, Nat.reduceAdd, Nat.reduceBEq, Nat.reduceEqDiff, Nat.reduceLeDiff, Nat.reduceLT, Nat.reduceSub, ↓reduceIte, zA, zI, zN, reduceCtorEq, Int.reduceToNat, zE, Int.reduceEq, Int.reduceLT, Int.reduceLE, Int.reduceNeg, Int.reduceAdd, Int.reduceSub, map_len, hlj, e3, av_Pat]
        intro v7
        refine aCallK_of _ C3 ?_
        simp +contextual -dsimp only [↓SD, SU, SB, Nat.reduceAdd, Nat.reduceBEq, Nat.reduceEqDiff, Nat.reduceLeDiff, Nat.reduceLT, Nat.reduceSub, ↓reduceIte, zA, zI, zN, reduceCtorEq, Int.reduceToNat, zE, Int.reduceEq, Int.reduceLT, Int.reduceLE, Int.reduceNeg, Int.reduceAdd, Int.reduceSub, map_len, map_nop, ht3]
        refine ⟨⟨hint, by omega, by unfold maxLen; omega⟩, fun u3 => ⟨by omega, Goes.le ⟨(j + 1, u3), ⟨hlj, (by first | omega | (simp only; omega))⟩, rfl⟩ (by simp +contextual -dsimp only [↓SD, SU, SB, Nat.reduceAdd, Nat.reduceBEq, Nat.reduceEqDiff, Nat.reduceLeDiff, Nat.reduceLT, Nat.reduceSub, ↓reduceIte, zA, zI, zN, reduceCtorEq, Int.reduceToNat, zE, Int.natCast_add, hp1, hK, List.length_append, ← List.append_assoc, Nat.add_assoc]) (by simp +contextual -dsimp only [↓SD, SU, SB, Nat.reduceAdd, Nat.reduceBEq, Nat.reduceEqDiff, Nat.reduceLeDiff, Nat.reduceLT, Nat.reduceSub, ↓reduceIte, zA, zI, zN, reduceCtorEq, Int.reduceToNat, zE, hp1, hK, List.map_append, ← List.append_assoc])⟩⟩
      · obtain rfl : j = n.pats.length := by omega
        rw [List.take_length]
        simp +contextual -dsimp only [↓SD, SU, SB, Nat.reduceAdd, Nat.reduceBEq, Nat.reduceEqDiff, Nat.reduceLeDiff, Nat.reduceLT, Nat.reduceSub, ↓reduceIte, zA, zI, zN, reduceCtorEq, Int.reduceToNat, zE, Int.reduceEq, Int.reduceLT, Int.reduceLE, Int.reduceNeg, Int.reduceAdd, Int.reduceSub, map_len, Nat.lt_irrefl]
        exact ⟨by omega, Goes.le ⟨(k + 1, u2), ⟨hlt, (by first | omega | (simp only; omega))⟩, rfl⟩ (by simp +contextual -dsimp only [↓SD, SU, SB, Nat.reduceAdd, Nat.reduceBEq, Nat.reduceEqDiff, Nat.reduceLeDiff, Nat.reduceLT, Nat.reduceSub, ↓reduceIte, zA, zI, zN, reduceCtorEq, Int.reduceToNat, zE, Int.natCast_add, hfin]) (by simp +contextual -dsimp only [↓SD, SU, SB, Nat.reduceAdd, Nat.reduceBEq, Nat.reduceEqDiff, Nat.reduceLeDiff, Nat.reduceLT, Nat.reduceSub, ↓reduceIte, zA, zI, zN, reduceCtorEq, Int.reduceToNat, zE, hfin])⟩
  · obtain rfl : k = p.nodes.length := by omega
    have hb1 := all_names p.nodes p.nodes.length
    rw [List.take_length] at hb1
    simp +contextual -dsimp only [↓SD, SU, SB, Nat.reduceAdd, Nat.reduceBEq, Nat.reduceEqDiff, Nat.reduceLeDiff, Nat.reduceLT, Nat.reduceSub, ↓reduceIte, zA, zI, zN, reduceCtorEq, Int.reduceToNat, zE, map_len, Nat.lt_irrefl, List.take_length]
    refine aCallH_of [11] (SortStr_ok 11 u (allNames p.nodes) (by omega)) (by simp +contextual -dsimp only [↓SD, SU, SB, Nat.reduceAdd, Nat.reduceBEq, Nat.reduceEqDiff, Nat.reduceLeDiff, Nat.reduceLT, Nat.reduceSub, ↓reduceIte, zA, zI, zN, reduceCtorEq, Int.reduceToNat, zE]) ?_
    rintro r hp' ⟨rfl, rfl⟩
    simp +contextual -dsimp only [↓SD, SU, SB, Nat.reduceAdd, Nat.reduceBEq, Nat.reduceEqDiff, Nat.reduceLeDiff, Nat.reduceLT, Nat.reduceSub, ↓reduceIte, zA, zI, zN, reduceCtorEq, Int.reduceToNat, zE, map_len, sortS_len, Nat.le_refl, List.take_length]
    have CC := CompactStr_ok 11 u (sortS (allNames p.nodes)) (by rw [sortS_len]; omega)
    rw [sortS_len] at CC
    refine aCallH_of [11] CC (by simp +contextual -dsimp only [↓SD, SU, SB, Nat.reduceAdd, Nat.reduceBEq, Nat.reduceEqDiff, Nat.reduceLeDiff, Nat.reduceLT, Nat.reduceSub, ↓reduceIte, zA, zI, zN, reduceCtorEq, Int.reduceToNat, zE]) ?_
    rintro r hp' ⟨rfl, rfl⟩
    simp +contextual -dsimp only [↓SD, SU, SB, Nat.reduceAdd, Nat.reduceBEq, Nat.reduceEqDiff, Nat.reduceLeDiff, Nat.reduceLT, Nat.reduceSub, ↓reduceIte, zA, zI, zN, reduceCtorEq, Int.reduceToNat, zE]
    refine Goes.post [(11, ⟨u, false, 9, 1, (namesL p ++ restS (sortS (allNames p.nodes))).map av⟩)] ?_
    have hN : dedS (sortS (allNames p.nodes)) = namesL p := rfl
    have hle : (namesL p).length ≤ (namesL p ++ restS (sortS (allNames p.nodes))).length := by rw [List.length_append]; omega
    simp +contextual -dsimp only [↓SD, SU, SB, Nat.reduceAdd, Nat.reduceBEq, Nat.reduceEqDiff, Nat.reduceLeDiff, Nat.reduceLT, Nat.reduceSub, ↓reduceIte, zA, zI, zN, reduceCtorEq, Int.reduceToNat, zE, map_len, hN, hle]
    exact ⟨u, rfl, rfl⟩

end Go.Proofs.YtbcifdnfhoikiaaGreat


set_option linter.unusedVariables false
set_option linter.unusedSimpArgs false
set_option maxRecDepth 100000
namespace Go.Proofs.YtbcifdnfhoikiaaGreat
open Go.RowKit Go.Proofs.YtbcifdnfhoikiaaGreat.Av Go.Proofs.YtbcifdnfhoikiaaGreat.Ml
open Go.Proofs.YtbcifdnfhoikiaaGreat.Av.AVal (av)

theorem less_as (a b : ByteArray) : Op.bytesLess a.toList b.toList = lessS a b := rfl
theorem l15Put_ok (l : List ByteArray) (s : ByteArray) (hl : l.length ≤ 2097152) : CallsF Tryz.prog 23 [.sl (l.map av), .str s] (.sl ((putS l s).map av)) := by
  refine fun_spec_l15Put rfl (by simp; exact ⟨lav_clean l, AvPure.str _⟩) (lav_clean _) ?_
  simp +contextual -dsimp only [↓SD, SU, SB, Nat.reduceAdd, Nat.reduceBEq, Nat.reduceEqDiff, Nat.reduceLeDiff, Nat.reduceLT, Nat.reduceSub, ↓reduceIte, zA, zI, zN, reduceCtorEq, Int.reduceToNat, zE, Int.reduceEq, Int.reduceLT, Int.reduceLE, Int.reduceNeg, Int.reduceAdd, Int.reduceSub, ir_spec_l15Put, rs_spec_l15Put, map_len]
  intro v
  refine aLoop_of (X := Nat × Nat) (fun x => ⟨[(0, .sl (l.map av)), (1, .str s), (5, .row 9 x.2 (insG s (l.take x.1)).length), (6, .bool ((l.take x.1).any (lessS s))), (10, .sl (l.map av)), (11, .int .i64 l.length), (12, .int .i64 x.1)], [(9, ⟨x.2, false, 9, 1, (insG s (l.take x.1)).map av⟩)]⟩) (fun x => x.1 ≤ l.length ∧ (l.take x.1).any (fun x => decide (x = s)) = false) (fun x => l.length - x.1) (0, v) ⟨Nat.zero_le _, rfl⟩ (by simp +contextual -dsimp only [↓SD, SU, SB, Nat.reduceAdd, Nat.reduceBEq, Nat.reduceEqDiff, Nat.reduceLeDiff, Nat.reduceLT, Nat.reduceSub, ↓reduceIte, zA, zI, zN, reduceCtorEq, Int.reduceToNat, zE, List.any_nil, insG]) (by simp +contextual -dsimp only [↓SD, SU, SB, Nat.reduceAdd, Nat.reduceBEq, Nat.reduceEqDiff, Nat.reduceLeDiff, Nat.reduceLT, Nat.reduceSub, ↓reduceIte, zA, zI, zN, reduceCtorEq, Int.reduceToNat, zE, insG]) ?_
  rintro ⟨k, u⟩ ⟨hk, ha⟩
  simp only at hk ha
  have hL := insG_len s (l.take k)
  rw [List.length_take] at hL
  by_cases hlt : k < l.length
  · have e := getD_map av l k .top hlt
    have ht : l.take (k + 1) = l.take k ++ [l[k]] := List.take_succ_eq_append_getElem hlt
    have hm := List.getElem_mem hlt
    have hsn := insG_snoc s l[k] (l.take k)
    rw [← ht] at hsn
    have han : (l.take (k + 1)).any (lessS s) = ((l.take k).any (lessS s) || lessS s l[k]) := by rw [ht, List.any_append]; simp
    have haq : (l.take (k + 1)).any (fun x => decide (x = s)) = decide (l[k] = s) := by rw [ht, List.any_append, ha]; simp
    have hput : l[k] = s → putS l s = l := fun h => by
      unfold putS
      rw [if_pos]
      simp only [List.any_eq_true, decide_eq_true_eq]
      exact ⟨l[k], hm, h⟩
    generalize l[k] = a at *
    obtain ⟨G, hG⟩ : ∃ G, G = insG s (l.take k) := ⟨_, rfl⟩
    have hGt : List.take G.length (G.map (av : ByteArray → AV)) = G.map av := List.take_of_length_le (by simp)
    rw [← hG] at hL hsn
    have hGl : G.length ≤ l.length + 1 := by rw [hL]; split <;> omega
    rw [← hG]
    by_cases hq : a = s
    · simp +contextual -dsimp only [↓SD, SU, SB, Nat.reduceAdd, Nat.reduceBEq, Nat.reduceEqDiff, Nat.reduceLeDiff, Nat.reduceLT, Nat.reduceSub, ↓reduceIte, zA, zI, zN, reduceCtorEq, Int.reduceToNat, zE, Int.reduceEq, Int.reduceLT, Int.reduceLE, Int.reduceNeg, Int.reduceAdd, Int.reduceSub, map_len, hlt, e, av_str, hq]
      rw [hput hq]
    · rw [decide_eq_false hq] at haq
      cases hd : (l.take k).any (lessS s)
      · cases hls : lessS s a
        · rw [hd, hls] at han hsn
          simp only [Bool.false_or] at han
          simp only [Bool.false_eq_true, and_false, if_false] at hsn
          simp +contextual -dsimp only [↓SD, SU, SB, Nat.reduceAdd, Nat.reduceBEq, Nat.reduceEqDiff, Nat.reduceLeDiff, Nat.reduceLT, Nat.reduceSub, ↓reduceIte, zA, zI, zN, reduceCtorEq, Int.reduceToNat, zE, Int.reduceEq, Int.reduceLT, Int.reduceLE, Int.reduceNeg, Int.reduceAdd, Int.reduceSub, map_len, hlt, e, av_str, hq, hd, less_as, hls, hGt]
          refine ⟨⟨by omega, by unfold maxLen; omega⟩, fun u' => ⟨by omega, Goes.le ⟨(k + 1, u'), ⟨⟨hlt, haq⟩, (by first | omega | (simp only; omega))⟩, rfl⟩ (by simp +contextual -dsimp only [↓SD, SU, SB, Nat.reduceAdd, Nat.reduceBEq, Nat.reduceEqDiff, Nat.reduceLeDiff, Nat.reduceLT, Nat.reduceSub, ↓reduceIte, zA, zI, zN, reduceCtorEq, Int.reduceToNat, zE, Int.natCast_add, hsn, han, List.length_append]) (by simp +contextual -dsimp only [↓SD, SU, SB, Nat.reduceAdd, Nat.reduceBEq, Nat.reduceEqDiff, Nat.reduceLeDiff, Nat.reduceLT, Nat.reduceSub, ↓reduceIte, zA, zI, zN, reduceCtorEq, Int.reduceToNat, zE, hsn, List.map_append, av_str])⟩⟩
        · rw [hd, hls] at han hsn
          simp only [Bool.false_or] at han
          simp only [and_self, if_true] at hsn
          have hG1 : (G.map (av : ByteArray → AV) ++ [AV.str s]).length = G.length + 1 := by simp
          have hG2 : List.take (G.length + 1) (G.map (av : ByteArray → AV) ++ [AV.str s]) = G.map av ++ [AV.str s] := List.take_of_length_le (by simp)
          simp +contextual -dsimp only [↓SD, SU, SB, Nat.reduceAdd, Nat.reduceBEq, Nat.reduceEqDiff, Nat.reduceLeDiff, Nat.reduceLT, Nat.reduceSub, ↓reduceIte, zA, zI, zN, reduceCtorEq, Int.reduceToNat, zE, Int.reduceEq, Int.reduceLT, Int.reduceLE, Int.reduceNeg, Int.reduceAdd, Int.reduceSub, map_len, hlt, e, av_str, hq, hd, less_as, hls, hGt, hG1, hG2]
          refine ⟨⟨by omega, by unfold maxLen; omega⟩, fun u1 => ⟨⟨by omega, by unfold maxLen; omega⟩, fun u' => ⟨by omega, Goes.le ⟨(k + 1, u'), ⟨⟨hlt, haq⟩, (by first | omega | (simp only; omega))⟩, rfl⟩ (by simp +contextual -dsimp only [↓SD, SU, SB, Nat.reduceAdd, Nat.reduceBEq, Nat.reduceEqDiff, Nat.reduceLeDiff, Nat.reduceLT, Nat.reduceSub, ↓reduceIte, zA, zI, zN, reduceCtorEq, Int.reduceToNat, zE, Int.natCast_add, hsn, han, List.length_append]) (by simp +contextual -dsimp only [↓SD, SU, SB, Nat.reduceAdd, Nat.reduceBEq, Nat.reduceEqDiff, Nat.reduceLeDiff, Nat.reduceLT, Nat.reduceSub, ↓reduceIte, zA, zI, zN, reduceCtorEq, Int.reduceToNat, zE, hsn, List.map_append, av_str, List.append_assoc])⟩⟩⟩
      · rw [hd] at han hsn
        simp only [Bool.true_or] at han
        simp only [Bool.true_eq_false, false_and, if_false] at hsn
        simp +contextual -dsimp only [↓SD, SU, SB, Nat.reduceAdd, Nat.reduceBEq, Nat.reduceEqDiff, Nat.reduceLeDiff, Nat.reduceLT, Nat.reduceSub, ↓reduceIte, zA, zI, zN, reduceCtorEq, Int.reduceToNat, zE, Int.reduceEq, Int.reduceLT, Int.reduceLE, Int.reduceNeg, Int.reduceAdd, Int.reduceSub, map_len, hlt, e, av_str, hq, hd, less_as, hGt]
        refine ⟨⟨by omega, by unfold maxLen; omega⟩, fun u' => ⟨by omega, Goes.le ⟨(k + 1, u'), ⟨⟨hlt, haq⟩, (by first | omega | (simp only; omega))⟩, rfl⟩ (by simp +contextual -dsimp only [↓SD, SU, SB, Nat.reduceAdd, Nat.reduceBEq, Nat.reduceEqDiff, Nat.reduceLeDiff, Nat.reduceLT, Nat.reduceSub, ↓reduceIte, zA, zI, zN, reduceCtorEq, Int.reduceToNat, zE, Int.natCast_add, hsn, han, List.length_append]) (by simp +contextual -dsimp only [↓SD, SU, SB, Nat.reduceAdd, Nat.reduceBEq, Nat.reduceEqDiff, Nat.reduceLeDiff, Nat.reduceLT, Nat.reduceSub, ↓reduceIte, zA, zI, zN, reduceCtorEq, Int.reduceToNat, zE, hsn, List.map_append, av_str])⟩⟩
  · obtain rfl : k = l.length := by omega
    rw [List.take_length] at ha hL ⊢
    have hGl : (insG s l).length ≤ l.length + 1 := by rw [hL]; split <;> omega
    cases hd : l.any (lessS s)
    · have hp : putS l s = l ++ [s] := by unfold putS; rw [ha, hd]; rfl
      rw [insG_none s hd, hp]
      have h1 : List.take l.length (l.map (av : ByteArray → AV)) = l.map av := List.take_of_length_le (by simp)
      have h2 : l.map (av : ByteArray → AV) ++ [AV.str s] = (l ++ [s]).map av := by simp [av_str]
      have h3 : List.take (l.length + 1) ((l ++ [s]).map (av : ByteArray → AV)) = (l ++ [s]).map av := List.take_of_length_le (by simp)
      have h4 : (l ++ [s]).length = l.length + 1 := by simp
      simp +contextual -dsimp only [↓SD, SU, SB, Nat.reduceAdd, Nat.reduceBEq, Nat.reduceEqDiff, Nat.reduceLeDiff, Nat.reduceLT, Nat.reduceSub, ↓reduceIte, zA, zI, zN, reduceCtorEq, Int.reduceToNat, zE, Int.reduceEq, Int.reduceLT, Int.reduceLE, Int.reduceNeg, Int.reduceAdd, Int.reduceSub, map_len, Nat.lt_irrefl, hd, h1, h2, map_nop, h3, h4, Nat.le_refl]
      refine ⟨by omega, by unfold maxLen; omega⟩
    · have hp : putS l s = insG s l := by unfold putS; rw [ha, hd]; rfl
      rw [hp]
      have h3 : List.take (insG s l).length ((insG s l).map (av : ByteArray → AV)) = (insG s l).map av := List.take_of_length_le (by simp)
      simp +contextual -dsimp only [↓SD, SU, SB, Nat.reduceAdd, Nat.reduceBEq, Nat.reduceEqDiff, Nat.reduceLeDiff, Nat.reduceLT, Nat.reduceSub, ↓reduceIte, zA, zI, zN, reduceCtorEq, Int.reduceToNat, zE, Int.reduceEq, Int.reduceLT, Int.reduceLE, Int.reduceNeg, Int.reduceAdd, Int.reduceSub, map_len, Nat.lt_irrefl, hd, map_nop, h3, Nat.le_refl]

/-- the names of the reference -/
def namesR (l : List ByteArray) (m : List ByteArray) : List ByteArray := m.foldl putS l
theorem namesR_app (l a b : List ByteArray) : namesR l (a ++ b) = namesR (namesR l a) b := List.foldl_append
theorem namesR_len (m : List ByteArray) : (namesR [] m).length ≤ m.length := by have := fold_len m []; rw [List.length_nil, Nat.zero_add] at this; exact this
theorem vars_le (l : List PNode) (i : Nat) : (varsOf (l.take i)).length ≤ (varsOf l).length := by
  unfold varsOf
  conv => rhs; rw [← List.take_append_drop i l, List.filterMap_append, List.length_append]
  omega
theorem specNames_ok (p : Program) (hx : Bulk.bulk p ≤ 1048576) (hb : progB p = true) : CallsF Tryz.prog 7 [av p] (.sl ((namesR [] (allNames p.nodes)).map av)) := by
  obtain ⟨q1, q2, q3, q4⟩ := prog_small hx
  refine fun_spec_Names rfl (by simp; exact AVal.clean p) (lav_clean _) ?_
  have C := specProgramOk_ok p hx
  rw [av_Program, hb] at C
  simp +contextual -dsimp only [↓SD, SU, SB, Nat.reduceAdd, Nat.reduceBEq, Nat.reduceEqDiff, Nat.reduceLeDiff, Nat.reduceLT, Nat.reduceSub, ↓reduceIte, zA, zI, zN, reduceCtorEq, Int.reduceToNat, zE, ir_spec_Names, rs_spec_Names, av_Program, map_len]
  refine aCallK_of _ C ?_
  simp +contextual -dsimp only [↓SD, SU, SB, Nat.reduceAdd, Nat.reduceBEq, Nat.reduceEqDiff, Nat.reduceLeDiff, Nat.reduceLT, Nat.reduceSub, ↓reduceIte, zA, zI, zN, reduceCtorEq, Int.reduceToNat, zE, map_len]
  refine aLoop_of (X := Nat) (fun k => ⟨[(3, .sl ((namesR [] (allNames (p.nodes.take k))).map av)), (16, .sl (p.nodes.map av)), (17, .int .i64 p.nodes.length), (18, .int .i64 k)], []⟩) (fun k => k ≤ p.nodes.length) (fun k => p.nodes.length - k) 0 (Nat.zero_le _) (by simp +contextual -dsimp only [↓SD, SU, SB, Nat.reduceAdd, Nat.reduceBEq, Nat.reduceEqDiff, Nat.reduceLeDiff, Nat.reduceLT, Nat.reduceSub, ↓reduceIte, zA, zI, zN, reduceCtorEq, Int.reduceToNat, zE, allNames, List.flatMap_nil, namesR, List.foldl_nil]) trivial ?_
  rintro k hk
  by_cases hlt : k < p.nodes.length
  · have e := getD_map av p.nodes k .top hlt
    have hn1 := names_take hlt
    have hb1 := all_names p.nodes (k + 1)
    obtain ⟨b1, b2, b3, b4⟩ := node_small q2 (List.getElem_mem hlt)
    rw [hn1, List.length_append] at hb1
    have C2 := l15Binds_ok p.nodes[k].kind
    generalize p.nodes[k] = n at *
    generalize allNames (p.nodes.take k) = L at *
    have hb0 : L.length ≤ 1048576 := by omega
    have hnl0 := namesR_len L
    have CP := l15Put_ok (namesR [] L) n.s (by omega)
    by_cases h3 : n.kind = 3
    · simp +contextual -dsimp only [↓SD, SU, SB, Nat.reduceAdd, Nat.reduceBEq, Nat.reduceEqDiff, Nat.reduceLeDiff, Nat.reduceLT, Nat.reduceSub, ↓reduceIte, zA, zI, zN, reduceCtorEq, Int.reduceToNat, zE, Int.reduceEq, Int.reduceLT, Int.reduceLE, Int.reduceNeg, Int.reduceAdd, Int.reduceSub, map_len, hlt, e, av_Node, h3]
      intro v5
      refine aCallK_of _ CP ?_
      simp +contextual -dsimp only [↓SD, SU, SB, Nat.reduceAdd, Nat.reduceBEq, Nat.reduceEqDiff, Nat.reduceLeDiff, Nat.reduceLT, Nat.reduceSub, ↓reduceIte, zA, zI, zN, reduceCtorEq, Int.reduceToNat, zE, Int.reduceEq, Int.reduceLT, Int.reduceLE, Int.reduceNeg, Int.reduceAdd, Int.reduceSub, map_len]
      obtain ⟨M, hM⟩ : ∃ M, M = L ++ [n.s] := ⟨_, rfl⟩
      have hMn : nodeNames n = [n.s] ++ n.pats.flatMap (fun q => varsOf q.nodes) := by simp [nodeNames, *]
      have hMl : M.length + (n.pats.flatMap (fun q => varsOf q.nodes)).length ≤ Bulk.bulk p.nodes := by
        rw [hMn, List.length_append] at hb1; rw [hM, List.length_append]; omega
      have hfin : allNames (p.nodes.take (k + 1)) = M ++ n.pats.flatMap (fun q => varsOf q.nodes) := by rw [hn1, hMn, hM, List.append_assoc]
      have hstart : putS (namesR [] L) n.s = namesR [] M := by rw [hM, namesR_app]; rfl
      refine aLoop_of (X := Nat) (fun j => ⟨[(3, .sl ((namesR [] (M ++ (n.pats.take j).flatMap (fun q => varsOf q.nodes))).map av)), (16, .sl (p.nodes.map av)), (17, .int .i64 p.nodes.length), (18, .int .i64 k), (35, .sl (n.pats.map av)), (36, .int .i64 n.pats.length), (37, .int .i64 j)], []⟩) (fun j => j ≤ n.pats.length) (fun j => n.pats.length - j) 0 (Nat.zero_le _) (by simp +contextual -dsimp only [↓SD, SU, SB, Nat.reduceAdd, Nat.reduceBEq, Nat.reduceEqDiff, Nat.reduceLeDiff, Nat.reduceLT, Nat.reduceSub, ↓reduceIte, zA, zI, zN, reduceCtorEq, Int.reduceToNat, zE, List.flatMap_nil, hstart]) trivial ?_
      rintro j hj
      by_cases hlj : j < n.pats.length
      · have e3 := getD_map av n.pats j .top hlj
        have hp1 := pats_take hlj
        have hp2 := pats_names n.pats j
        have hp3 := pats_names n.pats (j + 1)
        have hm3 := bulk_mem (List.getElem_mem hlj)
        rw [hp1, List.length_append] at hp3
        have hqn : Bulk.bulk n.pats[j] = Bulk.bulk n.pats[j].nodes + 1 := rfl
        have hql := bulk_length n.pats[j].nodes
        generalize n.pats[j] = q at *
        obtain ⟨K, hK⟩ : ∃ K, K = M ++ (n.pats.take j).flatMap (fun q => varsOf q.nodes) := ⟨_, rfl⟩
        have hKl : K.length + (varsOf q.nodes).length ≤ 2097152 := by rw [hK, List.length_append]; omega
        have hKf : namesR [] (M ++ (n.pats.take (j + 1)).flatMap (fun q => varsOf q.nodes)) = namesR [] (K ++ varsOf q.nodes) := by rw [hp1, hK, List.append_assoc]
        rw [← hK]
        simp +contextual -dsimp only [↓SD, SU, SB, Nat.reduceAdd, Nat.reduceBEq, Nat.reduceEqDiff, Nat.reduceLeDiff, Nat.reduceLT, Nat.reduceSub, ↓reduceIte, zA, zI, zN, reduceCtorEq, Int.reduceToNat, zE, Int.reduceEq, Int.reduceLT, Int.reduceLE, Int.reduceNeg, Int.reduceAdd, Int.reduceSub, map_len, hlj, e3, av_Pat]
        intro v7
        refine aLoop_of (X := Nat) (fun i => ⟨[(3, .sl ((namesR [] (K ++ varsOf (q.nodes.take i))).map av)), (16, .sl (p.nodes.map av)), (17, .int .i64 p.nodes.length), (18, .int .i64 k), (35, .sl (n.pats.map av)), (36, .int .i64 n.pats.length), (37, .int .i64 j), (42, .sl (q.nodes.map av)), (43, .int .i64 q.nodes.length), (44, .int .i64 i)], []⟩) (fun i => i ≤ q.nodes.length) (fun i => q.nodes.length - i) 0 (Nat.zero_le _) (by simp +contextual -dsimp only [↓SD, SU, SB, Nat.reduceAdd, Nat.reduceBEq, Nat.reduceEqDiff, Nat.reduceLeDiff, Nat.reduceLT, Nat.reduceSub, ↓reduceIte, zA, zI, zN, reduceCtorEq, Int.reduceToNat, zE, varsOf, List.filterMap_nil]) trivial ?_
        rintro i hi
        by_cases hli : i < q.nodes.length
        · have e4 := getD_map av q.nodes i .top hli
          have hv := varsOf_snoc hli
          have hvl := vars_le q.nodes i
          generalize q.nodes[i] = a at *
          have hnl := namesR_len (K ++ varsOf (q.nodes.take i))
          rw [List.length_append] at hnl
          have C4 := l15Put_ok (namesR [] (K ++ varsOf (q.nodes.take i))) a.s (by omega)
          by_cases h2 : a.kind = 2
          · rw [if_pos h2] at hv
            have hst : namesR [] (K ++ varsOf (q.nodes.take (i + 1))) = putS (namesR [] (K ++ varsOf (q.nodes.take i))) a.s := by rw [hv, ← List.append_assoc, namesR_app]; rfl
            simp +contextual -dsimp only [↓SD, SU, SB, Nat.reduceAdd, Nat.reduceBEq, Nat.reduceEqDiff, Nat.reduceLeDiff, Nat.reduceLT, Nat.reduceSub, ↓reduceIte, zA, zI, zN, reduceCtorEq, Int.reduceToNat, zE, Int.reduceEq, Int.reduceLT, Int.reduceLE, Int.reduceNeg, Int.reduceAdd, Int.reduceSub, map_len, hli, e4, av_PNode, h2]
            intro v9
            refine aCallK_of _ C4 ?_
            simp +contextual -dsimp only [↓SD, SU, SB, Nat.reduceAdd, Nat.reduceBEq, Nat.reduceEqDiff, Nat.reduceLeDiff, Nat.reduceLT, Nat.reduceSub, ↓reduceIte, zA, zI, zN, reduceCtorEq, Int.reduceToNat, zE, Int.reduceEq, Int.reduceLT, Int.reduceLE, Int.reduceNeg, Int.reduceAdd, Int.reduceSub]
            exact ⟨by omega, Goes.le ⟨i + 1, ⟨hli, (by first | omega | (simp only; omega))⟩, rfl⟩ (by simp +contextual -dsimp only [↓SD, SU, SB, Nat.reduceAdd, Nat.reduceBEq, Nat.reduceEqDiff, Nat.reduceLeDiff, Nat.reduceLT, Nat.reduceSub, ↓reduceIte, zA, zI, zN, reduceCtorEq, Int.reduceToNat, zE, Int.natCast_add, hst]) trivial⟩
          · rw [if_neg h2, List.append_nil] at hv
            simp +contextual -dsimp only [↓SD, SU, SB, Nat.reduceAdd, Nat.reduceBEq, Nat.reduceEqDiff, Nat.reduceLeDiff, Nat.reduceLT, Nat.reduceSub, ↓reduceIte, zA, zI, zN, reduceCtorEq, Int.reduceToNat, zE, Int.reduceEq, Int.reduceLT, Int.reduceLE, Int.reduceNeg, Int.reduceAdd, Int.reduceSub, map_len, hli, e4, av_PNode, h2]
            intro v9
            exact ⟨by omega, Goes.le ⟨i + 1, ⟨hli, (by first | omega | (simp only; omega))⟩, rfl⟩ (by simp +contextual -dsimp only [↓SD, SU, SB, Nat.reduceAdd, Nat.reduceBEq, Nat.reduceEqDiff, Nat.reduceLeDiff, Nat.reduceLT, Nat.reduceSub, ↓reduceIte, zA, zI, zN, reduceCtorEq, Int.reduceToNat, zE, Int.natCast_add, hv]) trivial⟩
        · obtain rfl : i = q.nodes.length := by omega
          simp +contextual -dsimp only [↓SD, SU, SB, Nat.reduceAdd, Nat.reduceBEq, Nat.reduceEqDiff, Nat.reduceLeDiff, Nat.reduceLT, Nat.reduceSub, ↓reduceIte, zA, zI, zN, reduceCtorEq, Int.reduceToNat, zE, Int.reduceEq, Int.reduceLT, Int.reduceLE, Int.reduceNeg, Int.reduceAdd, Int.reduceSub, map_len, Nat.lt_irrefl, List.take_length]
          exact ⟨by omega, Goes.le ⟨j + 1, ⟨hlj, (by first | omega | (simp only; omega))⟩, rfl⟩ (by simp +contextual -dsimp only [↓SD, SU, SB, Nat.reduceAdd, Nat.reduceBEq, Nat.reduceEqDiff, Nat.reduceLeDiff, Nat.reduceLT, Nat.reduceSub, ↓reduceIte, zA, zI, zN, reduceCtorEq, Int.reduceToNat, zE, Int.natCast_add, hKf]) trivial⟩
      · obtain rfl : j = n.pats.length := by omega
        simp +contextual -dsimp only [↓SD, SU, SB, Nat.reduceAdd, Nat.reduceBEq, Nat.reduceEqDiff, Nat.reduceLeDiff, Nat.reduceLT, Nat.reduceSub, ↓reduceIte, zA, zI, zN, reduceCtorEq, Int.reduceToNat, zE, Int.reduceEq, Int.reduceLT, Int.reduceLE, Int.reduceNeg, Int.reduceAdd, Int.reduceSub, map_len, Nat.lt_irrefl, List.take_length]
        exact ⟨by omega, Goes.le ⟨k + 1, ⟨hlt, (by first | omega | (simp only; omega))⟩, rfl⟩ (by simp +contextual -dsimp only [↓SD, SU, SB, Nat.reduceAdd, Nat.reduceBEq, Nat.reduceEqDiff, Nat.reduceLeDiff, Nat.reduceLT, Nat.reduceSub, ↓reduceIte, zA, zI, zN, reduceCtorEq, Int.reduceToNat, zE, Int.natCast_add, hfin]) trivial⟩
    cases hbd : bindB n.kind with
    | true =>
      rw [hbd] at C2
      simp +contextual -dsimp only [↓SD, SU, SB, Nat.reduceAdd, Nat.reduceBEq, Nat.reduceEqDiff, Nat.reduceLeDiff, Nat.reduceLT, Nat.reduceSub, ↓reduceIte, zA, zI, zN, reduceCtorEq, Int.reduceToNat, zE, Int.reduceEq, Int.reduceLT, Int.reduceLE, Int.reduceNeg, Int.reduceAdd, Int.reduceSub, map_len, hlt, e, av_Node, h3]
      intro v5
      refine aCallK_of _ C2 ?_
      simp +contextual -dsimp only [↓SD, SU, SB, Nat.reduceAdd, Nat.reduceBEq, Nat.reduceEqDiff, Nat.reduceLeDiff, Nat.reduceLT, Nat.reduceSub, ↓reduceIte, zA, zI, zN, reduceCtorEq, Int.reduceToNat, zE, Int.reduceEq, Int.reduceLT, Int.reduceLE, Int.reduceNeg, Int.reduceAdd, Int.reduceSub, map_len]
      refine aCallK_of _ CP ?_
      simp +contextual -dsimp only [↓SD, SU, SB, Nat.reduceAdd, Nat.reduceBEq, Nat.reduceEqDiff, Nat.reduceLeDiff, Nat.reduceLT, Nat.reduceSub, ↓reduceIte, zA, zI, zN, reduceCtorEq, Int.reduceToNat, zE, Int.reduceEq, Int.reduceLT, Int.reduceLE, Int.reduceNeg, Int.reduceAdd, Int.reduceSub, map_len]
      obtain ⟨M, hM⟩ : ∃ M, M = L ++ [n.s] := ⟨_, rfl⟩
      have hMn : nodeNames n = [n.s] ++ n.pats.flatMap (fun q => varsOf q.nodes) := by simp [nodeNames, *]
      have hMl : M.length + (n.pats.flatMap (fun q => varsOf q.nodes)).length ≤ Bulk.bulk p.nodes := by
        rw [hMn, List.length_append] at hb1; rw [hM, List.length_append]; omega
      have hfin : allNames (p.nodes.take (k + 1)) = M ++ n.pats.flatMap (fun q => varsOf q.nodes) := by rw [hn1, hMn, hM, List.append_assoc]
      have hstart : putS (namesR [] L) n.s = namesR [] M := by rw [hM, namesR_app]; rfl
      refine aLoop_of (X := Nat) (fun j => ⟨[(3, .sl ((namesR [] (M ++ (n.pats.take j).flatMap (fun q => varsOf q.nodes))).map av)), (16, .sl (p.nodes.map av)), (17, .int .i64 p.nodes.length), (18, .int .i64 k), (35, .sl (n.pats.map av)), (36, .int .i64 n.pats.length), (37, .int .i64 j)], []⟩) (fun j => j ≤ n.pats.length) (fun j => n.pats.length - j) 0 (Nat.zero_le _) (by simp +contextual -dsimp only [↓SD, SU, SB, Nat.reduceAdd, Nat.reduceBEq, Nat.reduceEqDiff, Nat.reduceLeDiff, Nat.reduceLT, Nat.reduceSub, ↓reduceIte, zA, zI, zN, reduceCtorEq, Int.reduceToNat, zE, List.flatMap_nil, hstart]) trivial ?_
      rintro j hj
      by_cases hlj : j < n.pats.length
      · have e3 := getD_map av n.pats j .top hlj
        have hp1 := pats_take hlj
        have hp2 := pats_names n.pats j
        have hp3 := pats_names n.pats (j + 1)
        have hm3 := bulk_mem (List.getElem_mem hlj)
        rw [hp1, List.length_append] at hp3
        have hqn : Bulk.bulk n.pats[j] = Bulk.bulk n.pats[j].nodes + 1 := rfl
        have hql := bulk_length n.pats[j].nodes
        generalize n.pats[j] = q at *
        obtain ⟨K, hK⟩ : ∃ K, K = M ++ (n.pats.take j).flatMap (fun q => varsOf q.nodes) := ⟨_, rfl⟩
        have hKl : K.length + (varsOf q.nodes).length ≤ 2097152 := by rw [hK, List.length_append]; omega
        have hKf : namesR [] (M ++ (n.pats.take (j + 1)).flatMap (fun q => varsOf q.nodes)) = namesR [] (K ++ varsOf q.nodes) := by rw [hp1, hK, List.append_assoc]
        rw [← hK]
        simp +contextual -dsimp only [↓SD, SU, SB, Nat.reduceAdd, Nat.reduceBEq, Nat.reduceEqDiff, Nat.reduceLeDiff, Nat.reduceLT, Nat.reduceSub, ↓reduceIte, zA, zI, zN, reduceCtorEq, Int.reduceToNat, zE, Int.reduceEq, Int.reduceLT, Int.reduceLE, Int.reduceNeg, Int.reduceAdd, Int.reduceSub, map_len, hlj, e3, av_Pat]
        intro v7
        refine aLoop_of (X := Nat) (fun i => ⟨[(3, .sl ((namesR [] (K ++ varsOf (q.nodes.take i))).map av)), (16, .sl (p.nodes.map av)), (17, .int .i64 p.nodes.length), (18, .int .i64 k), (35, .sl (n.pats.map av)), (36, .int .i64 n.pats.length), (37, .int .i64 j), (42, .sl (q.nodes.map av)), (43, .int .i64 q.nodes.length), (44, .int .i64 i)], []⟩) (fun i => i ≤ q.nodes.length) (fun i => q.nodes.length - i) 0 (Nat.zero_le _) (by simp +contextual -dsimp only [↓SD, SU, SB, Nat.reduceAdd, Nat.reduceBEq, Nat.reduceEqDiff, Nat.reduceLeDiff, Nat.reduceLT, Nat.reduceSub, ↓reduceIte, zA, zI, zN, reduceCtorEq, Int.reduceToNat, zE, varsOf, List.filterMap_nil]) trivial ?_
        rintro i hi
        by_cases hli : i < q.nodes.length
        · have e4 := getD_map av q.nodes i .top hli
          have hv := varsOf_snoc hli
          have hvl := vars_le q.nodes i
          generalize q.nodes[i] = a at *
          have hnl := namesR_len (K ++ varsOf (q.nodes.take i))
          rw [List.length_append] at hnl
          have C4 := l15Put_ok (namesR [] (K ++ varsOf (q.nodes.take i))) a.s (by omega)
          by_cases h2 : a.kind = 2
          · rw [if_pos h2] at hv
            have hst : namesR [] (K ++ varsOf (q.nodes.take (i + 1))) = putS (namesR [] (K ++ varsOf (q.nodes.take i))) a.s := by rw [hv, ← List.append_assoc, namesR_app]; rfl
            simp +contextual -dsimp only [↓SD, SU, SB, Nat.reduceAdd, Nat.reduceBEq, Nat.reduceEqDiff, Nat.reduceLeDiff, Nat.reduceLT, Nat.reduceSub, ↓reduceIte, zA, zI, zN, reduceCtorEq, Int.reduceToNat, zE, Int.reduceEq, Int.reduceLT, Int.reduceLE, Int.reduceNeg, Int.reduceAdd, Int.reduceSub, map_len, hli, e4, av_PNode, h2]
            intro v9
            refine aCallK_of _ C4 ?_
            simp +contextual -dsimp only [↓SD, SU, SB, Nat.reduceAdd, Nat.reduceBEq, Nat.reduceEqDiff, Nat.reduceLeDiff, Nat.reduceLT, Nat.reduceSub, ↓reduceIte, zA, zI, zN, reduceCtorEq, Int.reduceToNat, zE, Int.reduceEq, Int.reduceLT, Int.reduceLE, Int.reduceNeg, Int.reduceAdd, Int.reduceSub]
            exact ⟨by omega, Goes.le ⟨i + 1, ⟨hli, (by first | omega | (simp only; omega))⟩, rfl⟩ (by simp +contextual -dsimp only [↓SD, SU, SB, Nat.reduceAdd, Nat.reduceBEq, Nat.reduceEqDiff, Nat.reduceLeDiff, Nat.reduceLT, Nat.reduceSub, ↓reduceIte, zA, zI, zN, reduceCtorEq, Int.reduceToNat, zE, Int.natCast_add, hst]) trivial⟩
          · rw [if_neg h2, List.append_nil] at hv
            simp +contextual -dsimp only [↓SD, SU, SB, Nat.reduceAdd, Nat.reduceBEq, Nat.reduceEqDiff, Nat.reduceLeDiff, Nat.reduceLT, Nat.reduceSub, ↓reduceIte, zA, zI, zN, reduceCtorEq, Int.reduceToNat, zE, Int.reduceEq, Int.reduceLT, Int.reduceLE, Int.reduceNeg, Int.reduceAdd, Int.reduceSub, map_len, hli, e4, av_PNode, h2]
            intro v9
            exact ⟨by omega, Goes.le ⟨i + 1, ⟨hli, (by first | omega | (simp only; omega))⟩, rfl⟩ (by simp +contextual -dsimp only [↓SD, SU, SB, Nat.reduceAdd, Nat.reduceBEq, Nat.reduceEqDiff, Nat.reduceLeDiff, Nat.reduceLT, Nat.reduceSub, ↓reduceIte, zA, zI, zN, reduceCtorEq, Int.reduceToNat, zE, Int.natCast_add, hv]) trivial⟩
        · obtain rfl : i = q.nodes.length := by omega
          simp +contextual -dsimp only [↓SD, SU, SB, Nat.reduceAdd, Nat.reduceBEq, Nat.reduceEqDiff, Nat.reduceLeDiff, Nat.reduceLT, Nat.reduceSub, ↓reduceIte, zA, zI, zN, reduceCtorEq, Int.reduceToNat, zE, Int.reduceEq, Int.reduceLT, Int.reduceLE, Int.reduceNeg, Int.reduceAdd, Int.reduceSub, map_len, Nat.lt_irrefl, List.take_length]
          exact ⟨by omega, Goes.le ⟨j + 1, ⟨hlj, (by first | omega | (simp only; omega))⟩, rfl⟩ (by simp +contextual -dsimp only [↓SD, SU, SB, Nat.reduceAdd, Nat.reduceBEq, Nat.reduceEqDiff, Nat.reduceLeDiff, Nat.reduceLT, Nat.reduceSub, ↓reduceIte, zA, zI, zN, reduceCtorEq, Int.reduceToNat, zE, Int.natCast_add, hKf]) trivial⟩
      · obtain rfl : j = n.pats.length := by omega
        simp +contextual -dsimp only [↓SD, SU, SB, Nat.reduceAdd, Nat.reduceBEq, Nat.reduceEqDiff, Nat.reduceLeDiff, Nat.reduceLT, Nat.reduceSub, ↓reduceIte, zA, zI, zN, reduceCtorEq, Int.reduceToNat, zE, Int.reduceEq, Int.reduceLT, Int.reduceLE, Int.reduceNeg, Int.reduceAdd, Int.reduceSub, map_len, Nat.lt_irrefl, List.take_length]
        exact ⟨by omega, Goes.le ⟨k + 1, ⟨hlt, (by first | omega | (simp only; omega))⟩, rfl⟩ (by simp +contextual -dsimp only [↓SD, SU, SB, Nat.reduceAdd, Nat.reduceBEq, Nat.reduceEqDiff, Nat.reduceLeDiff, Nat.reduceLT, Nat.reduceSub, ↓reduceIte, zA, zI, zN, reduceCtorEq, Int.reduceToNat, zE, Int.natCast_add, hfin]) trivial⟩
    | false =>
      rw [hbd] at C2
      simp +contextual -dsimp only [↓SD, SU, SB, Nat.reduceAdd, Nat.reduceBEq, Nat.reduceEqDiff, Nat.reduceLeDiff, Nat.reduceLT, Nat.reduceSub, ↓reduceIte, zA, zI, zN, reduceCtorEq, Int.reduceToNat, zE, Int.reduceEq, Int.reduceLT, Int.reduceLE, Int.reduceNeg, Int.reduceAdd, Int.reduceSub, map_len, hlt, e, av_Node, h3]
      intro v5
      refine aCallK_of _ C2 ?_
      simp +contextual -dsimp only [↓SD, SU, SB, Nat.reduceAdd, Nat.reduceBEq, Nat.reduceEqDiff, Nat.reduceLeDiff, Nat.reduceLT, Nat.reduceSub, ↓reduceIte, zA, zI, zN, reduceCtorEq, Int.reduceToNat, zE, Int.reduceEq, Int.reduceLT, Int.reduceLE, Int.reduceNeg, Int.reduceAdd, Int.reduceSub, map_len]
      obtain ⟨M, hM⟩ : ∃ M, M = L ++ ([] : List ByteArray) := ⟨_, rfl⟩
      have hMn : nodeNames n = ([] : List ByteArray) ++ n.pats.flatMap (fun q => varsOf q.nodes) := by simp [nodeNames, *]
      have hMl : M.length + (n.pats.flatMap (fun q => varsOf q.nodes)).length ≤ Bulk.bulk p.nodes := by
        rw [hMn, List.length_append] at hb1; rw [hM, List.length_append]; omega
      have hfin : allNames (p.nodes.take (k + 1)) = M ++ n.pats.flatMap (fun q => varsOf q.nodes) := by rw [hn1, hMn, hM, List.append_assoc]
      have hstart : namesR [] L = namesR [] M := by rw [hM, List.append_nil]
      refine aLoop_of (X := Nat) (fun j => ⟨[(3, .sl ((namesR [] (M ++ (n.pats.take j).flatMap (fun q => varsOf q.nodes))).map av)), (16, .sl (p.nodes.map av)), (17, .int .i64 p.nodes.length), (18, .int .i64 k), (35, .sl (n.pats.map av)), (36, .int .i64 n.pats.length), (37, .int .i64 j)], []⟩) (fun j => j ≤ n.pats.length) (fun j => n.pats.length - j) 0 (Nat.zero_le _) (by simp +contextual -dsimp only [↓SD, SU, SB, Nat.reduceAdd, Nat.reduceBEq, Nat.reduceEqDiff, Nat.reduceLeDiff, Nat.reduceLT, Nat.reduceSub, ↓reduceIte, zA, zI, zN, reduceCtorEq, Int.reduceToNat, zE, List.flatMap_nil, hstart]) trivial ?_
      rintro j hj
      by_cases hlj : j < n.pats.length
      · have e3 := getD_map av n.pats j .top hlj
        have hp1 := pats_take hlj
        have hp2 := pats_names n.pats j
        have hp3 := pats_names n.pats (j + 1)
        have hm3 := bulk_mem (List.getElem_mem hlj)
        rw [hp1, List.length_append] at hp3
        have hqn : Bulk.bulk n.pats[j] = Bulk.bulk n.pats[j].nodes + 1 := rfl
        have hql := bulk_length n.pats[j].nodes
        generalize n.pats[j] = q at *
        obtain ⟨K, hK⟩ : ∃ K, K = M ++ (n.pats.take j).flatMap (fun q => varsOf q.nodes) := ⟨_, rfl⟩
        have hKl : K.length + (varsOf q.nodes).length ≤ 2097152 := by rw [hK, List.length_append]; omega
        have hKf : namesR [] (M ++ (n.pats.take (j + 1)).flatMap (fun q => varsOf q.nodes)) = namesR [] (K ++ varsOf q.nodes) := by rw [hp1, hK, List.append_assoc]
        rw [← hK]
        simp +contextual -dsimp only [↓SD, SU, SB, Nat.reduceAdd, Nat.reduceBEq, Nat.reduceEqDiff, Nat.reduceLeDiff, Nat.reduceLT, Nat.reduceSub, ↓reduceIte, zA, zI, zN, reduceCtorEq, Int.reduceToNat, zE, Int.reduceEq, Int.reduceLT, Int.reduceLE, Int.reduceNeg, Int.reduceAdd, Int.reduceSub, map_len, hlj, e3, av_Pat]
        intro v7
        refine aLoop_of (X := Nat) (fun i => ⟨[(3, .sl ((namesR [] (K ++ varsOf (q.nodes.take i))).map av)), (16, .sl (p.nodes.map av)), (17, .int .i64 p.nodes.length), (18, .int .i64 k), (35, .sl (n.pats.map av)), (36, .int .i64 n.pats.length), (37, .int .i64 j), (42, .sl (q.nodes.map av)), (43, .int .i64 q.nodes.length), (44, .int .i64 i)], []⟩) (fun i => i ≤ q.nodes.length) (fun i => q.nodes.length - i) 0 (Nat.zero_le _) (by simp +contextual -dsimp only [↓SD, SU, SB, Nat.reduceAdd, Nat.reduceBEq, Nat.reduceEqDiff, Nat.reduceLeDiff, Nat.reduceLT, Nat.reduceSub, ↓reduceIte, zA, zI, zN, reduceCtorEq, Int.reduceToNat, zE, varsOf, List.filterMap_nil]) trivial ?_
        rintro i hi
        by_cases hli : i < q.nodes.length
        · have e4 := getD_map av q.nodes i .top hli
          have hv := varsOf_snoc hli
          have hvl := vars_le q.nodes i
          generalize q.nodes[i] = a at *
          have hnl := namesR_len (K ++ varsOf (q.nodes.take i))
          rw [List.length_append] at hnl
          have C4 := l15Put_ok (namesR [] (K ++ varsOf (q.nodes.take i))) a.s (by omega)
          by_cases h2 : a.kind = 2
          · rw [if_pos h2] at hv
            have hst : namesR [] (K ++ varsOf (q.nodes.take (i + 1))) = putS (namesR [] (K ++ varsOf (q.nodes.take i))) a.s := by rw [hv, ← List.append_assoc, namesR_app]; rfl
            simp +contextual -dsimp only [↓SD, SU, SB, Nat.reduceAdd, Nat.reduceBEq, Nat.reduceEqDiff, Nat.reduceLeDiff, Nat.reduceLT, Nat.reduceSub, ↓reduceIte, zA, zI, zN, reduceCtorEq, Int.reduceToNat, zE, Int.reduceEq, Int.reduceLT, Int.reduceLE, Int.reduceNeg, Int.reduceAdd, Int.reduceSub, map_len, hli, e4, av_PNode, h2]
            intro v9
            refine aCallK_of _ C4 ?_
            simp +contextual -dsimp only [↓SD, SU, SB, Nat.reduceAdd, Nat.reduceBEq, Nat.reduceEqDiff, Nat.reduceLeDiff, Nat.reduceLT, Nat.reduceSub, ↓reduceIte, zA, zI, zN, reduceCtorEq, Int.reduceToNat, zE, Int.reduceEq, Int.reduceLT, Int.reduceLE, Int.reduceNeg, Int.reduceAdd, Int.reduceSub]
            exact ⟨by omega, Goes.le ⟨i + 1, ⟨hli, (by first | omega | (simp only; omega))⟩, rfl⟩ (by simp +contextual -dsimp only [↓SD, SU, SB, Nat.reduceAdd, Nat.reduceBEq, Nat.reduceEqDiff, Nat.reduceLeDiff, Nat.reduceLT, Nat.reduceSub, ↓reduceIte, zA, zI, zN, reduceCtorEq, Int.reduceToNat, zE, Int.natCast_add, hst]) trivial⟩
          · rw [if_neg h2, List.append_nil] at hv
            simp +contextual -dsimp only [↓SD, SU, SB, Nat.reduceAdd, Nat.reduceBEq, Nat.reduceEqDiff, Nat.reduceLeDiff, Nat.reduceLT, Nat.reduceSub, ↓reduceIte, zA, zI, zN, reduceCtorEq, Int.reduceToNat, zE, Int.reduceEq, Int.reduceLT, Int.reduceLE, Int.reduceNeg, Int.reduceAdd, Int.reduceSub, map_len, hli, e4, av_PNode, h2]
            intro v9
            exact ⟨by omega, Goes.le ⟨i + 1, ⟨hli, (by first | omega | (simp only; omega))⟩, rfl⟩ (by simp +contextual -dsimp only [↓SD, SU, SB, Nat.reduceAdd, Nat.reduceBEq, Nat.reduceEqDiff, Nat.reduceLeDiff, Nat.reduceLT, Nat.reduceSub, ↓reduceIte, zA, zI, zN, reduceCtorEq, Int.reduceToNat, zE, Int.natCast_add, hv]) trivial⟩
        · obtain rfl : i = q.nodes.length := by omega
          simp +contextual -dsimp only [↓SD, SU, SB, Nat.reduceAdd, Nat.reduceBEq, Nat.reduceEqDiff, Nat.reduceLeDiff, Nat.reduceLT, Nat.reduceSub, ↓reduceIte, zA, zI, zN, reduceCtorEq, Int.reduceToNat, zE, Int.reduceEq, Int.reduceLT, Int.reduceLE, Int.reduceNeg, Int.reduceAdd, Int.reduceSub, map_len, Nat.lt_irrefl, List.take_length]
          exact ⟨by omega, Goes.le ⟨j + 1, ⟨hlj, (by first | omega | (simp only; omega))⟩, rfl⟩ (by simp +contextual -dsimp only [↓SD, SU, SB, Nat.reduceAdd, Nat.reduceBEq, Nat.reduceEqDiff, Nat.reduceLeDiff, Nat.reduceLT, Nat.reduceSub, ↓reduceIte, zA, zI, zN, reduceCtorEq, Int.reduceToNat, zE, Int.natCast_add, hKf]) trivial⟩
      · obtain rfl : j = n.pats.length := by omega
        simp +contextual -dsimp only [↓SD, SU, SB, Nat.reduceAdd, Nat.reduceBEq, Nat.reduceEqDiff, Nat.reduceLeDiff, Nat.reduceLT, Nat.reduceSub, ↓reduceIte, zA, zI, zN, reduceCtorEq, Int.reduceToNat, zE, Int.reduceEq, Int.reduceLT, Int.reduceLE, Int.reduceNeg, Int.reduceAdd, Int.reduceSub, map_len, Nat.lt_irrefl, List.take_length]
        exact ⟨by omega, Goes.le ⟨k + 1, ⟨hlt, (by first | omega | (simp only; omega))⟩, rfl⟩ (by simp +contextual -dsimp only [↓SD, SU, SB, Nat.reduceAdd, Nat.reduceBEq, Nat.reduceEqDiff, Nat.reduceLeDiff, Nat.reduceLT, Nat.reduceSub, ↓reduceIte, zA, zI, zN, reduceCtorEq, Int.reduceToNat, zE, Int.natCast_add, hfin]) trivial⟩
  · obtain rfl : k = p.nodes.length := by omega
    simp +contextual -dsimp only [↓SD, SU, SB, Nat.reduceAdd, Nat.reduceBEq, Nat.reduceEqDiff, Nat.reduceLeDiff, Nat.reduceLT, Nat.reduceSub, ↓reduceIte, zA, zI, zN, reduceCtorEq, Int.reduceToNat, zE, map_len, Nat.lt_irrefl, List.take_length]

end Go.Proofs.YtbcifdnfhoikiaaGreat


set_option linter.unusedVariables false
set_option linter.unusedSimpArgs false
namespace Go.Proofs.YtbcifdnfhoikiaaGreat
open Go.RowKit Go.Proofs.YtbcifdnfhoikiaaGreat.Av Go.Proofs.YtbcifdnfhoikiaaGreat.Ml
open Go.Proofs.YtbcifdnfhoikiaaGreat.Av.AVal (av)

def ltB (x y : List UInt8) : Bool := decide (x < y)
theorem ltB_strict : Srt.Strict ltB := ⟨fun a => by simp [ltB], fun a b c h1 h2 => by
  simp only [ltB, decide_eq_true_eq] at *; exact List.lt_trans h1 h2, fun a b h => by
  simp only [ltB, decide_eq_true_eq]
  by_cases h1 : a < b
  · exact .inl h1
  · by_cases h2 : b < a
    · exact .inr h2
    · exact absurd (List.le_antisymm (List.not_lt.1 h2) (List.not_lt.1 h1)) h⟩
theorem bl_lt : ∀ (x y : List UInt8), Op.bytesLess x y = decide (x < y)
  | [], [] => by simp [Op.bytesLess]
  | _ :: _, [] => by simp [Op.bytesLess]
  | [], _ :: _ => by simp [Op.bytesLess]
  | a :: x, b :: y => by
    have ih := bl_lt x y
    rw [Op.bytesLess, ih]
    simp only [List.cons_lt_cons_iff]
    by_cases h1 : a < b <;> by_cases h2 : a = b <;> by_cases h3 : x < y <;> simp [h1, h2, h3]
theorem lessS_as (a b : ByteArray) : lessS a b = ltB a.data.toList b.data.toList := by
  unfold lessS ltB; rw [bl_lt, ByteArray.toList_eq, ByteArray.toList_eq]
theorem ins_as (s : ByteArray) : ∀ l, toL (insG s l) = Srt.ins ltB s.data.toList (toL l)
  | [] => rfl
  | x :: r => by
    simp only [insG, toL, List.map_cons, Srt.ins, lessS_as]
    split
    · rfl
    · have := ins_as s r
      simp only [toL] at this
      rw [List.map_cons, this]
theorem any_as (s : ByteArray) (l : List ByteArray) : (l.any fun x => decide (x = s)) = ((toL l).any fun x => decide (x = s.data.toList)) := by
  unfold toL
  rw [List.any_map]
  congr 1
  funext x
  refine decide_eq_decide.2 ⟨fun h => by rw [h], fun h => ?_⟩
  have h2 : x.data = s.data := Array.toList_inj.1 h
  cases x; cases s; simp at h2; first | rw [h2] | done | simp [h2]
theorem put_as (l : List ByteArray) (s : ByteArray) : toL (putS l s) = Srt.put ltB (toL l) s.data.toList := by
  unfold putS Srt.put
  rw [any_as]
  have h2 : l.any (lessS s) = (toL l).any (ltB s.data.toList) := by
    unfold toL; rw [List.any_map]; congr 1; funext x; exact lessS_as s x
  rw [h2]
  split
  · rfl
  · split
    · exact ins_as s l
    · unfold toL; rw [List.map_append]; rfl
theorem fold_as : ∀ (m l : List ByteArray), toL (m.foldl putS l) = (toL m).foldl (Srt.put ltB) (toL l)
  | [], l => rfl
  | s :: m, l => by
    rw [List.foldl_cons, fold_as m, put_as]; rfl
theorem names_same (m : List ByteArray) : dedS (sortS m) = namesR [] m := by
  have h := fold_as m []
  have h2 := Srt.sort_put ltB_strict (fun x y : List UInt8 => decide (x ≤ y)) (fun a b => by
    simp only [ltB, decide_eq_true_eq]
    constructor
    · intro h
      by_cases e : a = b
      · exact .inl e
      · by_cases h1 : a < b
        · exact .inr h1
        · exact absurd (List.le_antisymm h (List.not_lt.1 h1)) e
    · rintro (rfl | h)
      · exact List.le_refl _
      · exact List.le_of_lt h) (toL m)
  unfold dedS sortS namesR
  rw [toL_ofL, h2, show ([] : List (List UInt8)) = toL [] from rfl, ← h, ofL_toL]
end Go.Proofs.YtbcifdnfhoikiaaGreat


set_option linter.unusedVariables false
set_option linter.unusedSimpArgs false
set_option maxRecDepth 100000
namespace Go.Proofs.YtbcifdnfhoikiaaGreat
open Go.RowKit Go.Proofs.YtbcifdnfhoikiaaGreat.Av Go.Proofs.YtbcifdnfhoikiaaGreat.Ml
open Go.Proofs.YtbcifdnfhoikiaaGreat.Av.AVal (av)
open OVal (ov oh on)

/-- what Names tells -/
def namesO (p : Program) : List ByteArray := if progB p = true then namesL p else []
theorem implNames_no (p : Program) (hx : Bulk.bulk p ≤ 1048576) (hb : progB p = false) : CallsH Tryz.prog 9 [av p] [] (fun r hp' => r = .nils ∧ hp' = []) := by
  refine funH_impl_Names rfl ?_
  have C := implProgramOk_ok p hx
  rw [av_Program, hb] at C
  simp +contextual -dsimp only [↓SD, SU, SB, Nat.reduceAdd, Nat.reduceBEq, Nat.reduceEqDiff, Nat.reduceLeDiff, Nat.reduceLT, Nat.reduceSub, ↓reduceIte, zA, zI, zN, reduceCtorEq, Int.reduceToNat, zE, ir_impl_Names, rs_impl_Names, av_Program, map_len]
  refine aCallK_of _ C ?_
  simp +contextual -dsimp only [↓SD, SU, SB, Nat.reduceAdd, Nat.reduceBEq, Nat.reduceEqDiff, Nat.reduceLeDiff, Nat.reduceLT, Nat.reduceSub, ↓reduceIte, zA, zI, zN, reduceCtorEq, Int.reduceToNat, zE]
  refine Goes.post [] ?_
  simp +contextual -dsimp only [↓SD, SU, SB, Nat.reduceAdd, Nat.reduceBEq, Nat.reduceEqDiff, Nat.reduceLeDiff, Nat.reduceLT, Nat.reduceSub, ↓reduceIte, zA, zI, zN, reduceCtorEq, Int.reduceToNat, zE]
theorem implNamesO_ok (nm : Nat) (p : Program) (hx : Bulk.bulk p ≤ 1048576) : CallsH Tryz.prog 9 [av p] [] (ToPost nm (namesO p)) := by
  cases hb : progB p with
  | false =>
    refine callsH_goes (implNames_no p hx hb) ?_
    rintro r hp' ⟨rfl, rfl⟩
    refine Goes.new 0 nm 9 1 rfl fun v => ?_
    have hN : namesO p = [] := by unfold namesO; rw [if_neg (by rw [hb]; decide)]
    rw [hN]
    refine Goes.here ⟨fun _ => v, rfl, ?_⟩
    rw [oh_strs]; rfl
  | true =>
    refine callsH_goes (implNames_ok p hx hb) ?_
    rintro r hp' ⟨v, rfl, rfl⟩
    have hN : namesO p = namesL p := by unfold namesO; rw [if_pos hb]
    rw [hN]
    refine Goes.trim 11 (namesL p).length rfl ?_
    refine Goes.ren 0 11 nm (v := v) (n := (namesL p).length) rfl rfl rfl fun v' => ?_
    refine Goes.le (t := ⟨[(0, .row nm v' (namesL p).length)], oh nm (fun _ => v') (namesL p)⟩) ⟨fun _ => v', rfl, rfl⟩ ⟨rfl, trivial⟩ ?_
    rw [oh_strs]
    refine ⟨?_, trivial⟩
    refine hg_eq.trans ?_
    simp only [List.map_append]
    rw [List.take_append_of_le_length (by simp), List.take_of_length_le (by simp)]
theorem specNames_no (p : Program) (hx : Bulk.bulk p ≤ 1048576) (hb : progB p = false) : CallsF Tryz.prog 7 [av p] (.sl []) := by
  refine fun_spec_Names rfl (by simp; exact AVal.clean p) (AvPure.sl (by simp)) ?_
  have C := specProgramOk_ok p hx
  rw [av_Program, hb] at C
  simp +contextual -dsimp only [↓SD, SU, SB, Nat.reduceAdd, Nat.reduceBEq, Nat.reduceEqDiff, Nat.reduceLeDiff, Nat.reduceLT, Nat.reduceSub, ↓reduceIte, zA, zI, zN, reduceCtorEq, Int.reduceToNat, zE, ir_spec_Names, rs_spec_Names, av_Program, map_len]
  refine aCallK_of _ C ?_
  simp +contextual -dsimp only [↓SD, SU, SB, Nat.reduceAdd, Nat.reduceBEq, Nat.reduceEqDiff, Nat.reduceLeDiff, Nat.reduceLT, Nat.reduceSub, ↓reduceIte, zA, zI, zN, reduceCtorEq, Int.reduceToNat, zE]
theorem specNamesO_ok (p : Program) (hx : Bulk.bulk p ≤ 1048576) : CallsF Tryz.prog 7 [av p] (.sl ((namesO p).map av)) := by
  cases hb : progB p with
  | false =>
    have hN : namesO p = [] := by unfold namesO; rw [if_neg (by rw [hb]; decide)]
    rw [hN]; exact specNames_no p hx hb
  | true =>
    have hN : namesO p = namesR [] (allNames p.nodes) := by unfold namesO; rw [if_pos hb]; exact names_same _
    rw [hN]; exact specNames_ok p hx hb
end Go.Proofs.YtbcifdnfhoikiaaGreat


set_option linter.unusedVariables false
set_option linter.unusedSimpArgs false
namespace Go.Proofs.YtbcifdnfhoikiaaGreat
open Go.RowKit Go.Proofs.YtbcifdnfhoikiaaGreat.Av Go.Proofs.YtbcifdnfhoikiaaGreat.Ml
open Go.Proofs.YtbcifdnfhoikiaaGreat.Av.AVal (av)

/-- the bulk of strings, summed -/
def sumB (l : List ByteArray) : Nat := (l.map Bulk.bulk).sum
theorem sumB_eq (l : List ByteArray) : Bulk.bulk l = sumB l + 1 := rfl
theorem sumB_flat {α : Type} (f : α → List ByteArray) : ∀ l : List α, sumB (l.flatMap f) = (l.map fun x => sumB (f x)).sum
  | [] => rfl
  | x :: l => by
    rw [List.flatMap_cons, List.map_cons, List.sum_cons, ← sumB_flat f l]
    unfold sumB; rw [List.map_append, List.sum_append]
theorem sumB_flat_le {α : Type} [Bulk α] (f : α → List ByteArray) (hf : ∀ x, sumB (f x) ≤ Bulk.bulk x) (l : List α) : sumB (l.flatMap f) + 1 ≤ Bulk.bulk l := by
  rw [sumB_flat]
  have h1 : ∀ m : List α, (m.map fun x => sumB (f x)).sum ≤ (m.map Bulk.bulk).sum := by
    intro m
    induction m with
    | nil => simp
    | cons x m ih => simp only [List.map_cons, List.sum_cons]; have := hf x; omega
  have h2 : Bulk.bulk l = (l.map Bulk.bulk).sum + 1 := rfl
  have := h1 l
  omega
theorem varsB (l : List PNode) : sumB (varsOf l) + 1 ≤ Bulk.bulk l := by
  have h1 : ∀ m : List PNode, sumB (varsOf m) ≤ (m.map Bulk.bulk).sum := by
    intro m
    induction m with
    | nil => simp [varsOf, sumB]
    | cons x m ih =>
      have hb : Bulk.bulk x = Bulk.bulk x.kind + Bulk.bulk x.n + Bulk.bulk x.s + Bulk.bulk x.kids + 1 := rfl
      simp only [varsOf, List.filterMap_cons, List.map_cons, List.sum_cons] at ih ⊢
      split
      · omega
      · next z hz =>
        split at hz
        · cases hz
          simp only [sumB, List.map_cons, List.sum_cons] at ih ⊢
          omega
        · exact absurd hz (by simp)
  have h2 : Bulk.bulk l = (l.map Bulk.bulk).sum + 1 := rfl
  have := h1 l
  omega
theorem patSumB (l : List Pat) : sumB (l.flatMap fun q => varsOf q.nodes) + 1 ≤ Bulk.bulk l :=
  sumB_flat_le _ (fun q => by have := varsB q.nodes; have h : Bulk.bulk q = Bulk.bulk q.nodes + 1 := rfl; omega) l
theorem nodeNamesB (n : Node) : sumB (nodeNames n) ≤ Bulk.bulk n := by
  have h := patSumB n.pats
  have hb : Bulk.bulk n = Bulk.bulk n.kind + Bulk.bulk n.pos + Bulk.bulk n.n + Bulk.bulk n.s + Bulk.bulk n.kids + Bulk.bulk n.pats + 1 := rfl
  have ha : ∀ a b : List ByteArray, sumB (a ++ b) = sumB a + sumB b := fun a b => by unfold sumB; rw [List.map_append, List.sum_append]
  unfold nodeNames
  rw [ha]
  split
  · have h1 : sumB [n.s] = Bulk.bulk n.s := by simp [sumB]
    omega
  · have h1 : sumB [] = 0 := rfl
    omega
theorem allNamesB (l : List Node) : sumB (allNames l) + 1 ≤ Bulk.bulk l := sumB_flat_le _ nodeNamesB l
theorem insB (s : ByteArray) : ∀ l, sumB (insG s l) ≤ Bulk.bulk s + sumB l
  | [] => by simp [insG, sumB]
  | x :: l => by
    unfold insG
    split
    · simp [sumB]
    · have := insB s l
      simp only [sumB, List.map_cons, List.sum_cons] at this ⊢
      omega
theorem putB (l : List ByteArray) (s : ByteArray) : sumB (putS l s) ≤ sumB l + Bulk.bulk s := by
  unfold putS
  split
  · omega
  · split
    · have := insB s l; omega
    · simp [sumB]
theorem foldB : ∀ (m l : List ByteArray), sumB (m.foldl putS l) ≤ sumB l + sumB m
  | [], l => by simp [sumB]
  | s :: m, l => by
    rw [List.foldl_cons]
    have h1 := foldB m (putS l s)
    have h2 := putB l s
    have h3 : sumB (s :: m) = Bulk.bulk s + sumB m := by simp [sumB]
    omega
theorem namesO_bulk (p : Program) : Bulk.bulk (namesO p) ≤ Bulk.bulk p := by
  rw [sumB_eq]
  have hb : Bulk.bulk p.nodes ≤ Bulk.bulk p := by
    have h : Bulk.bulk p = Bulk.bulk p.nodes + (Bulk.bulk p - Bulk.bulk p.nodes) := by
      first
      | (have h2 : Bulk.bulk p = Bulk.bulk p.types + Bulk.bulk p.nodes + 1 := rfl
         omega)
      | (have h2 : Bulk.bulk p = Bulk.bulk p.nodes + 1 := rfl
         omega)
    omega
  unfold namesO
  split
  · have h : namesL p = namesR [] (allNames p.nodes) := names_same _
    rw [h]
    have h1 := foldB (allNames p.nodes) []
    have h2 := allNamesB p.nodes
    have h3 : sumB [] = 0 := rfl
    unfold namesR
    omega
  · have h3 : sumB [] = 0 := rfl
    have := bulk_pos p.nodes
    omega
end Go.Proofs.YtbcifdnfhoikiaaGreat
