/-
 THE GROUND OF DATA, in one text. Conditions: none.
-/
import Derived.Test.YtmlckdffkbbbhaaGreatPackX
import Derived.Test.YtmlckdffkbbbhaaGreatPackT
import Derived.Test.YtmlckdffkbbbhaaGreatIrTidyS
import Derived.Test.YtmlckdffkbbbhaaGreatPackP
import Derived.Test.YtmlckdffkbbbhaaGreatPackG

set_option linter.unusedVariables false
set_option linter.unusedSimpArgs false
set_option maxRecDepth 100000
namespace Go.Proofs.YtmlckdffkbbbhaaGreat
open Go.RowKit Go.Proofs.YtmlckdffkbbbhaaGreat.Av Go.Proofs.YtmlckdffkbbbhaaGreat.Ml
open Go.Proofs.YtmlckdffkbbbhaaGreat.Av.AVal (av)

theorem sub_drop (t : Sub) : List.drop 7 (av t).cells = [] := List.drop_eq_nil_of_le (by rw [sub_len]; exact Nat.le_refl _)
theorem replTs_step {s : ByteArray} {a n : Node} {ks : List Tr} {j : Nat} (h : j < ks.length) : replTs s a n 0 (ks.take (j + 1)) = replTs s a n 0 (ks.take j) ++ [if boundB n j s = true then ks[j] else replT s a ks[j]] := by
 have key : ∀ (l : List Tr) (t : Tr) (i : Nat), replTs s a n i (l ++ [t]) = replTs s a n i l ++ [if boundB n (i + l.length) s = true then t else replT s a t] := by
  intro l
  induction l with
  | nil => intro t i; simp [replTs]
  | cons x r ih => intro t i; rw [List.cons_append, replTs, replTs, ih, List.cons_append, List.length_cons, show i + 1 + r.length = i + (r.length + 1) by omega]
 have ht : (ks.take j).length = j := by simp; omega
 rw [List.take_succ_eq_append_getElem h, key, ht, Nat.zero_add]
set_option maxHeartbeats 4000000 in
theorem l16Put_ok (s : ByteArray) (hs : s.size ≤ 1048576) (a : Node) : ∀ t : Tr, t.rk → t.size ≤ 1048576 → CallsF Tryz.prog 50 [av (Sub.mk t), .str s, av a] (av (Sub.mk (replT s a t))) := by
 refine Tr.ind fun n ks ih hrk hsz => ?_
 rw [Tr.rk] at hrk
 rw [Tr.size] at hsz
 have hkl := sizes_len ks
 have hkm : ((ks.map Sub.mk).map (av : Sub → AV)).length = ks.length := by simp
 have hfin : replT s a (.mk n ks) = if n.kind = 3 ∧ n.s = s then .mk { a with pos := n.pos } [] else .mk n (replTs s a n 0 ks) := by
  rw [replT]
  by_cases h3 : n.kind = 3
  ·have hks : ks = [] := List.eq_nil_of_length_eq_zero (hrk.1.1 (.inr (.inr (.inl h3))))
   subst hks
   by_cases hn : n.s = s
   ·rw [if_pos h3, if_pos hn, if_pos ⟨h3, hn⟩]
   ·rw [if_pos h3, if_neg hn, if_neg (fun h => hn h.2), replTs]
  ·rw [if_neg h3, if_neg (fun h => h3 h.1)]
 rw [hfin]
 have hcase : (n.kind = 3 ∧ n.s = s) ∨ (n.kind = 3 ∧ ¬ n.s = s) ∨ ¬ n.kind = 3 := by
  by_cases h3 : n.kind = 3
  ·by_cases hn : n.s = s
   ·exact .inl ⟨h3, hn⟩
   ·exact .inr (.inl ⟨h3, hn⟩)
  ·exact .inr (.inr h3)
 rcases hcase with ⟨h3, hn⟩ | ⟨h3, hn⟩ | h3
 ·rw [if_pos ⟨h3, hn⟩]
  refine callsF_weaker (r := .agg [.int .i64 a.kind, .int .i64 n.pos, .int .i64 a.n, .str a.s, .sl (a.kids.map av), .sl (a.pats.map av), .nils]) (fun_spec_l16Put rfl (by simp; exact ⟨AVal.clean _, AvPure.str _, AVal.clean _⟩) (AvPure.agg (by simp; exact ⟨pint _, pint _, pint _, AvPure.str _, lav_clean _, lav_clean _, AvPure.nils⟩)) ?_) (fun S w v h => by
   have := Av.VR.aggSet (off := 6) (y := .sl []) h rfl (fun x u hx hu => by cases hx; cases hu; exact .sl0 none 0 (Nat.zero_le _))
   rw [av_Sub]; exact this)
  have E3 := eq_true h3
  have En := eq_true hn
  simp +contextual -dsimp (maxSteps := 2000000) only [↓SD, SU, SB, simprocAttr, ir_spec_l16Put, rs_spec_l16Put, av_Sub, av_Node, E3, En]
  trace_state
 case' inr.inl =>
  rw [if_neg (fun h => hn h.2)]
  refine fun_spec_l16Put rfl (by simp; exact ⟨AVal.clean _, AvPure.str _, AVal.clean _⟩) (AVal.clean _) ?_
  have E3 := eq_true h3
  simp +contextual -dsimp (maxSteps := 2000000) only [↓SD, SU, SB, simprocAttr, ir_spec_l16Put, rs_spec_l16Put, av_Sub, av_Node, E3, hn, hkm]
  intro v5 v6 v7
  refine aLoop_goes (X := Nat × Nat) (fun x => ⟨[(1, .str s), (3, .obj [.int .i64 n.kind, .int .i64 n.pos, .int .i64 n.n, .str n.s, .sl (n.kids.map av), .sl (n.pats.map av), .sl ((ks.map Sub.mk).map av)]), (5, .ptr 5 v5 0 0), (6, .ptr 6 v6 0 0), (7, .ptr 7 v7 0 0), (32, .int .i64 ks.length), (33, .int .i64 x.1)], [(5, ⟨v5, false, 45, 6, [.agg [.int .i64 a.kind, .int .i64 a.pos, .int .i64 a.n, .str a.s, .sl (a.kids.map av), .sl (a.pats.map av)]]⟩), (6, ⟨v6, false, 48, 7, [.agg [.int .i64 0, .int .i64 0, .int .i64 0, .str (bs []), .nils, .nils, .nils]]⟩), (7, ⟨v7, false, 48, 7, [.agg [.int .i64 n.kind, .int .i64 n.pos, .int .i64 n.n, .str n.s, .sl (n.kids.map av), .sl (n.pats.map av), .row 55 x.2 x.1]]⟩), (55, ⟨x.2, false, 48, 7, ((replTs s a n 0 (ks.take x.1)).map Sub.mk).map av⟩)]⟩) (fun x => x.1 ≤ ks.length) (fun x => ks.length - x.1) ?_ ?_
  ·refine Goes.adoptB 7 0 6 55 48 7 rfl rfl Nat.zero_lt_one rfl (by decide) fun z => ?_
   exact Goes.le ⟨(0, z), Nat.zero_le _, rfl⟩ (by simp +contextual -dsimp only [↓SD, SU, SB, simprocAttr]) (by simp +contextual -dsimp only [↓SD, SU, SB, simprocAttr, List.take_zero, replTs, List.map_nil])
 case' inr.inr =>
  rw [if_neg (fun h => h3 h.1)]
  refine fun_spec_l16Put rfl (by simp; exact ⟨AVal.clean _, AvPure.str _, AVal.clean _⟩) (AVal.clean _) ?_
  simp +contextual -dsimp (maxSteps := 2000000) only [↓SD, SU, SB, simprocAttr, ir_spec_l16Put, rs_spec_l16Put, av_Sub, av_Node, h3, hkm]
  intro v5 v6 v7
  refine aLoop_goes (X := Nat × Nat) (fun x => ⟨[(1, .str s), (3, .obj [.int .i64 n.kind, .int .i64 n.pos, .int .i64 n.n, .str n.s, .sl (n.kids.map av), .sl (n.pats.map av), .sl ((ks.map Sub.mk).map av)]), (5, .ptr 5 v5 0 0), (6, .ptr 6 v6 0 0), (7, .ptr 7 v7 0 0), (32, .int .i64 ks.length), (33, .int .i64 x.1)], [(5, ⟨v5, false, 45, 6, [.agg [.int .i64 a.kind, .int .i64 a.pos, .int .i64 a.n, .str a.s, .sl (a.kids.map av), .sl (a.pats.map av)]]⟩), (6, ⟨v6, false, 48, 7, [.agg [.int .i64 0, .int .i64 0, .int .i64 0, .str (bs []), .nils, .nils, .nils]]⟩), (7, ⟨v7, false, 48, 7, [.agg [.int .i64 n.kind, .int .i64 n.pos, .int .i64 n.n, .str n.s, .sl (n.kids.map av), .sl (n.pats.map av), .row 55 x.2 x.1]]⟩), (55, ⟨x.2, false, 48, 7, ((replTs s a n 0 (ks.take x.1)).map Sub.mk).map av⟩)]⟩) (fun x => x.1 ≤ ks.length) (fun x => ks.length - x.1) ?_ ?_
  ·refine Goes.adoptB 7 0 6 55 48 7 rfl rfl Nat.zero_lt_one rfl (by decide) fun z => ?_
   exact Goes.le ⟨(0, z), Nat.zero_le _, rfl⟩ (by simp +contextual -dsimp only [↓SD, SU, SB, simprocAttr]) (by simp +contextual -dsimp only [↓SD, SU, SB, simprocAttr, List.take_zero, replTs, List.map_nil])
 all_goals
  rintro ⟨j, z⟩ hj
  dsimp only at hj ⊢
  by_cases hlt : j < ks.length
  ·have hlt3 : j < (ks.map Sub.mk).length := by rw [List.length_map]; exact hlt
   have e1 := getD_map av (ks.map Sub.mk) j .top hlt3
   rw [List.getElem_map] at e1
   have hm := List.getElem_mem hlt
   have hkr := rks_iff.1 hrk.2 _ hm
   have hks := sizes_mem hm
   have CB := l16Bound_ok n j s hrk.1.2.2.2.2.2.2 (by omega) (fun h => by have := hrk.1.2.2.1 h; omega)
   rw [av_Node] at CB
   have CR := ih ks[j] hm hkr (by omega)
   rw [av_Node] at CR
   have hst := replTs_step (s := s) (a := a) (n := n) hlt
   have hS : ((replTs s a n 0 (ks.take (j + 1))).map Sub.mk).map (av : Sub → AV) = ((replTs s a n 0 (ks.take j)).map Sub.mk).map av ++ [av (Sub.mk (if boundB n j s = true then ks[j] else replT s a ks[j]))] := by
    rw [hst, List.map_append, List.map_append]; rfl
   have hSl : (((replTs s a n 0 (ks.take j)).map Sub.mk).map (av : Sub → AV)).length = j := by simp [replTs_len]; omega
   generalize ((replTs s a n 0 (ks.take j)).map Sub.mk).map (av : Sub → AV) = SS at *
   generalize replT s a ks[j] = t' at *
   generalize ks[j] = t at *
   have hSt : List.take j SS = SS := List.take_of_length_le (by omega)
   cases hb : boundB n j s with
   | true =>
    rw [hb] at CB hS
    simp only [if_true] at hS
    simp +contextual -dsimp (maxSteps := 2000000) only [↓SD, SU, SB, simprocAttr, hlt, hkm, e1, sub_len, sub_agg, sub_pur, sub_purA, sub_ok]
    intro v9
    refine aCallK_of _ CB ?_
    simp +contextual -dsimp (maxSteps := 2000000) only [↓SD, SU, SB, simprocAttr, sub_len, sub_agg, sub_pur, sub_purA, sub_ok, elem1_ok, hSl, hSt]
    refine ⟨⟨by omega, by unfold maxLen; omega⟩, fun z' => ⟨by omega, Goes.le ⟨(j + 1, z'), ⟨hlt, (by first | omega | (simp only; omega))⟩, rfl⟩ (by simp +contextual -dsimp only [↓SD, SU, SB, simprocAttr, Int.natCast_add]) (by simp +contextual -dsimp only [↓SD, SU, SB, simprocAttr, hS])⟩⟩
   | false =>
    rw [hb] at CB hS
    simp only [Bool.false_eq_true, if_false] at hS
    simp +contextual -dsimp (maxSteps := 2000000) only [↓SD, SU, SB, simprocAttr, hlt, hkm, e1, sub_len, sub_agg, sub_pur, sub_purA, sub_ok]
    intro v9
    refine aCallK_of _ CB ?_
    simp +contextual -dsimp (maxSteps := 2000000) only [↓SD, SU, SB, simprocAttr, sub_len, sub_agg, sub_pur, sub_purA, sub_ok, elem1_ok, hSl, hSt]
    refine aCallK_of _ CR ?_
    simp +contextual -dsimp (maxSteps := 2000000) only [↓SD, SU, SB, simprocAttr, sub_drop, sub_len, sub_agg, sub_pur, sub_purA, sub_ok, elem1_ok, hSl, hSt]
    refine ⟨⟨by omega, by unfold maxLen; omega⟩, fun z' => ⟨by omega, Goes.le ⟨(j + 1, z'), ⟨hlt, (by first | omega | (simp only; omega))⟩, rfl⟩ (by simp +contextual -dsimp only [↓SD, SU, SB, simprocAttr, Int.natCast_add]) (by simp +contextual -dsimp only [↓SD, SU, SB, simprocAttr, hS])⟩⟩
  ·obtain rfl : j = ks.length := by omega
   rw [List.take_length]
   have hSl : (((replTs s a n 0 ks).map Sub.mk).map (av : Sub → AV)).length = ks.length := by simp [replTs_len]
   have hSt : List.take ks.length (((replTs s a n 0 ks).map Sub.mk).map (av : Sub → AV)) = ((replTs s a n 0 ks).map Sub.mk).map av := List.take_of_length_le (by omega)
   have hSm : ∀ hp, (((replTs s a n 0 ks).map Sub.mk).map (av : Sub → AV)).map (AV.pur hp) = ((replTs s a n 0 ks).map Sub.mk).map av := fun hp => map_nop _ hp
   simp +contextual -dsimp (maxSteps := 2000000) only [↓SD, SU, SB, simprocAttr, Nat.lt_irrefl, hSl, hSt, hSm]
end Go.Proofs.YtmlckdffkbbbhaaGreat

namespace Go.Proofs.YtmlckdffkbbbhaaGreat
open Go.RowKit Go.Proofs.YtmlckdffkbbbhaaGreat.Av Go.Proofs.YtmlckdffkbbbhaaGreat.Ml
open Go.Proofs.YtmlckdffkbbbhaaGreat.Av.AVal (av)

def bareN (n : Node) (m : Nat) : Node := { n with kids := List.replicate m 0 }
theorem l16Bare_ok (n : Node) (ks : List Tr) (hl : ks.length ≤ 1048576) : CallsF Tryz.prog 49 [av (Sub.mk (.mk n ks))] (av (bareN n ks.length)) := by
 refine fun_spec_l16Bare rfl (by simp; exact AVal.clean _) (AVal.clean _) ?_
 have hkm : ((ks.map Sub.mk).map (av : Sub → AV)).length = ks.length := by simp
 have hr : (List.replicate ks.length (0 : Int)).map (av : Int → AV) = List.replicate ks.length (.int .i64 0) := by rw [List.map_replicate]; rfl
 have hm : ∀ hp, (List.replicate ks.length (AV.int .i64 0)).map (AV.pur hp) = List.replicate ks.length (.int .i64 0) := fun hp => by rw [List.map_replicate]; rfl
 have ht : List.take ks.length (List.replicate ks.length (AV.int .i64 0)) = List.replicate ks.length (.int .i64 0) := List.take_of_length_le (by simp)
 unfold bareN
 rw [av_Node, hr]
 simp +contextual -dsimp (maxSteps := 2000000) only [↓SD, SU, SB, simprocAttr, ir_spec_l16Bare, rs_spec_l16Bare, av_Sub, hkm, hm, ht, List.length_replicate, Nat.le_refl]
 omega
theorem l16AtomB_ok (n : Node) (m : Nat) (hl : m ≤ 1048576) : CallsF Tryz.prog 48 [av (bareN n m)] (.bool (plainB n m)) := by
 have C := l16Atom_ok (bareN n m) (by simp [bareN]; exact hl)
 have e : plainB (bareN n m) (bareN n m).kids.length = plainB n m := by
  rw [show (bareN n m).kids.length = m from List.length_replicate]; rfl
 rw [e] at C
 exact C
set_option maxHeartbeats 4000000 in
theorem l16Spread_ok : ∀ t : Tr, t.rk → t.size ≤ 600 → CallsF Tryz.prog 21 [av (Sub.mk t)] (av (Sub.mk (rewT spreadR t))) := by
 refine Tr.ind fun n ks ih hrk hsz => ?_
 refine fun_spec_l16Spread rfl (by simp; exact AVal.clean _) (AVal.clean _) ?_
 rw [Tr.rk] at hrk
 rw [Tr.size] at hsz
 have hkl := sizes_len ks
 have hkm : ((ks.map Sub.mk).map (av : Sub → AV)).length = ks.length := by simp
 have hall := fun k hk => rewT_rk (R := spreadR) (fun t h => spreadR_rk h) k (rks_iff.1 hrk.2 k hk)
 simp +contextual -dsimp (maxSteps := 2000000) only [↓SD, SU, SB, simprocAttr, ir_spec_l16Spread, rs_spec_l16Spread, av_Sub, hkm]
 intro v2 v3
 refine aLoop_goes (X := Nat × Nat) (fun x => ⟨[(1, .obj [.int .i64 n.kind, .int .i64 n.pos, .int .i64 n.n, .str n.s, .sl (n.kids.map av), .sl (n.pats.map av), .sl ((ks.map Sub.mk).map av)]), (2, .ptr 2 v2 0 0), (3, .ptr 3 v3 0 0), (10, .int .i64 ks.length), (11, .int .i64 x.1)], [(2, ⟨v2, false, 48, 7, [.agg [.int .i64 0, .int .i64 0, .int .i64 0, .str (bs []), .nils, .nils, .nils]]⟩), (3, ⟨v3, false, 48, 7, [.agg [.int .i64 n.kind, .int .i64 n.pos, .int .i64 n.n, .str n.s, .sl (n.kids.map av), .sl (n.pats.map av), .row 23 x.2 x.1]]⟩), (23, ⟨x.2, false, 48, 7, (((ks.take x.1).map (rewT spreadR)).map Sub.mk).map av⟩)]⟩) (fun x => x.1 ≤ ks.length) (fun x => ks.length - x.1) ?_ ?_
 ·refine Goes.adoptB 3 0 6 23 48 7 rfl rfl Nat.zero_lt_one rfl (by decide) fun z => ?_
  exact Goes.le ⟨(0, z), Nat.zero_le _, rfl⟩ (by simp +contextual -dsimp only [↓SD, SU, SB, simprocAttr]) (by simp +contextual -dsimp only [↓SD, SU, SB, simprocAttr, List.take_zero, List.map_nil])
 rintro ⟨j, z⟩ hj
 dsimp only at hj ⊢
 by_cases hlt : j < ks.length
 ·have hlt3 : j < (ks.map Sub.mk).length := by rw [List.length_map]; exact hlt
  have e1 := getD_map av (ks.map Sub.mk) j .top hlt3
  rw [List.getElem_map] at e1
  have hm := List.getElem_mem hlt
  have hkr := rks_iff.1 hrk.2 _ hm
  have hks := sizes_mem hm
  have CR := ih ks[j] hm hkr (by omega)
  have hS : (((ks.take (j + 1)).map (rewT spreadR)).map Sub.mk).map (av : Sub → AV) = (((ks.take j).map (rewT spreadR)).map Sub.mk).map av ++ [av (Sub.mk (rewT spreadR ks[j]))] := by
   rw [List.take_succ_eq_append_getElem hlt, List.map_append, List.map_append, List.map_append]; rfl
  have hSl : ((((ks.take j).map (rewT spreadR)).map Sub.mk).map (av : Sub → AV)).length = j := by simp; omega
  generalize (((ks.take j).map (rewT spreadR)).map Sub.mk).map (av : Sub → AV) = SS at *
  generalize rewT spreadR ks[j] = t' at *
  generalize ks[j] = t at *
  have hSt : List.take j SS = SS := List.take_of_length_le (by omega)
  simp +contextual -dsimp (maxSteps := 2000000) only [↓SD, SU, SB, simprocAttr, hlt, hkm, e1, sub_len, sub_agg, sub_pur, sub_purA, sub_ok]
  refine aCallK_of _ CR ?_
  simp +contextual -dsimp (maxSteps := 2000000) only [↓SD, SU, SB, simprocAttr, sub_len, sub_agg, sub_pur, sub_purA, sub_ok, elem1_ok, hSl, hSt]
  refine ⟨⟨by omega, by unfold maxLen; omega⟩, fun z' => ⟨by omega, Goes.le ⟨(j + 1, z'), ⟨hlt, (by first | omega | (simp only; omega))⟩, rfl⟩ (by simp +contextual -dsimp only [↓SD, SU, SB, simprocAttr, Int.natCast_add]) (by simp +contextual -dsimp only [↓SD, SU, SB, simprocAttr, hS])⟩⟩
 ·obtain rfl : j = ks.length := by omega
  rw [List.take_length]
  have hSl : (((ks.map (rewT spreadR)).map Sub.mk).map (av : Sub → AV)).length = ks.length := by simp
  have hSt : List.take ks.length (((ks.map (rewT spreadR)).map Sub.mk).map (av : Sub → AV)) = ((ks.map (rewT spreadR)).map Sub.mk).map av := List.take_of_length_le (by omega)
  have hSm : ∀ hp, (((ks.map (rewT spreadR)).map Sub.mk).map (av : Sub → AV)).map (AV.pur hp) = ((ks.map (rewT spreadR)).map Sub.mk).map av := fun hp => map_nop _ hp
  rw [rewT_mk]
  have hll : (ks.map (rewT spreadR)).length = ks.length := List.length_map _
  have hall2 : ∀ k ∈ ks.map (rewT spreadR), k.rk ∧ k.size ≤ 600 := fun k hk => by
   obtain ⟨q, hq, rfl⟩ := List.mem_map.1 hk
   have h1 := hall q hq
   have h2 := sizes_mem hq
   exact ⟨h1.1, by omega⟩
  simp +contextual -dsimp (maxSteps := 2000000) only [↓SD, SU, SB, simprocAttr, Nat.lt_irrefl]
  generalize ks.map (rewT spreadR) = L at *
  refine ghost_of (Goes.frz 23 (Goes.purB 3 (b := ⟨v3, false, 48, 7, [.agg [.int .i64 n.kind, .int .i64 n.pos, .int .i64 n.n, .str n.s, .sl (n.kids.map av), .sl (n.pats.map av), .row 23 z ks.length]]⟩) rfl (Goes.here ?_)))
  by_cases h7 : n.kind = 7
  ·have hl2 : L.length = 2 := by rw [hll]; exact hrk.1.2.1 h7
   obtain ⟨a, b, rfl⟩ : ∃ a b, L = [a, b] := by
    match L, hl2 with
    | [a, b], _ => exact ⟨a, b, rfl⟩
   obtain ⟨m, js⟩ := a
   have ha := hall2 (.mk m js) (by simp)
   have hb := hall2 b (by simp)
   have E7 := eq_true h7
   have hk2 : ks.length = 2 := by rw [← hll]; exact hl2
   have hjl : js.length ≤ 600 := by have h1 := ha.2; rw [Tr.size] at h1; have := sizes_len js; omega
   have hjm : ((js.map Sub.mk).map (av : Sub → AV)).length = js.length := by simp
   have hspr : spreadR (.mk n [.mk m js, b]) = if plainB m js.length = true then replT n.s m b else .mk n [.mk m js, b] := by
    rw [spreadR]
    show (if n.kind = 7 ∧ plainB m js.length = true then _ else _) = _
    by_cases hp : plainB m js.length = true
    ·rw [if_pos ⟨h7, hp⟩, if_pos hp]; rfl
    ·rw [if_neg (fun h => hp h.2), if_neg hp]
   rw [hspr]
   by_cases hj0 : js.length = 0
   ·have hjs := List.eq_nil_of_length_eq_zero hj0
    subst hjs
    have CB := l16Bare_ok m [] (by simp)
    have CA := l16AtomB_ok m 0 (by omega)
    rw [show ([] : List Tr).length = 0 from rfl] at CB ⊢
    rw [av_Sub] at CB
    simp only [av_Node, List.map_nil] at CB CA
    have hns : n.s.size ≤ 1048576 := by have h1 := hrk.1.2.2.2.2.2.1; simp only [nodeW] at h1; omega
    have CP := l16Put_ok n.s hns m b hb.1 (by omega)
    rw [av_Node] at CP
    cases hp : plainB m 0 with
    | true =>
     rw [hp] at CA
     rw [if_pos rfl]
     generalize replT n.s m b = R at *
     obtain ⟨rn, rks⟩ := R
     rw [av_Sub] at CP ⊢
     simp +contextual -dsimp (maxSteps := 2000000) only [↓SD, SU, SB, simprocAttr, hk2, E7, Nat.le_refl, hjm, av_Sub, sub_len, sub_agg, sub_pur, sub_purA, sub_ok]
     refine aCallK_of _ CB ?_
     simp +contextual -dsimp (maxSteps := 2000000) only [↓SD, SU, SB, simprocAttr, hk2, Nat.le_refl, hjm, av_Sub, sub_len, sub_agg, sub_pur, sub_purA, sub_ok]
     refine aCallK_of _ CA ?_
     simp +contextual -dsimp (maxSteps := 2000000) only [↓SD, SU, SB, simprocAttr, hk2, Nat.le_refl, hjm, av_Sub, sub_len, sub_agg, sub_pur, sub_purA, sub_ok]
     refine aCallK_of _ CP ?_
     simp +contextual -dsimp (maxSteps := 2000000) only [↓SD, SU, SB, simprocAttr, hk2, Nat.le_refl, hjm, av_Sub, sub_len, sub_agg, sub_pur, sub_purA, sub_ok]
    | false =>
     rw [hp] at CA
     rw [if_neg (by simp)]
     simp +contextual -dsimp (maxSteps := 2000000) only [↓SD, SU, SB, simprocAttr, hk2, E7, Nat.le_refl, hjm, av_Sub, sub_len, sub_agg, sub_pur, sub_purA, sub_ok]
     refine aCallK_of _ CB ?_
     simp +contextual -dsimp (maxSteps := 2000000) only [↓SD, SU, SB, simprocAttr, hk2, Nat.le_refl, hjm, av_Sub, sub_len, sub_agg, sub_pur, sub_purA, sub_ok]
     refine aCallK_of _ CA ?_
     simp +contextual -dsimp (maxSteps := 2000000) only [↓SD, SU, SB, simprocAttr, hk2, Nat.le_refl, hjm, av_Sub, sub_len, sub_agg, sub_pur, sub_purA, sub_ok]
   ·have hpf : ¬ plainB m js.length = true := fun hp => by
     obtain ⟨h1, _⟩ := plain_mk ha.1 (show plainT (.mk m js) = true from hp)
     cases h1
     exact hj0 rfl
    have hji : ((js.length : Int) = 0) = False := eq_false (by omega)
    rw [if_neg hpf]
    simp +contextual -dsimp (maxSteps := 2000000) only [↓SD, SU, SB, simprocAttr, hk2, E7, Nat.le_refl, hjm, hji, av_Sub, sub_len, sub_agg, sub_pur, sub_purA, sub_ok]
  ·have E7 := eq_false h7
   have hspr : spreadR (.mk n L) = .mk n L := by rw [spreadR, if_neg (fun h => h7 h.1)]
   rw [hspr]
   simp +contextual -dsimp (maxSteps := 2000000) only [↓SD, SU, SB, simprocAttr, hSl, hSt, hSm, E7, Nat.le_refl]
   rw [av_Sub]
theorem l16Program_ok (p : Program) (t : Tr) (hx : Bulk.bulk p.types ≤ 1048576) (hsz : t.size ≤ 600) : CallsF Tryz.prog 20 [av p, av (Sub.mk t)] (av (⟨p.types, layT 0 t⟩ : Program)) := by
 refine fun_spec_l16Program rfl (by simp; exact ⟨AVal.clean _, AVal.clean _⟩) (AVal.clean _) ?_
 have CT := l15Types_ok p.types hx
 have CL := l03LayF_ok t (by omega)
 have hll := layT_len t 0
 obtain ⟨n, ks⟩ := t
 generalize layT 0 (Tr.mk n ks) = L at *
 have hlm : ∀ hp, (L.map (av : Node → AV)).map (AV.pur hp) = L.map av := fun hp => map_nop _ hp
 have htm : ∀ hp, (p.types.map (av : TypeD → AV)).map (AV.pur hp) = p.types.map av := fun hp => map_nop _ hp
 have hLl : (L.map (av : Node → AV)).length = L.length := List.length_map _
 have hbig : ¬ (600 : Int) < (L.length : Int) := by omega
 rw [av_Program, av_Program, av_Sub] at *
 simp +contextual -dsimp (maxSteps := 2000000) only [↓SD, SU, SB, simprocAttr, ir_spec_l16Program, rs_spec_l16Program]
 intro v4
 refine aCallK_of _ CT ?_
 simp +contextual -dsimp (maxSteps := 2000000) only [↓SD, SU, SB, simprocAttr]
 refine aCallK_of _ CL ?_
 simp +contextual -dsimp (maxSteps := 2000000) only [↓SD, SU, SB, simprocAttr, hlm, htm, hLl, hbig]
 trace_state
theorem nilP_w {S : Nat → Prop} {w : World} {v : Value} (h : VR S w mu0 v (.agg [.nils, .nils])) : VR S w mu0 v (av (⟨[], []⟩ : Program)) := by
 rw [av_Program]
 have h1 := Av.VR.aggSet (off := 0) (y := .sl []) h rfl (fun x u hx hu => by cases hx; cases hu; exact .sl0 none 0 (Nat.zero_le _))
 exact Av.VR.aggSet (off := 1) (y := .sl []) h1 rfl (fun x u hx hu => by cases hx; cases hu; exact .sl0 none 0 (Nat.zero_le _))
theorem specSpread_ok (p : Program) (hx : Bulk.bulk p ≤ 1048576) : CallsF Tryz.prog 7 [av p] (av (rewP spreadR p)) := by
 obtain ⟨q1, q2, q3, q4⟩ := prog_small hx
 have C := specProgramOk_ok p hx
 rw [av_Program] at C
 cases hb : progB p with
 | false =>
  rw [hb] at C
  have e : rewP spreadR p = ⟨[], []⟩ := by rw [rewP, if_neg (by rw [hb]; simp)]
  rw [e]
  refine callsF_weaker (r := .agg [.nils, .nils]) (fun_spec_Spread rfl (by simp; exact AVal.clean p) (AvPure.agg (by simp; exact AvPure.nils)) ?_) (fun S w v h => nilP_w h)
  simp +contextual -dsimp (maxSteps := 2000000) only [↓SD, SU, SB, simprocAttr, ir_spec_Spread, rs_spec_Spread, av_Program]
  intro v2
  refine aCallK_of _ C ?_
  simp +contextual -dsimp (maxSteps := 2000000) only [↓SD, SU, SB, simprocAttr]
 | true =>
  rw [hb] at C
  obtain ⟨f1, f2, f3, f4, f5⟩ := prog_facts hx hb
  have hk : ∀ i, i < p.nodes.length → ∀ k ∈ nkids p.nodes i, (i : Int) < k ∧ k < p.nodes.length := fun i hi k hk => tree_in f3 hi hk
  have G := l09Sub_ok p hk q2 p.nodes.length 0 (by omega) (by omega)
  rw [show growT p.nodes p.nodes.length 0 = treeAt p.nodes 0 from rfl, av_Program] at G
  have hT := tree_K hx hb
  have hsz := (tree_facts hx hb).2.2.2.1
  have CS := l16Spread_ok _ hT hsz
  have hR := rewT_rk (R := spreadR) (fun t h => spreadR_rk h) _ hT
  have CP := l16Program_ok p _ q1 (show (rewT spreadR (treeAt p.nodes 0)).size ≤ 600 by omega)
  have e : rewP spreadR p = ⟨p.types, layT 0 (rewT spreadR (treeAt p.nodes 0))⟩ := by rw [rewP, if_pos hb]
  rw [e]
  rw [av_Program, av_Program] at CP
  rw [av_Program]
  refine fun_spec_Spread rfl (by simp; exact AVal.clean p) (AVal.clean (⟨p.types, layT 0 (rewT spreadR (treeAt p.nodes 0))⟩ : Program)) ?_
  clear e hR
  generalize rewT spreadR (treeAt p.nodes 0) = T' at *
  generalize treeAt p.nodes 0 = T at *
  generalize layT 0 T' = L at *
  have hlm : ∀ hp, (L.map (av : Node → AV)).map (AV.pur hp) = L.map av := fun hp => map_nop _ hp
  have htm : ∀ hp, (p.types.map (av : TypeD → AV)).map (AV.pur hp) = p.types.map av := fun hp => map_nop _ hp
  simp +contextual -dsimp (maxSteps := 2000000) only [↓SD, SU, SB, simprocAttr, ir_spec_Spread, rs_spec_Spread, av_Program]
  intro v2
  refine aCallK_of _ C ?_
  simp +contextual -dsimp (maxSteps := 2000000) only [↓SD, SU, SB, simprocAttr]
  refine aCallK_of _ G ?_
  simp +contextual -dsimp (maxSteps := 2000000) only [↓SD, SU, SB, simprocAttr, sub_purA]
  refine aCallK_of _ CS ?_
  simp +contextual -dsimp (maxSteps := 2000000) only [↓SD, SU, SB, simprocAttr, sub_purA]
  refine aCallK_of _ CP ?_
  simp +contextual -dsimp (maxSteps := 2000000) only [↓SD, SU, SB, simprocAttr, hlm, htm]
end Go.Proofs.YtmlckdffkbbbhaaGreat

namespace Go.Proofs.YtmlckdffkbbbhaaGreat
open Go.RowKit Go.Proofs.YtmlckdffkbbbhaaGreat.Av Go.Proofs.YtmlckdffkbbbhaaGreat.Ml
open Go.Proofs.YtmlckdffkbbbhaaGreat.Av.AVal (av)

theorem eqNodeS_big (l : List Node) (hl : l.length ≤ 1048576) (hx : ∀ n ∈ l, Bulk.bulk n ≤ 1048576) : CallsF Tryz.prog 31 [.sl (l.map av), .sl (l.map av)] (.bool true) := by
 refine fun_laws_eqNodeS rfl (by simp; exact lav_clean l) (AvPure.bool _) ?_
 simp +contextual -dsimp (maxSteps := 2000000) only [↓SD, SU, SB, simprocAttr, ir_laws_eqNodeS, rs_laws_eqNodeS, map_len]
 refine aLoop_of (X := Nat) (fun k => ⟨[(0, .sl (l.map av)), (1, .sl (l.map av)), (5, .int .i64 k)], []⟩) (fun k => k ≤ l.length) (fun k => l.length - k) 0 (Nat.zero_le _) (by simp +contextual -dsimp only [↓SD, SU, SB, simprocAttr]) trivial ?_
 intro k hk
 by_cases hlt : k < l.length
 ·have e := getD_map av l k .top hlt
  have hbk : Bulk.bulk l[k] ≤ 1048576 := hx _ (List.getElem_mem hlt)
  simp +contextual -dsimp (maxSteps := 2000000) only [↓SD, SU, SB, simprocAttr, map_len, hlt, e, av_Node]
  have C := eqNode_ok l[k] hbk
  rw [av_Node] at C
  refine aCallK_of _ C ?_
  simp +contextual -dsimp (maxSteps := 2000000) only [↓SD, SU, SB, simprocAttr, map_len, hlt, e, av_Node]
  exact ⟨by omega, Goes.le ⟨k + 1, ⟨hlt, (by first | omega | (simp only; omega))⟩, rfl⟩ (by simp +contextual -dsimp only [↓SD, SU, SB, simprocAttr, Int.natCast_add]) trivial⟩
 ·obtain rfl : k = l.length := by omega
  simp +contextual -dsimp (maxSteps := 2000000) only [↓SD, SU, SB, simprocAttr, map_len, Nat.lt_irrefl]
theorem eqProgram_big (x : Program) (h1 : Bulk.bulk x.types ≤ 1048576) (h2 : x.nodes.length ≤ 1048576) (h3 : ∀ n ∈ x.nodes, Bulk.bulk n ≤ 1048576) : CallsF Tryz.prog 10 [av x, av x] (.bool true) := by
 refine fun_laws_eqProgram rfl (by simp; exact AVal.clean x) (AvPure.bool _) ?_
 simp +contextual -dsimp (maxSteps := 2000000) only [↓SD, SU, SB, simprocAttr, ir_laws_eqProgram, rs_laws_eqProgram, av_Program, beq_self_eq_true]
 refine aCallK_of _ (eqTypeS_ok x.types h1) ?_
 simp +contextual -dsimp (maxSteps := 2000000) only [↓SD, SU, SB, simprocAttr, beq_self_eq_true]
 refine aCallK_of _ (eqNodeS_big x.nodes h2 h3) ?_
 simp +contextual -dsimp (maxSteps := 2000000) only [↓SD, SU, SB, simprocAttr, beq_self_eq_true]
end Go.Proofs.YtmlckdffkbbbhaaGreat
